/- Walk of pentimentoref31.Parse. -/
import Derived.Test.YtmakpilfjopmeaaDoorShow2
import Derived.Test.YtmakpilfjopmeaaDoorShow3
import Derived.Test.YtmakpilfjopmeaaDoorLaw05
import Derived.Deep.RegionLaw
import Derived.Deep.DrawnRows
import Derived.Outline
import Derived.Deep.CutBlock
set_option linter.unusedVariables false
set_option linter.unusedSimpArgs false
namespace Go.Proofs.YtmakpilfjopmeaaDoor
open Go Go.RowKit Go.Lib Go.Shelf

/-- An answer in a box of the call's own, its list in a row of the call's own; beside it the box of the result, as it was made. -/
structure AnsAt (w : World) (g : Nat) (v : Value) (x : Ans) (W : World) : Prop where
  own : W.ownsRow w.heap.size 3 1 v x.list.length (nums .i64 x.list)
  box : Blk W g 57 #[.int .i64 x.why, .int .i64 x.n, .int .i64 x.m, .string (Bs x.data), v]
  res : Blk W w.heap.size 57 #[.int .i64 0, .int .i64 0, .int .i64 0, .string ⟨#[]⟩, .slice none 0 0]
  ne : w.heap.size < g
  below : Below w.heap.size w W
theorem AnsAt.call {w W W2 : World} {g : Nat} {v : Value} {x : Ans} (h : AnsAt w g v x W) (hb : Below W.heap.size W W2) : AnsAt w g v x W2 :=
  ⟨h.own.kept (own_grown_below hb) (by rcases v.ownBlock with _ | _ <;> simp), h.box.below hb h.box.lt, h.res.below hb h.res.lt, h.ne, h.below.trans (hb.mono h.below.size)⟩
theorem grown_set (W : World) (g i : Nat) (u : Value) : W.grownBy (W.setCell ⟨g, i, none⟩ u) (some g) :=
  ⟨rfl, rfl, rfl, by simp [World.setCell], fun k _ hk => Below.heap_setCell _ _ _ k (fun e => hk (by rw [e]))⟩
theorem own_set_far {w : World} {base n g : Nat} {e t : TypeId} {cs : Array Value} {v u : Value} {xs : List Value} {i : Nat} (h : w.ownsRow base e 1 v n xs) (hg : Blk w g t cs) (hne : e ≠ t) : (w.setCell ⟨g, i, none⟩ u).ownsRow base e 1 v n xs :=
  h.kept (grown_set w g i u) (by
    rcases hq : v.ownBlock with _ | q
    · exact .inl rfl
    · exact .inr (fun e => hg.own_ne h hne (by rw [hq, e])))
section
variable {w W W2 : World} {g : Nat} {v : Value} {x : Ans}
theorem AnsAt.why_ (h : AnsAt w g v x W) (k : Int) : AnsAt w g v { x with why := k } (W.setCell ⟨g, 0, none⟩ (.int .i64 k)) :=
  ⟨own_set_far h.own h.box (by decide), h.box.set_ 0 _, h.res.far (by have := h.ne; simp; omega) _, h.ne, h.below.setCell (by have := h.ne; simp; omega) _⟩
theorem AnsAt.n_ (h : AnsAt w g v x W) (k : Int) : AnsAt w g v { x with n := k } (W.setCell ⟨g, 1, none⟩ (.int .i64 k)) :=
  ⟨own_set_far h.own h.box (by decide), h.box.set_ 1 _, h.res.far (by have := h.ne; simp; omega) _, h.ne, h.below.setCell (by have := h.ne; simp; omega) _⟩
theorem AnsAt.m_ (h : AnsAt w g v x W) (k : Int) : AnsAt w g v { x with m := k } (W.setCell ⟨g, 2, none⟩ (.int .i64 k)) :=
  ⟨own_set_far h.own h.box (by decide), h.box.set_ 2 _, h.res.far (by have := h.ne; simp; omega) _, h.ne, h.below.setCell (by have := h.ne; simp; omega) _⟩
theorem AnsAt.data_ (h : AnsAt w g v x W) (k : List UInt8) : AnsAt w g v { x with data := k } (W.setCell ⟨g, 3, none⟩ (.string (Bs k))) :=
  ⟨own_set_far h.own h.box (by decide), h.box.set_ 3 _, h.res.far (by have := h.ne; simp; omega) _, h.ne, h.below.setCell (by have := h.ne; simp; omega) _⟩
/-- Behind an append to the list and the store into its field. -/
theorem AnsAt.push (h : AnsAt w g v x W) {v' : Value} {q : Int} {W1 : World} (hb1 : Below W.heap.size W W1) (ho : W2.ownsRow w.heap.size 3 1 v' (x.list.length + 1) (nums .i64 x.list ++ [.int .i64 q])) (hb : Below w.heap.size w W2) (hg : W1.grownBy W2 v.ownBlock) :
    AnsAt w g v' { x with list := x.list ++ [q] } (W2.setCell ⟨g, 4, none⟩ v') := by
  have h1 := h.call hb1
  have hbx : Blk W2 g 57 _ := h1.box.grown hg (fun e => h1.box.own_ne h1.own (by decide) e.symm)
  have hrs : Blk W2 w.heap.size 57 _ := h1.res.grown hg (fun e => h1.res.own_ne h1.own (by decide) e.symm)
  refine ⟨?_, hbx.set_ 4 _, hrs.far (by have := h.ne; simp; omega) _, h.ne, hb.setCell (by have := h.ne; simp; omega) _⟩
  have e : nums .i64 (x.list ++ [q]) = nums .i64 x.list ++ [.int .i64 q] := by simp [nums]
  dsimp only
  rw [e, List.length_append]
  exact own_set_far ho hbx (by decide)
end
theorem AnsAt.new (w : World) : AnsAt w (w.heap.size + 1) (.slice none 0 0) Ans.zero ((w.alloc (.cells #[.int .i64 0, .int .i64 0, .int .i64 0, .string ⟨#[]⟩, .slice none 0 0] 57)).alloc (.cells #[.int .i64 0, .int .i64 0, .int .i64 0, .string ⟨#[]⟩, .slice none 0 0] 57)) :=
  ⟨World.ownsRow_nil _ _ _ _, by
    have := Blk.new (w.alloc (.cells #[.int .i64 0, .int .i64 0, .int .i64 0, .string ⟨#[]⟩, .slice none 0 0] 57)) 57 #[.int .i64 0, .int .i64 0, .int .i64 0, .string ⟨#[]⟩, .slice none 0 0]
    rw [World.size_alloc] at this
    exact this, (Blk.new _ _ _).alloc _, by omega, (balloc _ _).alloc (by simp) _⟩
theorem step_app {P : Program} {ops : Array Oper} {o : Oper} {a : Act} {K : Act → World → Prop} {Q : Exit → Act → World → Prop} {EE : Prop} {w W : World} {B : Nat} {t e : TypeId} {z : Value} {bytes : Nat} (E : ElemT P t e z bytes) (hgd : o.guard = none) (s x : Operand)
    (ho : o.op = .call { callee := .builtin .append, args := #[s, x], argTypes := #[t, t] })
    {v : Value} {n : Nat} {xs : List Value} (hs : a.eval s = v) (hown : W.ownsRow B e 1 v n xs)
    {A : Option Addr} {m c : Nat} {news : List Value} (hx : a.eval x = .slice A m c) (hr : Rd W A m news) (h1 : ∀ u ∈ news, u.oneCell' = true)
    (hlen : (n + m) * bytes ≤ 140737488355328) (hlen' : n + m ≤ 140737488355328) (hb : Below B w W) (hB : B ≤ W.heap.size)
    (h : ∀ v' W', W'.ownsRow B e 1 v' (n + m) (xs ++ news) → Below B w W' → W.grownBy W' v.ownBlock → K (a.put o.dst v') W') :
    if Region.wanted o (yielded ops a.tmps) = true then Oper.wp P o a W K Q else EE := by
  have hw : Region.wanted o (yielded ops a.tmps) = true := by simp [Region.wanted, hgd]
  rw [if_pos hw]
  obtain ⟨v', w', hrun, h2, h3, _⟩ := run_app E o.type hown c hr h1 hlen hlen' hB
  unfold Oper.wp execOp
  simp only [ho, resolve, invoke, builtin, Sem.run_bind, Sem.run_pure, Result.andThen_ok, List.map_toArray, List.map_cons, List.map_nil, hs, hx, hrun]
  exact h v' w' h2 (hb.grown h3 hB (own_blk hown)) h3
/-- A cell that is there, and may be written. -/
def CellIs (p : Addr) (v : Value) (w : World) : Prop := w.cell? p = some v ∧ w.frozen? p = false
theorem CellIs.below {p : Addr} {v : Value} {w w' : World} (h : w.cell? p = some v ∧ w.frozen? p = false) (hb : Below w.heap.size w w') : w'.cell? p = some v ∧ w'.frozen? p = false := by
  have hl := World.block_lt_of_cell? w _ h.1
  exact ⟨(hb.cell hl).trans h.1, (hb.frozen hl).trans h.2⟩
theorem CellIs.alloc {p : Addr} {v : Value} {w : World} (h : w.cell? p = some v ∧ w.frozen? p = false) (o : Obj) : (w.alloc o).cell? p = some v ∧ (w.alloc o).frozen? p = false := CellIs.below h (balloc w o)
theorem CellIs.drew {p : Addr} {v : Value} {w : World} (h : w.cell? p = some v ∧ w.frozen? p = false) : w.drew.cell? p = some v ∧ w.drew.frozen? p = false := h
theorem CellIs.blk {w : World} {g : Nat} {t : TypeId} {cs : Array Value} {i : Nat} {v : Value} (h : Blk w g t cs) (hc : cs[i]? = some v) : w.cell? ⟨g, i, none⟩ = some v ∧ w.frozen? ⟨g, i, none⟩ = false := ⟨(h.cell i).trans hc, h.frozen i⟩
/-- The same, what is known of the memory first. -/
theorem step_app1 {P : Program} {w W : World} {B : Nat} {t e : TypeId} {z : Value} {bytes : Nat} (E : ElemT P t e z bytes) {v : Value} {n : Nat} {xs : List Value} (hown : W.ownsRow B e 1 v n xs)
    {A : Option Addr} {m c : Nat} {news : List Value} (hr : Rd W A m news) (h1 : ∀ u ∈ news, u.oneCell' = true)
    (hlen : (n + m) * bytes ≤ 140737488355328) (hlen' : n + m ≤ 140737488355328) (hb : Below B w W) (hB : B ≤ W.heap.size)
    (ops : Array Oper) (o : Oper) (a : Act) (K : Act → World → Prop) (Q : Exit → Act → World → Prop) (EE : Prop) (hgd : o.guard = none) (s x : Operand)
    (ho : o.op = .call { callee := .builtin .append, args := #[s, x], argTypes := #[t, t] }) (hs : a.eval s = v) (hx : a.eval x = .slice A m c)
    (h : ∀ v' W', W'.ownsRow B e 1 v' (n + m) (xs ++ news) → Below B w W' → W.grownBy W' v.ownBlock → K (a.put o.dst v') W') :
    if Region.wanted o (yielded ops a.tmps) = true then Oper.wp P o a W K Q else EE :=
  step_app E hgd s x ho hs hown hx hr h1 hlen hlen' hb hB h
theorem tInt : ElemT Tryd.prog 55 3 (.int .i64 0) 8 := ⟨Tryd.underlying55, by kernel_rfl, rfl⟩

section
variable {k : Nat} {rest r r2 a d : List UInt8} {x : Ans} {b : Bool} {acc : List Int}
theorem sgw_n (h0 : rest ≠ []) (h1 : wordL rest = (wN, r)) (h2 : wordL r = (a, r2)) : secGo (k + 1) rest x = secGo k r2 { x with n := numberL a } := by
  simp only [secGo]
  rw [if_neg h0, h1]
  dsimp only
  rw [if_pos (by rfl), h2]
theorem sgw_m (h0 : rest ≠ []) (h1 : wordL rest = (wM, r)) (h2 : wordL r = (a, r2)) : secGo (k + 1) rest x = secGo k r2 { x with m := numberL a } := by
  simp only [secGo]
  rw [if_neg h0, h1]
  dsimp only
  rw [if_neg (by decide), if_pos (by rfl), h2]
theorem sgw_data (h0 : rest ≠ []) (h1 : wordL rest = (wData, r)) (h2 : cut r sepL = (d, r2, b)) : secGo (k + 1) rest x = secGo k (if r2 = [] then [] else [108, 105, 115, 116, 32] ++ r2) { x with data := unshort d } := by
  rw [secGo]
  rw [if_neg h0, h1]
  dsimp only
  rw [if_neg (by decide), if_neg (by decide), if_pos (by rfl), h2]
theorem sgw_list (h0 : rest ≠ []) (h1 : wordL rest = (wList, r)) (h2 : listGo 61 r x.list = (acc, r2)) : secGo (k + 1) rest x = secGo k r2 { x with list := acc } := by
  rw [secGo]
  rw [if_neg h0, h1]
  dsimp only
  rw [if_neg (by decide), if_neg (by decide), if_neg (by decide), if_pos (by rfl), h2]
theorem sgw_other (h0 : rest ≠ []) (h1 : wordL rest = (a, r)) (e1 : a ≠ wN) (e2 : a ≠ wM) (e3 : a ≠ wData) (e4 : a ≠ wList) : secGo (k + 1) rest x = x := by
  rw [secGo]
  rw [if_neg h0, h1]
  dsimp only
  rw [if_neg e1, if_neg e2, if_neg e3, if_neg e4]
theorem cut_lens {l sep : List UInt8} (h : cut l sep = (d, r2, b)) : d.length ≤ l.length ∧ (r2 = [] ∨ r2.length + sep.length ≤ l.length) := by
  unfold cut at h
  split at h
  · rename_i hi
    have hr := index_room l sep hi
    simp only [Prod.mk.injEq] at h
    obtain ⟨rfl, rfl, _⟩ := h
    refine ⟨by rw [List.length_take]; omega, .inr ?_⟩
    rw [List.length_drop]
    omega
  · simp only [Prod.mk.injEq] at h
    obtain ⟨rfl, rfl, _⟩ := h
    exact ⟨Nat.le_refl _, .inl rfl⟩
theorem listGo_step {j : Nat} {l : List Int} (h0 : rest ≠ []) (h1 : wordL rest = (a, r)) : listGo (j + 1) rest l = listGo j r (l ++ [numberL a]) := by
  simp only [listGo]
  rw [if_neg h0, h1]
theorem listGo_end {j : Nat} {l : List Int} : listGo j [] l = (l, []) := by cases j <;> simp [listGo]
end
theorem I64_zero : I64 0 := ⟨by decide, by decide⟩
structure Ans.Sound (x : Ans) : Prop where
  ok : x.Ok
  data : x.data = [] ∨ x.data.length = 64

theorem Rd.far {w : World} {A : Option Addr} {n g i : Nat} {xs : List Value} {t : TypeId} {cs : Array Value} {u : Value} {base : Nat} {e : TypeId} {c : Nat} (h : w.ownsRow base e 1 (.slice A n c) n xs) (hg : Blk w g t cs) (hne : e ≠ t) : (w.setCell ⟨g, i, none⟩ u).ownsRow base e 1 (.slice A n c) n xs := own_set_far h hg hne
theorem res_stored {w W : World} {g : Nat} {A : Option Addr} {c : Nat} {x : Ans} (h : AnsAt w g (.slice A x.list.length c) x W) (a b d e f : Value) :
    Rd (((((W.setCell ⟨w.heap.size, 0, none⟩ a).setCell ⟨w.heap.size, 1, none⟩ b).setCell ⟨w.heap.size, 2, none⟩ d).setCell ⟨w.heap.size, 3, none⟩ e).setCell ⟨w.heap.size, 4, none⟩ f) A x.list.length (nums .i64 x.list) :=
  Rd.of_own (own_set_far (own_set_far (own_set_far (own_set_far (own_set_far h.own h.res (by decide)) (h.res.set_ 0 a) (by decide)) ((h.res.set_ 0 a).set_ 1 b) (by decide)) (((h.res.set_ 0 a).set_ 1 b).set_ 2 d) (by decide)) ((((h.res.set_ 0 a).set_ 1 b).set_ 2 d).set_ 3 e) (by decide))
def ParsePost (t : List UInt8) (w : World) (e : Ending) (w' : World) : Prop :=
  (∃ (y : Ans) (E : Int), IsAns t y E ∧ ∃ (A : Option Addr) (c : Nat), e = .returned (.tuple #[ansV y A c, .int .i64 E]) ∧ y.list.length ≤ c ∧ Rd w' A y.list.length (nums .i64 y.list)) ∧ Below w.heap.size w w'

theorem word_at {l a r : List UInt8} (h : wordL l = (a, r)) (hl : l.length ≤ 1000000) (W : World) :
    Calls Tryd.prog 60 #[.string (Bs l)] W fun e w' => e = .returned (.tuple #[.string (Bs a), .string (Bs r)]) ∧ Below W.heap.size W w' := by
  have := ref30_Word l hl W
  rw [h] at this
  exact this
theorem word_lens {l a r : List UInt8} (h : wordL l = (a, r)) : a.length ≤ l.length ∧ r.length ≤ l.length := by
  have := wordL_len l
  rw [h] at this
  exact this

set_option maxRecDepth 100000 in
set_option maxHeartbeats 1000000 in
theorem ref31_Parse (t : List UInt8) (ht : t.length ≤ 2000) (w : World) :
    Calls Tryd.prog 34 #[.string (Bs t)] w (ParsePost t w) := by
  obtain ⟨G, hG⟩ : ∃ G, G = refGuess t := ⟨_, rfl⟩
  have hG' := hG
  unfold refGuess at hG'
  rcases hq1 : wordL t with ⟨a1, r1⟩
  rw [hq1] at hG'
  dsimp only at hG'
  rcases hq2 : wordL r1 with ⟨a2, r2⟩
  rw [hq2] at hG'
  dsimp only at hG'
  obtain ⟨la1, lr1⟩ := word_lens hq1
  obtain ⟨la2, lr2⟩ := word_lens hq2
  have hW1 := Lib.hid (word_at hq1 (by omega))
  have hW2 := Lib.hid (word_at hq2 (by omega))
  have hN := Lib.hid (ref30_Number a2 (by omega))
  replace hG' := Lib.hid hG'
  replace hG := Lib.hid hG
  clear hq1 hq2
  go_enter Tryd.func34, Tryd.ntmps34
  go_upto_block 0 with (first
    | (have _t := hb2; go_at_call 61; refine (hN.out _).mono ?_; rintro e w3 ⟨rfl, rfl⟩)
    | (have _t := hb1; go_at_call 60; refine (hW2.out _).mono ?_; rintro e w2 ⟨rfl, hb2⟩; have H2 := ((AnsAt.new w).call hb1).call hb2; have c0 := H2.box.cell 0; have f0 := H2.box.frozen 0)
    | (go_at_call 60; refine (hW1.out _).mono ?_; rintro e w1 ⟨rfl, hb1⟩))
  have H := H2.why_ (numberL a2)
  generalize (w2.setCell ⟨w.heap.size + 1, 0, none⟩ (.int .i64 (numberL a2))) = W at H ⊢
  clear hb1 hb2 H2 c0 f0
  have hS : Ans.Sound { Ans.zero with why := numberL a2 } := ⟨⟨numberL_range a2, I64_zero, I64_zero, fun v h => by cases h⟩, .inl rfl⟩
  have heqb := Bs_eqb
  have k1 : (⟨#[110]⟩ : ByteArray) = Bs wN := rfl
  have k2 : (⟨#[109]⟩ : ByteArray) = Bs wM := rfl
  have k3 : (⟨#[100, 97, 116, 97]⟩ : ByteArray) = Bs wData := rfl
  have k4 : (⟨#[108, 105, 115, 116]⟩ : ByteArray) = Bs wList := rfl
  have k5 : (⟨#[32, 108, 105, 115, 116, 32]⟩ : ByteArray) = Bs sepL := rfl
  have k6 : (⟨#[108, 105, 115, 116, 32]⟩ : ByteArray) = Bs [108, 105, 115, 116, 32] := rfl
  clear hW1 hW2 hN
  have hx0 : ({ Ans.zero with why := numberL a2 } : Ans).list.length ≤ 0 := Nat.le_refl _
  generalize ({ Ans.zero with why := numberL a2 } : Ans) = x0 at H hS hG' hx0
  go_cut [] (fun wc => ∃ v, AnsAt w (w.heap.size + 1) v G wc ∧ G.list.length ≤ 244 ∧ G.Sound)
  case first =>
    go_wp2
    go_loopw [6, 7] (fun r i wr => ∃ k : Nat, k ≤ 4 ∧ i = .int .i64 k ∧ ∃ (rest : List UInt8) (x : Ans) (v : Value), r = .string (Bs rest) ∧ rest.length ≤ 2000 + 5 * k ∧ x.list.length ≤ 61 * k ∧ x.Sound ∧ AnsAt w (w.heap.size + 1) v x wr ∧ Hid (G = secGo (4 - k) rest x)) (fun _ i _ => 4 - (RowKit.intOf i).toNat)
    case atStart => exact ⟨0, by omega, rfl, r2, x0, _, rfl, by omega, by omega, hS, H, hG'⟩
    case round =>
      obtain ⟨k, hk, rfl, rest, x, v, rfl, hrl, hxl, hSx, hA, hGx⟩ := hrel
      by_cases hend : rest = [] ∨ k = 4
      · have hGx2 : G = x := by
          rw [hGx.out]
          rcases hend with h | h
          · rw [h, sg_end]
          · rw [h]; rfl
        clear hGx hG hG' H
        subst hGx2
        have hxl2 : G.list.length ≤ 244 := by omega
        rcases (by omega : (k < 4 ∧ ¬ k = 4) ∨ k = 4) with ⟨hk4, hk5⟩ | hk4
        · have hem : (Bs rest).toList.isEmpty = true := by
            rw [Bs_isEmpty]
            rcases hend with h | h
            · rw [h]; rfl
            · exact absurd h hk5
          clear hend hk5
          go_wp2
          go_meet
          case rel => exact ⟨v, hA, hxl2, hSx⟩
        · subst hk4
          clear hend
          go_wp2
          go_meet
          case rel => exact ⟨v, hA, hxl2, hSx⟩
      · have hr0 : rest ≠ [] := fun e => hend (.inl e)
        have hk4 : k < 4 := by omega
        have hem : (Bs rest).toList.isEmpty = false := by rw [Bs_isEmpty]; cases rest with | nil => exact absurd rfl hr0 | cons _ _ => rfl
        obtain ⟨K, hK⟩ : ∃ K, 4 - k = K + 1 := ⟨3 - k, by omega⟩
        have hK' : 4 - (k + 1) = K := by omega
        rw [hK] at hGx
        rcases hq1 : wordL rest with ⟨a, r⟩
        obtain ⟨la, lr⟩ := word_lens hq1
        have hW1 := Lib.hid (word_at hq1 (by omega))
        clear hend
        by_cases ha1 : a = wN
        · subst ha1
          rcases hq2 : wordL r with ⟨b, r'⟩
          obtain ⟨lb, lr'⟩ := word_lens hq2
          have hW2 := Lib.hid (word_at hq2 (by omega))
          have hN := Lib.hid (ref30_Number b (by omega))
          rw [sgw_n hr0 hq1 hq2] at hGx
          clear hq1 hq2 hr0 hK
          replace hK' := Lib.hid hK'
          go_wp2_with (first
            | (have _t := hb2; go_at_call 61; refine (hN.out _).mono ?_; rintro e w3 ⟨rfl, rfl⟩)
            | (have _t := hb1; go_at_call 60; refine (hW2.out _).mono ?_; rintro e w2 ⟨rfl, hb2⟩; have H2 := (hA.call hb1).call hb2; have c1 := H2.box.cell 1; have f1 := H2.box.frozen 1)
            | (go_at_call 60; refine (hW1.out _).mono ?_; rintro e w1 ⟨rfl, hb1⟩))
          go_roundw
          case rel => exact ⟨k + 1, by omega, by go_num, r', { x with n := numberL b }, v, rfl, by omega, by dsimp only; omega, ⟨⟨hSx.ok.why, numberL_range b, hSx.ok.m, hSx.ok.list⟩, hSx.data⟩, H2.n_ _, by rw [hK'.out]; exact hGx⟩
          case measure => simp [RowKit.intOf]; omega
        · have t1 : (a == wN) = false := by simpa using ha1
          by_cases ha2 : a = wM
          · subst ha2
            rcases hq2 : wordL r with ⟨b, r'⟩
            obtain ⟨lb, lr'⟩ := word_lens hq2
            have hW2 := Lib.hid (word_at hq2 (by omega))
            have hN := Lib.hid (ref30_Number b (by omega))
            rw [sgw_m hr0 hq1 hq2] at hGx
            clear hq1 hq2 hr0 hK
            replace hK' := Lib.hid hK'
            go_wp2_with (first
              | (have _t := hb2; go_at_call 61; refine (hN.out _).mono ?_; rintro e w3 ⟨rfl, rfl⟩)
              | (have _t := hb1; go_at_call 60; refine (hW2.out _).mono ?_; rintro e w2 ⟨rfl, hb2⟩; have H2 := (hA.call hb1).call hb2; have c1 := H2.box.cell 2; have f1 := H2.box.frozen 2)
              | (go_at_call 60; refine (hW1.out _).mono ?_; rintro e w1 ⟨rfl, hb1⟩))
            go_roundw
            case rel => exact ⟨k + 1, by omega, by go_num, r', { x with m := numberL b }, v, rfl, by omega, by dsimp only; omega, ⟨⟨hSx.ok.why, hSx.ok.n, numberL_range b, hSx.ok.list⟩, hSx.data⟩, H2.m_ _, by rw [hK'.out]; exact hGx⟩
            case measure => simp [RowKit.intOf]; omega
          · have t2 : (a == wM) = false := by simpa using ha2
            by_cases ha3 : a = wData
            · subst ha3
              rcases hq2 : cut r sepL with ⟨d, r', b⟩
              obtain ⟨ld, lr'⟩ := cut_lens hq2
              have hW2 := ref31_until r sepL (by omega) (by decide) (by decide)
              rw [hq2] at hW2
              replace hW2 := Lib.hid hW2
              have hL := Lib.hid (fun W => refLong_at (unshort_is d) (by omega) W)
              have hud := unshort_len d
              rw [sgw_data hr0 hq1 hq2] at hGx
              have hs6 : sepL.length = 6 := rfl
              clear hq1 hq2 hr0 hK
              replace hK' := Lib.hid hK'
              have hcat := Bs_append
              have hsz := Bs_size
              rcases (by cases r' <;> simp : r' = [] ∨ r' ≠ []) with h' | h'
              · subst h'
                have he' : (Bs []).toList.isEmpty = true := Bs_isEmpty []
                rw [if_pos rfl] at hGx
                clear hcat hsz hs6 lr'
                go_wp2_with (first
                  | (have _t := hb2; go_at_call 26; refine (hL.out _).mono ?_; rintro e w3 ⟨rfl, hb3⟩; have H2 := ((hA.call hb1).call hb2).call hb3; have c1 := H2.box.cell 3; have f1 := H2.box.frozen 3)
                  | (have _t := hb1; go_at_call 62; refine (hW2.out _).mono ?_; rintro e w2 ⟨rfl, hb2⟩)
                  | (go_at_call 60; refine (hW1.out _).mono ?_; rintro e w1 ⟨rfl, hb1⟩))
                go_roundw
                case rel => exact ⟨k + 1, by omega, by go_num, [], { x with data := unshort d }, v, rfl, by simp, by dsimp only; omega, ⟨⟨hSx.ok.why, hSx.ok.n, hSx.ok.m, hSx.ok.list⟩, hud⟩, H2.data_ _, by rw [hK'.out]; exact hGx⟩
                case measure => simp [RowKit.intOf]; omega
              · have he' : (Bs r').toList.isEmpty = false := by rw [Bs_isEmpty]; cases r' with | nil => exact absurd rfl h' | cons _ _ => rfl
                rw [if_neg h'] at hGx
                have lr6 : r'.length + 6 ≤ r.length := by
                  rcases lr' with h | h
                  · exact absurd h h'
                  · omega
                clear hs6 lr' h'
                go_wp2_with (first
                  | (have _t := hb2; go_at_call 26; refine (hL.out _).mono ?_; rintro e w3 ⟨rfl, hb3⟩; have H2 := ((hA.call hb1).call hb2).call hb3; have c1 := H2.box.cell 3; have f1 := H2.box.frozen 3)
                  | (have _t := hb1; go_at_call 62; refine (hW2.out _).mono ?_; rintro e w2 ⟨rfl, hb2⟩)
                  | (go_at_call 60; refine (hW1.out _).mono ?_; rintro e w1 ⟨rfl, hb1⟩))
                go_roundw
                case rel => exact ⟨k + 1, by omega, by go_num, [108, 105, 115, 116, 32] ++ r', { x with data := unshort d }, v, rfl, by simp; omega, by dsimp only; omega, ⟨⟨hSx.ok.why, hSx.ok.n, hSx.ok.m, hSx.ok.list⟩, hud⟩, H2.data_ _, by rw [hK'.out]; exact hGx⟩
                case measure => simp [RowKit.intOf]; omega
            · have t3 : (a == wData) = false := by simpa using ha3
              by_cases ha4 : a = wList
              · subst ha4
                rcases hq3 : listGo 61 r x.list with ⟨LF, RF⟩
                rw [sgw_list hr0 hq1 hq3] at hGx
                replace hq3 := Lib.hid hq3
                clear hq1 hr0 hK
                replace hK' := Lib.hid hK'
                go_wp2_with (first
                  | (go_at_call 60; refine (hW1.out _).mono ?_; rintro e w1 ⟨rfl, hb1⟩; have H1 := hA.call hb1))
                clear hA hW1 hb1 hem
                go_loopw [6, 8] (fun r i wi => ∃ j : Nat, j ≤ 61 ∧ i = .int .i64 j ∧ ∃ (rest : List UInt8) (l : List Int) (v : Value), r = .string (Bs rest) ∧ rest.length ≤ 2000 + 5 * k ∧ l.length ≤ x.list.length + j ∧ (∀ u ∈ l, I64 u) ∧ AnsAt w (w.heap.size + 1) v { x with list := l } wi ∧ Hid (listGo (61 - j) rest l = (LF, RF))) (fun _ i _ => 61 - (RowKit.intOf i).toNat)
                case atStart => exact ⟨0, by omega, rfl, r, x.list, v, rfl, by omega, by omega, hSx.ok.list, H1, hq3⟩
                case round =>
                  obtain ⟨j, hj, rfl, rest2, l, v2, rfl, hrl2, hll, hlr, hA2, hq4⟩ := hrel
                  by_cases hend2 : rest2 = [] ∨ j = 61
                  · have he : l = LF ∧ rest2 = RF := by
                      have h := hq4.out
                      rcases hend2 with h1 | h1
                      · rw [h1, listGo_end] at h
                        simp only [Prod.mk.injEq] at h
                        exact ⟨h.1, by rw [h1]; exact h.2⟩
                      · rw [h1] at h
                        simp only [Nat.sub_self, listGo, Prod.mk.injEq] at h
                        exact h
                    obtain ⟨rfl, rfl⟩ := he
                    clear hq4 hq3
                    rcases (by omega : (j < 61 ∧ ¬ j = 61) ∨ j = 61) with ⟨hj2, hj3⟩ | hj2
                    · have hem : (Bs rest2).toList.isEmpty = true := by
                        rw [Bs_isEmpty]
                        rcases hend2 with h | h
                        · rw [h]; rfl
                        · exact absurd h hj3
                      clear hend2 hj3
                      go_wp2
                      go_roundw
                      case rel => exact ⟨k + 1, by omega, by go_num, rest2, { x with list := l }, v2, rfl, by omega, by dsimp only; omega, ⟨⟨hSx.ok.why, hSx.ok.n, hSx.ok.m, hlr⟩, hSx.data⟩, hA2, by rw [hK'.out]; exact hGx⟩
                      case measure => simp [RowKit.intOf]; omega
                    · subst hj2
                      clear hend2
                      go_wp2
                      go_roundw
                      case rel => exact ⟨k + 1, by omega, by go_num, rest2, { x with list := l }, v2, rfl, by omega, by dsimp only; omega, ⟨⟨hSx.ok.why, hSx.ok.n, hSx.ok.m, hlr⟩, hSx.data⟩, hA2, by rw [hK'.out]; exact hGx⟩
                      case measure => simp [RowKit.intOf]; omega
                  · have hr2 : rest2 ≠ [] := fun e => hend2 (.inl e)
                    have hj61 : j < 61 := by omega
                    have hem : (Bs rest2).toList.isEmpty = false := by rw [Bs_isEmpty]; cases rest2 with | nil => exact absurd rfl hr2 | cons _ _ => rfl
                    obtain ⟨J, hJ⟩ : ∃ J, 61 - j = J + 1 := ⟨60 - j, by omega⟩
                    have hJ' : 61 - (j + 1) = J := by omega
                    rw [hJ] at hq4
                    rcases hq1 : wordL rest2 with ⟨a, r'⟩
                    obtain ⟨la, lr⟩ := word_lens hq1
                    have hW1 := Lib.hid (word_at hq1 (by omega))
                    have hN := Lib.hid (ref30_Number a (by omega))
                    rw [listGo_step hr2 hq1] at hq4
                    clear hend2 hq1 hr2 hJ
                    replace hJ' := Lib.hid hJ'
                    go_wp2_with (first
                      | (go_at_call 60; refine (hW1.out _).mono ?_; rintro e w1 ⟨rfl, hb1⟩; have H2 := hA2.call hb1))
                    have hc4 : w1.cell? ⟨w.heap.size + 1, 4, none⟩ = some v2 ∧ w1.frozen? ⟨w.heap.size + 1, 4, none⟩ = false := CellIs.blk (i := 4) H2.box rfl
                    have hc4a := Lib.hid hc4
                    obtain ⟨c4, f4⟩ := hc4
                    have hH2 := Lib.hid H2
                    have hz := H2.box.lt
                    have hown2 := H2.own
                    have hbel := H2.below
                    have hbs := hbel.size
                    have hOwn := (hown2.alloc (.cells #[.int .i64 (numberL a)] 3)).drew
                    have hRd := (Rd.one w1 (.int .i64 (numberL a)) 3).drew
                    have hBel := (hbel.alloc hbs (.cells #[.int .i64 (numberL a)] 3)).drew
                    have hBs := hBel.size
                    have hl1 : (l.length + 1) * 8 ≤ 140737488355328 := by omega
                    have hl2 : l.length + 1 ≤ 140737488355328 := by omega
                    have hone : ∀ u ∈ [Value.int .i64 (numberL a)], u.oneCell' = true := fun u hu => by simp at hu; subst hu; rfl
                    have hP := Lib.hid (@step_app1 Tryd.prog w _ w.heap.size _ _ _ _ tInt v2 l.length (nums .i64 l) hOwn _ 1 1 [.int .i64 (numberL a)] hRd hone hl1 hl2 hBel hBs)
                    clear H2 hOwn hRd hBel hBs hone
                    go_region_law (first
                        | (refine hP.out _ _ _ _ _ _ (by rfl) (.tmp 92) (.tmp 95) (by rfl) (by rfl) (by rfl) ?_
                           intro v4 W4 hown4 hb4 hg4
                           obtain ⟨g4, cap4, rfl⟩ := ownsRow_succ hown4
                           have hc5 : W4.cell? ⟨w.heap.size + 1, 4, none⟩ = some v2 ∧ W4.frozen? ⟨w.heap.size + 1, 4, none⟩ = false := CellIs.blk (i := 4) (Blk.grown (w := (w1.alloc (.cells #[.int .i64 (numberL a)] 3)).drew) (hH2.out.box.alloc _) hg4 (fun e => hH2.out.box.own_ne hown2 (by decide) e.symm)) rfl
                           obtain ⟨c5, f5⟩ := hc5)
                        | (go_simp; go_at_call 61; refine (hN.out _).mono ?_; rintro e w3 ⟨rfl, rfl⟩))
                    all_goals go_wp2
                    all_goals go_roundw
                    all_goals first
                      | exact ⟨j + 1, by omega, by go_num, r', l ++ [numberL a], _, rfl, by omega, by rw [List.length_append, List.length_singleton]; omega, fun u hu => by
                          rcases List.mem_append.1 hu with h | h
                          · exact hlr u h
                          · simp at h; rw [h]; exact numberL_range a,
                          hH2.out.push (((Below.refl _ w1).alloc (Nat.le_refl _) _).drew) hown4 hb4 hg4, by rw [hJ'.out]; exact hq4⟩
                      | (simp [RowKit.intOf]; omega)
              · have t4 : (a == wList) = false := by simpa using ha4
                rw [sgw_other hr0 hq1 ha1 ha2 ha3 ha4] at hGx
                clear hq1 hr0 hK ha1 ha2 ha3 ha4
                replace hK' := Lib.hid hK'
                go_wp2_with (first
                  | (go_at_call 60; refine (hW1.out _).mono ?_; rintro e w1 ⟨rfl, hb1⟩))
                go_roundw
                case rel => exact ⟨k + 1, by omega, by go_num, [], x, v, rfl, by simp, by omega, hSx, hA.call hb1, by rw [hK'.out, sg_end]; exact hGx⟩
                case measure => simp [RowKit.intOf]; omega
  case rest =>
    obtain ⟨v, hA, hGl, hGS⟩ := hcut
    obtain ⟨A, c, rfl, hc⟩ := own_slice hA.own
    have hr := Rd.of_own hA.own
    obtain ⟨hyes, hno⟩ := isAns_of_guess (t := t) (x := G) (fun y hy hl => by rw [hG.out, ← hl, ref_line y hy])
    have hzero : Rd w none 0 [] := Rd.nil _ _
    clear hG hG' H hx0 hS k1 k2 k3 k4 k5 k6 heqb
    have hneb := Bs_neb
    have c0 := hA.box.cell 0
    have c1 := hA.box.cell 1
    have c2 := hA.box.cell 2
    have c3 := hA.box.cell 3
    have c4 := hA.box.cell 4
    by_cases hv : G.Valid
    · have hL := Lib.hid (fun W h => ref31_Line_ok G hv A c hc W h)
      by_cases hl : lineA G = t
      · have hyes' := hyes ⟨hv, hl⟩
        clear hno hyes
        subst hl
        have hAl := Lib.hid (fun W h => ref25_Alike G A A c c hc hc (by omega) W h h)
        go_wp2_with (first
          | (have _t := hb4; go_at_call 33; refine (hAl.out _ (hr.below hb4)).mono ?_; rintro e w5 ⟨rfl, hb5⟩
             have H4 := (hA.call hb4).call hb5
             have b0 := H4.box.cell 0
             have b1 := H4.box.cell 1
             have b2 := H4.box.cell 2
             have b3 := H4.box.cell 3
             have b4 := H4.box.cell 4
             have r0 := H4.res.cell 0
             have r1 := H4.res.cell 1
             have r2' := H4.res.cell 2
             have r3 := H4.res.cell 3
             have r4 := H4.res.cell 4
             have q0 := H4.res.frozen 0
             have q1 := H4.res.frozen 1
             have q2 := H4.res.frozen 2
             have q3 := H4.res.frozen 3
             have q4 := H4.res.frozen 4)
          | (go_at_call 31; refine (hL.out _ hr).mono ?_; rintro e w4 ⟨rfl, hb4⟩
             have H3 := hA.call hb4
             have a0 := H3.box.cell 0
             have a1 := H3.box.cell 1
             have a2 := H3.box.cell 2
             have a3 := H3.box.cell 3
             have a4 := H3.box.cell 4))
        have hres := (((((H4.res.set_ 0 (.int .i64 G.why)).set_ 1 (.int .i64 G.n)).set_ 2 (.int .i64 G.m)).set_ 3 (.string (Bs G.data))).set_ 4 (.slice A G.list.length c))
        have hbel := (((((H4.below.setCell (p := ⟨w.heap.size, 0, none⟩) (Nat.le_refl _) (.int .i64 G.why)).setCell (p := ⟨w.heap.size, 1, none⟩) (Nat.le_refl _) (.int .i64 G.n)).setCell (p := ⟨w.heap.size, 2, none⟩) (Nat.le_refl _) (.int .i64 G.m)).setCell (p := ⟨w.heap.size, 3, none⟩) (Nat.le_refl _) (.string (Bs G.data))).setCell (p := ⟨w.heap.size, 4, none⟩) (Nat.le_refl _) (.slice A G.list.length c))
        have hlist := res_stored H4 (.int .i64 G.why) (.int .i64 G.n) (.int .i64 G.m) (.string (Bs G.data)) (.slice A G.list.length c)
        generalize (((((w5.setCell ⟨w.heap.size, 0, none⟩ (.int .i64 G.why)).setCell ⟨w.heap.size, 1, none⟩ (.int .i64 G.n)).setCell ⟨w.heap.size, 2, none⟩ (.int .i64 G.m)).setCell ⟨w.heap.size, 3, none⟩ (.string (Bs G.data))).setCell ⟨w.heap.size, 4, none⟩ (.slice A G.list.length c)) = W5 at hres hbel hlist ⊢
        have e0 : W5.cell? ⟨w.heap.size, 0, none⟩ = some (.int .i64 G.why) := hres.cell 0
        have e1 : W5.cell? ⟨w.heap.size, 1, none⟩ = some (.int .i64 G.n) := hres.cell 1
        have e2 : W5.cell? ⟨w.heap.size, 2, none⟩ = some (.int .i64 G.m) := hres.cell 2
        have e3 : W5.cell? ⟨w.heap.size, 3, none⟩ = some (.string (Bs G.data)) := hres.cell 3
        have e4 : W5.cell? ⟨w.heap.size, 4, none⟩ = some (.slice A G.list.length c) := hres.cell 4
        clear r0 r1 r2' r3 r4 q0 q1 q2 q3 q4 c0 c1 c2 c3 c4
        exact bodyPost_ret (v := .tuple #[.agg #[.int .i64 G.why, .int .i64 G.n, .int .i64 G.m, .string (Bs G.data), .slice A G.list.length c], .int .i64 0]) (by simp [results, Tryd.results34, go_sem, e0, e1, e2, e3, e4]) rfl ⟨⟨G, 0, hyes', A, c, rfl, hc, hlist⟩, hbel⟩
      · have ht : (lineA G != t) = true := by simpa using hl
        replace hno := hno (fun h => hl h.2)
        have heq := Bs_eq
        have heqb := Bs_eqb
        have ht2 : (lineA G == t) = false := by simpa using hl
        clear hyes
        go_wp2_with (go_at_call 31; refine (hL.out _ hr).mono ?_; rintro e w4 ⟨rfl, hb4⟩
                     have H4 := hA.call hb4
                     have r0 := H4.res.cell 0
                     have r1 := H4.res.cell 1
                     have r2' := H4.res.cell 2
                     have r3 := H4.res.cell 3
                     have r4 := H4.res.cell 4
                     have q0 := H4.res.frozen 0
                     have q1 := H4.res.frozen 1
                     have q2 := H4.res.frozen 2
                     have q3 := H4.res.frozen 3
                     have q4 := H4.res.frozen 4)
        have hres := (((((H4.res.set_ 0 (.int .i64 0)).set_ 1 (.int .i64 0)).set_ 2 (.int .i64 0)).set_ 3 (.string ⟨#[]⟩)).set_ 4 (.slice none 0 0))
        have hbel := (((((H4.below.setCell (p := ⟨w.heap.size, 0, none⟩) (Nat.le_refl _) (.int .i64 0)).setCell (p := ⟨w.heap.size, 1, none⟩) (Nat.le_refl _) (.int .i64 0)).setCell (p := ⟨w.heap.size, 2, none⟩) (Nat.le_refl _) (.int .i64 0)).setCell (p := ⟨w.heap.size, 3, none⟩) (Nat.le_refl _) (.string ⟨#[]⟩)).setCell (p := ⟨w.heap.size, 4, none⟩) (Nat.le_refl _) (.slice none 0 0))
        have hlist := Rd.nil (((((w4.setCell ⟨w.heap.size, 0, none⟩ (.int .i64 0)).setCell ⟨w.heap.size, 1, none⟩ (.int .i64 0)).setCell ⟨w.heap.size, 2, none⟩ (.int .i64 0)).setCell ⟨w.heap.size, 3, none⟩ (.string ⟨#[]⟩)).setCell ⟨w.heap.size, 4, none⟩ (.slice none 0 0)) none
        generalize (((((w4.setCell ⟨w.heap.size, 0, none⟩ (.int .i64 0)).setCell ⟨w.heap.size, 1, none⟩ (.int .i64 0)).setCell ⟨w.heap.size, 2, none⟩ (.int .i64 0)).setCell ⟨w.heap.size, 3, none⟩ (.string ⟨#[]⟩)).setCell ⟨w.heap.size, 4, none⟩ (.slice none 0 0)) = W5 at hres hbel hlist ⊢
        have e0 : W5.cell? ⟨w.heap.size, 0, none⟩ = some (.int .i64 0) := hres.cell 0
        have e1 : W5.cell? ⟨w.heap.size, 1, none⟩ = some (.int .i64 0) := hres.cell 1
        have e2 : W5.cell? ⟨w.heap.size, 2, none⟩ = some (.int .i64 0) := hres.cell 2
        have e3 : W5.cell? ⟨w.heap.size, 3, none⟩ = some (.string ⟨#[]⟩) := hres.cell 3
        have e4 : W5.cell? ⟨w.heap.size, 4, none⟩ = some (.slice none 0 0) := hres.cell 4
        clear r0 r1 r2' r3 r4 q0 q1 q2 q3 q4 c0 c1 c2 c3 c4
        exact bodyPost_ret (v := .tuple #[.agg #[.int .i64 0, .int .i64 0, .int .i64 0, .string ⟨#[]⟩, .slice none 0 0], .int .i64 6]) (by simp [results, Tryd.results34, go_sem, e0, e1, e2, e3, e4]) rfl ⟨⟨Ans.zero, 6, hno, none, 0, rfl, Nat.le_refl _, hlist⟩, hbel⟩
    · replace hno := hno (fun h => hv h.1)
      clear hyes
      have hdl : G.data.length ≤ 1000000 := by rcases hGS.data with h | h <;> rw [h] <;> simp
      have hL := ref31_Line_bad G hGS.ok hv A c hc (by omega) hdl wc
      replace hL := Lib.hid hL
      clear hv hr hGS
      go_wp2_with (go_at_call 31; refine hL.out.mono ?_; rintro e w4 ⟨rfl, hb4⟩
                   have H4 := hA.call hb4
                   have r0 := H4.res.cell 0
                   have r1 := H4.res.cell 1
                   have r2' := H4.res.cell 2
                   have r3 := H4.res.cell 3
                   have r4 := H4.res.cell 4
                   have q0 := H4.res.frozen 0
                   have q1 := H4.res.frozen 1
                   have q2 := H4.res.frozen 2
                   have q3 := H4.res.frozen 3
                   have q4 := H4.res.frozen 4)
      have hres := (((((H4.res.set_ 0 (.int .i64 0)).set_ 1 (.int .i64 0)).set_ 2 (.int .i64 0)).set_ 3 (.string ⟨#[]⟩)).set_ 4 (.slice none 0 0))
      have hbel := (((((H4.below.setCell (p := ⟨w.heap.size, 0, none⟩) (Nat.le_refl _) (.int .i64 0)).setCell (p := ⟨w.heap.size, 1, none⟩) (Nat.le_refl _) (.int .i64 0)).setCell (p := ⟨w.heap.size, 2, none⟩) (Nat.le_refl _) (.int .i64 0)).setCell (p := ⟨w.heap.size, 3, none⟩) (Nat.le_refl _) (.string ⟨#[]⟩)).setCell (p := ⟨w.heap.size, 4, none⟩) (Nat.le_refl _) (.slice none 0 0))
      have hlist := Rd.nil (((((w4.setCell ⟨w.heap.size, 0, none⟩ (.int .i64 0)).setCell ⟨w.heap.size, 1, none⟩ (.int .i64 0)).setCell ⟨w.heap.size, 2, none⟩ (.int .i64 0)).setCell ⟨w.heap.size, 3, none⟩ (.string ⟨#[]⟩)).setCell ⟨w.heap.size, 4, none⟩ (.slice none 0 0)) none
      generalize (((((w4.setCell ⟨w.heap.size, 0, none⟩ (.int .i64 0)).setCell ⟨w.heap.size, 1, none⟩ (.int .i64 0)).setCell ⟨w.heap.size, 2, none⟩ (.int .i64 0)).setCell ⟨w.heap.size, 3, none⟩ (.string ⟨#[]⟩)).setCell ⟨w.heap.size, 4, none⟩ (.slice none 0 0)) = W5 at hres hbel hlist ⊢
      have e0 : W5.cell? ⟨w.heap.size, 0, none⟩ = some (.int .i64 0) := hres.cell 0
      have e1 : W5.cell? ⟨w.heap.size, 1, none⟩ = some (.int .i64 0) := hres.cell 1
      have e2 : W5.cell? ⟨w.heap.size, 2, none⟩ = some (.int .i64 0) := hres.cell 2
      have e3 : W5.cell? ⟨w.heap.size, 3, none⟩ = some (.string ⟨#[]⟩) := hres.cell 3
      have e4 : W5.cell? ⟨w.heap.size, 4, none⟩ = some (.slice none 0 0) := hres.cell 4
      clear r0 r1 r2' r3 r4 q0 q1 q2 q3 q4 c0 c1 c2 c3 c4
      exact bodyPost_ret (v := .tuple #[.agg #[.int .i64 0, .int .i64 0, .int .i64 0, .string ⟨#[]⟩, .slice none 0 0], .int .i64 6]) (by simp [results, Tryd.results34, go_sem, e0, e1, e2, e3, e4]) rfl ⟨⟨Ans.zero, 6, hno, none, 0, rfl, Nat.le_refl _, hlist⟩, hbel⟩
end Go.Proofs.YtmakpilfjopmeaaDoor
