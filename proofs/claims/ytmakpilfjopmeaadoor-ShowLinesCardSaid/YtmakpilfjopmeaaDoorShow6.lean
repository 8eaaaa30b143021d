/- Walk of show.guess. -/
import Derived.Test.YtmakpilfjopmeaaDoorScope
import Derived.Test.YtmakpilfjopmeaaDoorShow5
import Derived.Test.YtmakpilfjopmeaaDoorLong2
import Derived.Test.YtmakpilfjopmeaaDoorLaw05
set_option linter.unusedVariables false
set_option linter.unusedSimpArgs false
namespace Go.Proofs.YtmakpilfjopmeaaDoor
open Go Go.RowKit Go.Lib Go.Shelf

theorem jt_cons (x : List UInt8) (xs : List (List UInt8)) : (joinTail [32] (x :: xs)).length = x.length + 1 + (joinTail [32] xs).length := by
  have : joinTail [32] (x :: xs) = 32 :: x ++ joinTail [32] xs := by simp [joinTail]
  rw [this]
  simp
  omega
theorem jt_app (xs ys : List (List UInt8)) : (joinTail [32] (xs ++ ys)).length = (joinTail [32] xs).length + (joinTail [32] ys).length := by rw [joinTail_app, List.length_append]
theorem jt_one (x : List UInt8) : (joinTail [32] [x]).length = x.length + 1 := by rw [jt_cons]; simp [joinTail]
theorem jt_count (xs : List (List UInt8)) : xs.length ≤ (joinTail [32] xs).length := by
  induction xs with
  | nil => simp
  | cons x xs ih => rw [jt_cons, List.length_cons]; omega
theorem jt_mem (xs : List (List UInt8)) : ∀ x ∈ xs, x.length ≤ (joinTail [32] xs).length := by
  induction xs with
  | nil => intro x h; cases h
  | cons y xs ih =>
    intro x h
    rw [jt_cons]
    rcases List.mem_cons.1 h with rfl | h
    · omega
    · have := ih x h; omega
theorem jt_join (xs : List (List UInt8)) : (join xs [32]).length ≤ (joinTail [32] xs).length := by
  cases xs with
  | nil => simp [join_nil]
  | cons x xs => rw [join_cons, jt_cons, List.length_append]; omega

theorem own_ne_own {W : World} {b n m : Nat} {e e' : TypeId} {v d : Value} {xs ys : List Value} (h : W.ownsRow b e 1 v n xs) (k : W.ownsRow b e' 1 d m ys) (hne : e ≠ e') : v.ownBlock = none ∨ v.ownBlock ≠ d.ownBlock := by
  rcases h.2 with ⟨rfl, _⟩ | ⟨g, cap, cur, rfl, _, hh, _⟩
  · exact .inl rfl
  · rcases k.2 with ⟨rfl, _⟩ | ⟨g', cap', cur', rfl, _, hh', _⟩
    · exact .inr (by simp [Value.ownBlock])
    · refine .inr fun q => ?_
      have : g = g' := by simpa [Value.ownBlock] using q
      subst this
      exact Blk.ne_ (t := e) (t' := e') hh hh' hne rfl
/-- What 'guess' holds: the answer so far, and the words of its data. -/
structure GuessAt (w : World) (v d : Value) (x : Ans) (ds : List (List UInt8)) (W : World) : Prop where
  ans : AnsAt w (w.heap.size + 1) v x W
  dat : W.ownsRow w.heap.size 9 1 d ds.length (strs ds)
section
variable {w W W2 : World} {v d : Value} {x : Ans} {ds : List (List UInt8)}
theorem GuessAt.call (h : GuessAt w v d x ds W) (hb : Below W.heap.size W W2) : GuessAt w v d x ds W2 := ⟨h.ans.call hb, h.dat.kept (own_grown_below hb) (by rcases d.ownBlock with _ | _ <;> simp)⟩
theorem GuessAt.why_ (h : GuessAt w v d x ds W) (k : Int) : GuessAt w v d { x with why := k } ds (W.setCell ⟨w.heap.size + 1, 0, none⟩ (.int .i64 k)) := ⟨h.ans.why_ k, own_set_far h.dat h.ans.box (by decide)⟩
theorem GuessAt.n_ (h : GuessAt w v d x ds W) (k : Int) : GuessAt w v d { x with n := k } ds (W.setCell ⟨w.heap.size + 1, 1, none⟩ (.int .i64 k)) := ⟨h.ans.n_ k, own_set_far h.dat h.ans.box (by decide)⟩
theorem GuessAt.m_ (h : GuessAt w v d x ds W) (k : Int) : GuessAt w v d { x with m := k } ds (W.setCell ⟨w.heap.size + 1, 2, none⟩ (.int .i64 k)) := ⟨h.ans.m_ k, own_set_far h.dat h.ans.box (by decide)⟩
theorem GuessAt.data_ (h : GuessAt w v d x ds W) (k : List UInt8) : GuessAt w v d { x with data := k } ds (W.setCell ⟨w.heap.size + 1, 3, none⟩ (.string (Bs k))) := ⟨h.ans.data_ k, own_set_far h.dat h.ans.box (by decide)⟩
/-- Behind an append to the words. -/
theorem GuessAt.word (h : GuessAt w v d x ds W) {d' : Value} {q : List UInt8} (ho : W2.ownsRow w.heap.size 9 1 d' (ds.length + 1) (strs ds ++ [.string (Bs q)])) (hb : Below w.heap.size w W2) (hg : W.grownBy W2 d.ownBlock) : GuessAt w v d' x (ds ++ [q]) W2 := by
  refine ⟨⟨h.ans.own.kept hg (own_ne_own h.ans.own h.dat (by decide)), h.ans.box.grown hg (fun e => h.ans.box.own_ne h.dat (by decide) e.symm), h.ans.res.grown hg (fun e => h.ans.res.own_ne h.dat (by decide) e.symm), h.ans.ne, hb⟩, ?_⟩
  rw [List.length_append, strs_append]
  exact ho
/-- Behind an append to the list and the store into its field. -/
theorem GuessAt.push (h : GuessAt w v d x ds W) {v' : Value} {q : Int} {W1 : World} (hb1 : Below W.heap.size W W1) (ho : W2.ownsRow w.heap.size 3 1 v' (x.list.length + 1) (nums .i64 x.list ++ [.int .i64 q])) (hb : Below w.heap.size w W2) (hg : W1.grownBy W2 v.ownBlock) :
    GuessAt w v' d { x with list := x.list ++ [q] } ds (W2.setCell ⟨w.heap.size + 1, 4, none⟩ v') := by
  have h1 := h.call hb1
  have hd : W2.ownsRow w.heap.size 9 1 d ds.length (strs ds) := h1.dat.kept hg (own_ne_own h1.dat h1.ans.own (by decide))
  exact ⟨h.ans.push hb1 ho hb hg, own_set_far hd (h1.ans.box.grown hg (fun e => h1.ans.box.own_ne h1.ans.own (by decide) e.symm)) (by decide)⟩
end

/-- What holds where the reader looks for the next name .. -/
def guessJ1 (w : World) (G : Ans) (a : Act) (W : World) : Prop := ∃ (rem : List (List UInt8)) (A : Option Addr) (c : Nat) (v d : Value) (x : Ans) (ds : List (List UInt8)) (K : Nat) (u1 u4 u6 u7 u8 u9 u10 u11 u12 u13 u14 u15 u16 u17 u18 u19 u20 u21 u22 u23 u24 u25 u26 u27 u28 u29 u30 u31 u32 u33 u34 u35 u36 u37 u38 u39 u40 u41 u42 u43 u44 u45 u46 u47 u48 u49 u50 u51 u52 u53 u54 u55 u56 u57 u58 u59 u60 u61 u62 u63 u64 u65 u66 u67 u68 u69 u70 u71 u72 u73 u74 u75 u76 u77 u78 u79 u80 u81 u82 u83 u84 u85 u86 u87 u88 u89 u90 u91 : Value),
  a = { tmps := (.slice A rem.length c :: u1 :: .pointer (some ⟨w.heap.size, 0, none⟩) :: .pointer (some ⟨w.heap.size + 1, 0, none⟩) :: u4 :: d :: u6 :: u7 :: u8 :: u9 :: u10 :: u11 :: u12 :: u13 :: u14 :: u15 :: u16 :: u17 :: u18 :: u19 :: u20 :: u21 :: u22 :: u23 :: u24 :: u25 :: u26 :: u27 :: u28 :: u29 :: u30 :: u31 :: u32 :: u33 :: u34 :: u35 :: u36 :: u37 :: u38 :: u39 :: u40 :: u41 :: u42 :: u43 :: u44 :: u45 :: u46 :: u47 :: u48 :: u49 :: u50 :: u51 :: u52 :: u53 :: u54 :: u55 :: u56 :: u57 :: u58 :: u59 :: u60 :: u61 :: u62 :: u63 :: u64 :: u65 :: u66 :: u67 :: u68 :: u69 :: u70 :: u71 :: u72 :: u73 :: u74 :: u75 :: u76 :: u77 :: u78 :: u79 :: u80 :: u81 :: u82 :: u83 :: u84 :: u85 :: u86 :: u87 :: u88 :: u89 :: u90 :: u91 :: []).toArray, defers := [] } ∧
  rem.length ≤ c ∧ Rd w A rem.length (strs rem) ∧ GuessAt w v d x ds W ∧ x.data = [] ∧ x.list = [] ∧ x.Ok ∧ (joinTail [32] ds).length + (joinTail [32] rem).length ≤ 2001 ∧ rem.length + 1 ≤ K ∧ guessGo K rem x ds = G
/-- .. and where it is done with the names. -/
def guessJ0 (w : World) (G : Ans) (a : Act) (W : World) : Prop := ∃ (v d : Value) (x : Ans) (ds : List (List UInt8)) (u0 u1 u4 u6 u7 u8 u9 u10 u11 u12 u13 u14 u15 u16 u17 u18 u19 u20 u21 u22 u23 u24 u25 u26 u27 u28 u29 u30 u31 u32 u33 u34 u35 u36 u37 u38 u39 u40 u41 u42 u43 u44 u45 u46 u47 u48 u49 u50 u51 u52 u53 u54 u55 u56 u57 u58 u59 u60 u61 u62 u63 u64 u65 u66 u67 u68 u69 u70 u71 u72 u73 u74 u75 u76 u77 u78 u79 u80 u81 u82 u83 u84 u85 u86 u87 u88 u89 u90 u91 : Value),
  a = { tmps := (u0 :: u1 :: .pointer (some ⟨w.heap.size, 0, none⟩) :: .pointer (some ⟨w.heap.size + 1, 0, none⟩) :: u4 :: d :: u6 :: u7 :: u8 :: u9 :: u10 :: u11 :: u12 :: u13 :: u14 :: u15 :: u16 :: u17 :: u18 :: u19 :: u20 :: u21 :: u22 :: u23 :: u24 :: u25 :: u26 :: u27 :: u28 :: u29 :: u30 :: u31 :: u32 :: u33 :: u34 :: u35 :: u36 :: u37 :: u38 :: u39 :: u40 :: u41 :: u42 :: u43 :: u44 :: u45 :: u46 :: u47 :: u48 :: u49 :: u50 :: u51 :: u52 :: u53 :: u54 :: u55 :: u56 :: u57 :: u58 :: u59 :: u60 :: u61 :: u62 :: u63 :: u64 :: u65 :: u66 :: u67 :: u68 :: u69 :: u70 :: u71 :: u72 :: u73 :: u74 :: u75 :: u76 :: u77 :: u78 :: u79 :: u80 :: u81 :: u82 :: u83 :: u84 :: u85 :: u86 :: u87 :: u88 :: u89 :: u90 :: u91 :: []).toArray, defers := [] } ∧
  GuessAt w v d x ds W ∧ x.data = [] ∧ x.list.length ≤ 2001 ∧ x.Ok ∧ (joinTail [32] ds).length ≤ 2001 ∧ fin x ds = G
def guessM (a : Act) (W : World) : Nat := match a.tmps.getD 0 undef with | .slice _ n _ => n | _ => 0

theorem oneInt (q : Int) : ∀ u ∈ [Value.int .i64 q], u.oneCell' = true := fun u hu => by simp at hu; subst hu; rfl
def notList (w : List UInt8) : Bool := decide (w ≠ wList)
def sliceLen (l : Value) : Nat := match l with | .slice _ n _ => n | _ => 0
theorem own_stored {w W : World} {g : Nat} {A : Option Addr} {c : Nat} {x : Ans} (h : AnsAt w g (.slice A x.list.length c) x W) (a b d e f : Value) :
    (((((W.setCell ⟨w.heap.size, 0, none⟩ a).setCell ⟨w.heap.size, 1, none⟩ b).setCell ⟨w.heap.size, 2, none⟩ d).setCell ⟨w.heap.size, 3, none⟩ e).setCell ⟨w.heap.size, 4, none⟩ f).ownsRow w.heap.size 3 1 (.slice A x.list.length c) x.list.length (nums .i64 x.list) :=
  own_set_far (own_set_far (own_set_far (own_set_far (own_set_far h.own h.res (by decide)) (h.res.set_ 0 a) (by decide)) ((h.res.set_ 0 a).set_ 1 b) (by decide)) (((h.res.set_ 0 a).set_ 1 b).set_ 2 d) (by decide)) ((((h.res.set_ 0 a).set_ 1 b).set_ 2 d).set_ 3 e) (by decide)
def GuessPost (G : Ans) (w : World) (e : Ending) (w' : World) : Prop :=
  (∃ (A : Option Addr) (c : Nat), e = .returned (ansV G A c) ∧ G.list.length ≤ c ∧ w'.ownsRow w.heap.size 3 1 (.slice A G.list.length c) G.list.length (nums .i64 G.list)) ∧ G.Sound ∧ G.list.length ≤ 2001 ∧ Below w.heap.size w w'
theorem map_atoi_ok (l : List (List UInt8)) : ∀ u ∈ l.map atoiL, I64 u := fun u hu => by
  obtain ⟨z, _, rfl⟩ := List.mem_map.1 hu
  exact atoiL_range z

set_option maxRecDepth 100000 in
set_option maxHeartbeats 4000000 in
theorem show_guess (ws : List (List UInt8)) (A : Option Addr) (c : Nat) (hc : ws.length ≤ c) (w : World) (hr : Rd w A ws.length (strs ws)) (hlen : (joinTail [32] ws).length ≤ 2001) (hE : Env w) :
    Calls Tryd.prog 58 #[.slice A ws.length c] w (GuessPost (guessW ws) w) := by
  obtain ⟨G, hG⟩ : ∃ G, guessW ws = G := ⟨_, rfl⟩
  rw [hG]
  replace hG := Lib.hid hG
  have heqb := Bs_eqb
  have k1 : (⟨#[119, 104, 121]⟩ : ByteArray) = Bs wWhy := rfl
  have k2 : (⟨#[110]⟩ : ByteArray) = Bs wN := rfl
  have k3 : (⟨#[109]⟩ : ByteArray) = Bs wM := rfl
  have k4 : (⟨#[100, 97, 116, 97]⟩ : ByteArray) = Bs wData := rfl
  have k5 : (⟨#[108, 105, 115, 116]⟩ : ByteArray) = Bs wList := rfl
  have k6 : (⟨#[32]⟩ : ByteArray) = Bs [32] := rfl
  go_enter Tryd.func58, Tryd.ntmps58
  go_wp2
  refine wp_scope_from 1 0 (guessJ1 w G) (guessJ0 w G) guessM rfl rfl ?pass1 ?pass0 ?first
  case first =>
    intro hpass
    clear heqb k1 k2 k3 k4 k5 k6
    go_wp2
    go_step3
    rename_i hK
    refine hK _ _ (hpass _ _ ⟨ws, A, c, _, _, Ans.zero, [], ws.length + 6, _, _, _, _, _, _, _, _, _, _, _, _, _, _, _, _, _, _, _, _, _, _, _, _, _, _, _, _, _, _, _, _, _, _, _, _, _, _, _, _, _, _, _, _, _, _, _, _, _, _, _, _, _, _, _, _, _, _, _, _, _, _, _, _, _, _, _, _, _, _, _, _, _, _, _, _, _, _, _, _, _, _, _, _, _, _, _, _, rfl, hc, hr, ⟨AnsAt.new w, World.ownsRow_nil _ _ _ _⟩, rfl, rfl, ⟨I64_zero, I64_zero, I64_zero, fun v h => by cases h⟩, by simp [joinTail]; simp [joinTail] at hlen; omega, by omega, hG.out⟩)
  case pass0 =>
    clear hc hr hG hlen heqb k1 k2 k3 k4 k5
    intro a' W hJ
    generalize hR : (Code.wp _ _ _ _ _) = R
    unfold guessJ0 at hJ
    refine Exists.elim hJ ?_; clear hJ; intro v hJ
    refine Exists.elim hJ ?_; clear hJ; intro d hJ
    refine Exists.elim hJ ?_; clear hJ; intro x hJ
    refine Exists.elim hJ ?_; clear hJ; intro ds hJ
    refine Exists.elim hJ ?_; clear hJ; intro u0 hJ
    refine Exists.elim hJ ?_; clear hJ; intro u1 hJ
    refine Exists.elim hJ ?_; clear hJ; intro u4 hJ
    refine Exists.elim hJ ?_; clear hJ; intro u6 hJ
    refine Exists.elim hJ ?_; clear hJ; intro u7 hJ
    refine Exists.elim hJ ?_; clear hJ; intro u8 hJ
    refine Exists.elim hJ ?_; clear hJ; intro u9 hJ
    refine Exists.elim hJ ?_; clear hJ; intro u10 hJ
    refine Exists.elim hJ ?_; clear hJ; intro u11 hJ
    refine Exists.elim hJ ?_; clear hJ; intro u12 hJ
    refine Exists.elim hJ ?_; clear hJ; intro u13 hJ
    refine Exists.elim hJ ?_; clear hJ; intro u14 hJ
    refine Exists.elim hJ ?_; clear hJ; intro u15 hJ
    refine Exists.elim hJ ?_; clear hJ; intro u16 hJ
    refine Exists.elim hJ ?_; clear hJ; intro u17 hJ
    refine Exists.elim hJ ?_; clear hJ; intro u18 hJ
    refine Exists.elim hJ ?_; clear hJ; intro u19 hJ
    refine Exists.elim hJ ?_; clear hJ; intro u20 hJ
    refine Exists.elim hJ ?_; clear hJ; intro u21 hJ
    refine Exists.elim hJ ?_; clear hJ; intro u22 hJ
    refine Exists.elim hJ ?_; clear hJ; intro u23 hJ
    refine Exists.elim hJ ?_; clear hJ; intro u24 hJ
    refine Exists.elim hJ ?_; clear hJ; intro u25 hJ
    refine Exists.elim hJ ?_; clear hJ; intro u26 hJ
    refine Exists.elim hJ ?_; clear hJ; intro u27 hJ
    refine Exists.elim hJ ?_; clear hJ; intro u28 hJ
    refine Exists.elim hJ ?_; clear hJ; intro u29 hJ
    refine Exists.elim hJ ?_; clear hJ; intro u30 hJ
    refine Exists.elim hJ ?_; clear hJ; intro u31 hJ
    refine Exists.elim hJ ?_; clear hJ; intro u32 hJ
    refine Exists.elim hJ ?_; clear hJ; intro u33 hJ
    refine Exists.elim hJ ?_; clear hJ; intro u34 hJ
    refine Exists.elim hJ ?_; clear hJ; intro u35 hJ
    refine Exists.elim hJ ?_; clear hJ; intro u36 hJ
    refine Exists.elim hJ ?_; clear hJ; intro u37 hJ
    refine Exists.elim hJ ?_; clear hJ; intro u38 hJ
    refine Exists.elim hJ ?_; clear hJ; intro u39 hJ
    refine Exists.elim hJ ?_; clear hJ; intro u40 hJ
    refine Exists.elim hJ ?_; clear hJ; intro u41 hJ
    refine Exists.elim hJ ?_; clear hJ; intro u42 hJ
    refine Exists.elim hJ ?_; clear hJ; intro u43 hJ
    refine Exists.elim hJ ?_; clear hJ; intro u44 hJ
    refine Exists.elim hJ ?_; clear hJ; intro u45 hJ
    refine Exists.elim hJ ?_; clear hJ; intro u46 hJ
    refine Exists.elim hJ ?_; clear hJ; intro u47 hJ
    refine Exists.elim hJ ?_; clear hJ; intro u48 hJ
    refine Exists.elim hJ ?_; clear hJ; intro u49 hJ
    refine Exists.elim hJ ?_; clear hJ; intro u50 hJ
    refine Exists.elim hJ ?_; clear hJ; intro u51 hJ
    refine Exists.elim hJ ?_; clear hJ; intro u52 hJ
    refine Exists.elim hJ ?_; clear hJ; intro u53 hJ
    refine Exists.elim hJ ?_; clear hJ; intro u54 hJ
    refine Exists.elim hJ ?_; clear hJ; intro u55 hJ
    refine Exists.elim hJ ?_; clear hJ; intro u56 hJ
    refine Exists.elim hJ ?_; clear hJ; intro u57 hJ
    refine Exists.elim hJ ?_; clear hJ; intro u58 hJ
    refine Exists.elim hJ ?_; clear hJ; intro u59 hJ
    refine Exists.elim hJ ?_; clear hJ; intro u60 hJ
    refine Exists.elim hJ ?_; clear hJ; intro u61 hJ
    refine Exists.elim hJ ?_; clear hJ; intro u62 hJ
    refine Exists.elim hJ ?_; clear hJ; intro u63 hJ
    refine Exists.elim hJ ?_; clear hJ; intro u64 hJ
    refine Exists.elim hJ ?_; clear hJ; intro u65 hJ
    refine Exists.elim hJ ?_; clear hJ; intro u66 hJ
    refine Exists.elim hJ ?_; clear hJ; intro u67 hJ
    refine Exists.elim hJ ?_; clear hJ; intro u68 hJ
    refine Exists.elim hJ ?_; clear hJ; intro u69 hJ
    refine Exists.elim hJ ?_; clear hJ; intro u70 hJ
    refine Exists.elim hJ ?_; clear hJ; intro u71 hJ
    refine Exists.elim hJ ?_; clear hJ; intro u72 hJ
    refine Exists.elim hJ ?_; clear hJ; intro u73 hJ
    refine Exists.elim hJ ?_; clear hJ; intro u74 hJ
    refine Exists.elim hJ ?_; clear hJ; intro u75 hJ
    refine Exists.elim hJ ?_; clear hJ; intro u76 hJ
    refine Exists.elim hJ ?_; clear hJ; intro u77 hJ
    refine Exists.elim hJ ?_; clear hJ; intro u78 hJ
    refine Exists.elim hJ ?_; clear hJ; intro u79 hJ
    refine Exists.elim hJ ?_; clear hJ; intro u80 hJ
    refine Exists.elim hJ ?_; clear hJ; intro u81 hJ
    refine Exists.elim hJ ?_; clear hJ; intro u82 hJ
    refine Exists.elim hJ ?_; clear hJ; intro u83 hJ
    refine Exists.elim hJ ?_; clear hJ; intro u84 hJ
    refine Exists.elim hJ ?_; clear hJ; intro u85 hJ
    refine Exists.elim hJ ?_; clear hJ; intro u86 hJ
    refine Exists.elim hJ ?_; clear hJ; intro u87 hJ
    refine Exists.elim hJ ?_; clear hJ; intro u88 hJ
    refine Exists.elim hJ ?_; clear hJ; intro u89 hJ
    refine Exists.elim hJ ?_; clear hJ; intro u90 hJ
    refine Exists.elim hJ ?_; clear hJ; intro u91 hJ
    obtain ⟨ha, hA, hx1, hx2, hok, hjt, hfin⟩ := hJ
    subst ha
    subst hR
    have hEW := hE.below hA.ans.below
    obtain ⟨Ad, cd, rfl, hcd⟩ := own_slice hA.dat
    have hrd := Rd.of_own hA.dat
    have hcnt := jt_count ds
    have hjl := jt_join ds
    obtain ⟨D, hD⟩ : ∃ D, unshort (join ds [32]) = D := ⟨_, rfl⟩
    obtain ⟨E, hEe⟩ : ∃ E, unshortE (join ds [32]) = E := ⟨_, rfl⟩
    have hlong := long_at (unshort_is (join ds [32])) (by omega)
    rw [hD, hEe] at hlong
    have hDl : D = [] ∨ D.length = 64 := by rw [← hD]; exact unshort_len _
    have hE2 : E = if D = [] then 6 else 0 := by rw [← hEe, ← hD]; rfl
    have hj := Lib.hid (fun W h => join_any Ad ds.length cd ds [32] W h hcd (by omega) (by omega))
    replace hlong := Lib.hid hlong
    have hy : { x with data := D } = G := by rw [← hfin, ← hD]; rfl
    clear hfin hD hEe
    replace hy := Lib.hid hy
    by_cases hD0 : D = []
    · rw [if_pos hD0] at hE2
      subst hE2
      have hxy : { x with data := D } = x := by
        obtain ⟨x1, x2, x3, x4, x5⟩ := x
        simp only at hx1
        rw [hD0, hx1]
      have hxG : x = G := by rw [← hy.out, hxy]
      clear hxy hy
      subst hxG
      clear hDl hD0
      obtain ⟨y, hyx⟩ : ∃ y, y = x := ⟨_, rfl⟩
      rw [← hyx] at hA hx1 hx2 hok ⊢
      clear hyx
      obtain ⟨A, c, rfl, hcy⟩ := own_slice hA.ans.own
      have hyS : y.Sound := ⟨hok, .inl hx1⟩
      have hyL := hx2
      replace hx1 := Lib.hid hx1
      go_wp2_with (first
        | (have _t := hb1; go_at_call 25; refine (hlong.out _ (hEW.below hb1)).mono ?_; rintro e w2 ⟨rfl, hb2⟩
           have H3 := (hA.call hb1).call hb2
           have c0 := H3.ans.box.cell 0
           have c1 := H3.ans.box.cell 1
           have c2 := H3.ans.box.cell 2
           have c3 := H3.ans.box.cell 3
           have c4 := H3.ans.box.cell 4
           have r0 := H3.ans.res.cell 0
           have r1 := H3.ans.res.cell 1
           have r2 := H3.ans.res.cell 2
           have r3 := H3.ans.res.cell 3
           have r4 := H3.ans.res.cell 4
           have q0 := H3.ans.res.frozen 0
           have q1 := H3.ans.res.frozen 1
           have q2 := H3.ans.res.frozen 2
           have q3 := H3.ans.res.frozen 3
           have q4 := H3.ans.res.frozen 4
           have f3 := H3.ans.box.frozen 3)
        | (go_at_call 43; refine (hj.out _ hrd).mono ?_; rintro e w1 ⟨rfl, hb1⟩))
      have H4 := H3.ans
      have hres := (((((H4.res.set_ 0 (.int .i64 y.why)).set_ 1 (.int .i64 y.n)).set_ 2 (.int .i64 y.m)).set_ 3 (.string (Bs y.data))).set_ 4 (.slice A y.list.length c))
      have hbel := (((((H4.below.setCell (p := ⟨w.heap.size, 0, none⟩) (Nat.le_refl _) (.int .i64 y.why)).setCell (p := ⟨w.heap.size, 1, none⟩) (Nat.le_refl _) (.int .i64 y.n)).setCell (p := ⟨w.heap.size, 2, none⟩) (Nat.le_refl _) (.int .i64 y.m)).setCell (p := ⟨w.heap.size, 3, none⟩) (Nat.le_refl _) (.string (Bs y.data))).setCell (p := ⟨w.heap.size, 4, none⟩) (Nat.le_refl _) (.slice A y.list.length c))
      have hlist := own_stored H4 (.int .i64 y.why) (.int .i64 y.n) (.int .i64 y.m) (.string (Bs y.data)) (.slice A y.list.length c)
      generalize (((((w2.setCell ⟨w.heap.size, 0, none⟩ (.int .i64 y.why)).setCell ⟨w.heap.size, 1, none⟩ (.int .i64 y.n)).setCell ⟨w.heap.size, 2, none⟩ (.int .i64 y.m)).setCell ⟨w.heap.size, 3, none⟩ (.string (Bs y.data))).setCell ⟨w.heap.size, 4, none⟩ (.slice A y.list.length c)) = W5 at hres hbel hlist ⊢
      have e0 : W5.cell? ⟨w.heap.size, 0, none⟩ = some (.int .i64 y.why) := hres.cell 0
      have e1 : W5.cell? ⟨w.heap.size, 1, none⟩ = some (.int .i64 y.n) := hres.cell 1
      have e2 : W5.cell? ⟨w.heap.size, 2, none⟩ = some (.int .i64 y.m) := hres.cell 2
      have e3 : W5.cell? ⟨w.heap.size, 3, none⟩ = some (.string (Bs y.data)) := hres.cell 3
      have e4 : W5.cell? ⟨w.heap.size, 4, none⟩ = some (.slice A y.list.length c) := hres.cell 4
      try rw [Exit.noGoto_ret]
      exact bodyPost_ret (v := .agg #[.int .i64 y.why, .int .i64 y.n, .int .i64 y.m, .string (Bs y.data), .slice A y.list.length c]) (by simp [results, Tryd.results58, go_sem, e0, e1, e2, e3, e4]) rfl ⟨⟨A, c, rfl, hcy, hlist⟩, hyS, hyL, hbel⟩
    · rw [if_neg hD0] at hE2
      subst hE2
      have hD64 := hDl.resolve_left hD0
      obtain ⟨y, hyd⟩ : ∃ y : Ans, { x with data := D } = y := ⟨_, rfl⟩
      rw [hyd] at hy
      have hyy := hy.out
      clear hy
      subst hyy
      have hyS : y.Sound := ⟨by rw [← hyd]; exact ⟨hok.why, hok.n, hok.m, hok.list⟩, .inr (by rw [← hyd]; exact hD64)⟩
      have hyL : y.list.length ≤ 2001 := by rw [← hyd]; exact hx2
      have hDat : ∀ {W v d}, GuessAt w v d { x with data := D } ds W → GuessAt w v d y ds W := by intro W v d h; rwa [hyd] at h
      obtain ⟨A, c, rfl, hcx⟩ := own_slice hA.ans.own
      have hcy : y.list.length ≤ c := by rw [← hyd]; exact hcx
      have hll : x.list.length = y.list.length := by rw [← hyd]
      have v0 : x.why = y.why := by rw [← hyd]
      have v1 : x.n = y.n := by rw [← hyd]
      have v2 : x.m = y.m := by rw [← hyd]
      have v3 : D = y.data := by rw [← hyd]
      replace hyd := Lib.hid hyd
      replace hx1 := Lib.hid hx1
      rw [hll] at hA
      clear hDl hD0 hD64
      go_wp2_with (first
        | (have _t := hb1; go_at_call 25; refine (hlong.out _ (hEW.below hb1)).mono ?_; rintro e w2 ⟨rfl, hb2⟩
           have H3 := (hA.call hb1).call hb2
           have c0 := H3.ans.box.cell 0
           have c1 := H3.ans.box.cell 1
           have c2 := H3.ans.box.cell 2
           have c3 := H3.ans.box.cell 3
           have c4 := H3.ans.box.cell 4
           have r0 := H3.ans.res.cell 0
           have r1 := H3.ans.res.cell 1
           have r2 := H3.ans.res.cell 2
           have r3 := H3.ans.res.cell 3
           have r4 := H3.ans.res.cell 4
           have q0 := H3.ans.res.frozen 0
           have q1 := H3.ans.res.frozen 1
           have q2 := H3.ans.res.frozen 2
           have q3 := H3.ans.res.frozen 3
           have q4 := H3.ans.res.frozen 4
           have f3 := H3.ans.box.frozen 3)
        | (go_at_call 43; refine (hj.out _ hrd).mono ?_; rintro e w1 ⟨rfl, hb1⟩))
      have H4 := (hDat (H3.data_ D)).ans
      rw [v3] at H4
      have hres := (((((H4.res.set_ 0 (.int .i64 y.why)).set_ 1 (.int .i64 y.n)).set_ 2 (.int .i64 y.m)).set_ 3 (.string (Bs y.data))).set_ 4 (.slice A y.list.length c))
      have hbel := (((((H4.below.setCell (p := ⟨w.heap.size, 0, none⟩) (Nat.le_refl _) (.int .i64 y.why)).setCell (p := ⟨w.heap.size, 1, none⟩) (Nat.le_refl _) (.int .i64 y.n)).setCell (p := ⟨w.heap.size, 2, none⟩) (Nat.le_refl _) (.int .i64 y.m)).setCell (p := ⟨w.heap.size, 3, none⟩) (Nat.le_refl _) (.string (Bs y.data))).setCell (p := ⟨w.heap.size, 4, none⟩) (Nat.le_refl _) (.slice A y.list.length c))
      have hlist := own_stored H4 (.int .i64 y.why) (.int .i64 y.n) (.int .i64 y.m) (.string (Bs y.data)) (.slice A y.list.length c)
      generalize ((((((w2.setCell ⟨w.heap.size + 1, 3, none⟩ (.string (Bs y.data))).setCell ⟨w.heap.size, 0, none⟩ (.int .i64 y.why)).setCell ⟨w.heap.size, 1, none⟩ (.int .i64 y.n)).setCell ⟨w.heap.size, 2, none⟩ (.int .i64 y.m)).setCell ⟨w.heap.size, 3, none⟩ (.string (Bs y.data))).setCell ⟨w.heap.size, 4, none⟩ (.slice A y.list.length c)) = W5 at hres hbel hlist ⊢
      have e0 : W5.cell? ⟨w.heap.size, 0, none⟩ = some (.int .i64 y.why) := hres.cell 0
      have e1 : W5.cell? ⟨w.heap.size, 1, none⟩ = some (.int .i64 y.n) := hres.cell 1
      have e2 : W5.cell? ⟨w.heap.size, 2, none⟩ = some (.int .i64 y.m) := hres.cell 2
      have e3 : W5.cell? ⟨w.heap.size, 3, none⟩ = some (.string (Bs y.data)) := hres.cell 3
      have e4 : W5.cell? ⟨w.heap.size, 4, none⟩ = some (.slice A y.list.length c) := hres.cell 4
      try rw [Exit.noGoto_ret]
      exact bodyPost_ret (v := .agg #[.int .i64 y.why, .int .i64 y.n, .int .i64 y.m, .string (Bs y.data), .slice A y.list.length c]) (by simp [results, Tryd.results58, go_sem, e0, e1, e2, e3, e4]) rfl ⟨⟨A, c, rfl, hcy, hlist⟩, hyS, hyL, hbel⟩
  case pass1 =>
    clear hc hr hG hlen
    intro a' W n hJ hn
    generalize hR : (Code.wp _ _ _ _ _) = R
    unfold guessJ1 at hJ
    refine Exists.elim hJ ?_; clear hJ; intro rem hJ
    refine Exists.elim hJ ?_; clear hJ; intro A hJ
    refine Exists.elim hJ ?_; clear hJ; intro c hJ
    refine Exists.elim hJ ?_; clear hJ; intro v hJ
    refine Exists.elim hJ ?_; clear hJ; intro d hJ
    refine Exists.elim hJ ?_; clear hJ; intro x hJ
    refine Exists.elim hJ ?_; clear hJ; intro ds hJ
    refine Exists.elim hJ ?_; clear hJ; intro K hJ
    refine Exists.elim hJ ?_; clear hJ; intro u1 hJ
    refine Exists.elim hJ ?_; clear hJ; intro u4 hJ
    refine Exists.elim hJ ?_; clear hJ; intro u6 hJ
    refine Exists.elim hJ ?_; clear hJ; intro u7 hJ
    refine Exists.elim hJ ?_; clear hJ; intro u8 hJ
    refine Exists.elim hJ ?_; clear hJ; intro u9 hJ
    refine Exists.elim hJ ?_; clear hJ; intro u10 hJ
    refine Exists.elim hJ ?_; clear hJ; intro u11 hJ
    refine Exists.elim hJ ?_; clear hJ; intro u12 hJ
    refine Exists.elim hJ ?_; clear hJ; intro u13 hJ
    refine Exists.elim hJ ?_; clear hJ; intro u14 hJ
    refine Exists.elim hJ ?_; clear hJ; intro u15 hJ
    refine Exists.elim hJ ?_; clear hJ; intro u16 hJ
    refine Exists.elim hJ ?_; clear hJ; intro u17 hJ
    refine Exists.elim hJ ?_; clear hJ; intro u18 hJ
    refine Exists.elim hJ ?_; clear hJ; intro u19 hJ
    refine Exists.elim hJ ?_; clear hJ; intro u20 hJ
    refine Exists.elim hJ ?_; clear hJ; intro u21 hJ
    refine Exists.elim hJ ?_; clear hJ; intro u22 hJ
    refine Exists.elim hJ ?_; clear hJ; intro u23 hJ
    refine Exists.elim hJ ?_; clear hJ; intro u24 hJ
    refine Exists.elim hJ ?_; clear hJ; intro u25 hJ
    refine Exists.elim hJ ?_; clear hJ; intro u26 hJ
    refine Exists.elim hJ ?_; clear hJ; intro u27 hJ
    refine Exists.elim hJ ?_; clear hJ; intro u28 hJ
    refine Exists.elim hJ ?_; clear hJ; intro u29 hJ
    refine Exists.elim hJ ?_; clear hJ; intro u30 hJ
    refine Exists.elim hJ ?_; clear hJ; intro u31 hJ
    refine Exists.elim hJ ?_; clear hJ; intro u32 hJ
    refine Exists.elim hJ ?_; clear hJ; intro u33 hJ
    refine Exists.elim hJ ?_; clear hJ; intro u34 hJ
    refine Exists.elim hJ ?_; clear hJ; intro u35 hJ
    refine Exists.elim hJ ?_; clear hJ; intro u36 hJ
    refine Exists.elim hJ ?_; clear hJ; intro u37 hJ
    refine Exists.elim hJ ?_; clear hJ; intro u38 hJ
    refine Exists.elim hJ ?_; clear hJ; intro u39 hJ
    refine Exists.elim hJ ?_; clear hJ; intro u40 hJ
    refine Exists.elim hJ ?_; clear hJ; intro u41 hJ
    refine Exists.elim hJ ?_; clear hJ; intro u42 hJ
    refine Exists.elim hJ ?_; clear hJ; intro u43 hJ
    refine Exists.elim hJ ?_; clear hJ; intro u44 hJ
    refine Exists.elim hJ ?_; clear hJ; intro u45 hJ
    refine Exists.elim hJ ?_; clear hJ; intro u46 hJ
    refine Exists.elim hJ ?_; clear hJ; intro u47 hJ
    refine Exists.elim hJ ?_; clear hJ; intro u48 hJ
    refine Exists.elim hJ ?_; clear hJ; intro u49 hJ
    refine Exists.elim hJ ?_; clear hJ; intro u50 hJ
    refine Exists.elim hJ ?_; clear hJ; intro u51 hJ
    refine Exists.elim hJ ?_; clear hJ; intro u52 hJ
    refine Exists.elim hJ ?_; clear hJ; intro u53 hJ
    refine Exists.elim hJ ?_; clear hJ; intro u54 hJ
    refine Exists.elim hJ ?_; clear hJ; intro u55 hJ
    refine Exists.elim hJ ?_; clear hJ; intro u56 hJ
    refine Exists.elim hJ ?_; clear hJ; intro u57 hJ
    refine Exists.elim hJ ?_; clear hJ; intro u58 hJ
    refine Exists.elim hJ ?_; clear hJ; intro u59 hJ
    refine Exists.elim hJ ?_; clear hJ; intro u60 hJ
    refine Exists.elim hJ ?_; clear hJ; intro u61 hJ
    refine Exists.elim hJ ?_; clear hJ; intro u62 hJ
    refine Exists.elim hJ ?_; clear hJ; intro u63 hJ
    refine Exists.elim hJ ?_; clear hJ; intro u64 hJ
    refine Exists.elim hJ ?_; clear hJ; intro u65 hJ
    refine Exists.elim hJ ?_; clear hJ; intro u66 hJ
    refine Exists.elim hJ ?_; clear hJ; intro u67 hJ
    refine Exists.elim hJ ?_; clear hJ; intro u68 hJ
    refine Exists.elim hJ ?_; clear hJ; intro u69 hJ
    refine Exists.elim hJ ?_; clear hJ; intro u70 hJ
    refine Exists.elim hJ ?_; clear hJ; intro u71 hJ
    refine Exists.elim hJ ?_; clear hJ; intro u72 hJ
    refine Exists.elim hJ ?_; clear hJ; intro u73 hJ
    refine Exists.elim hJ ?_; clear hJ; intro u74 hJ
    refine Exists.elim hJ ?_; clear hJ; intro u75 hJ
    refine Exists.elim hJ ?_; clear hJ; intro u76 hJ
    refine Exists.elim hJ ?_; clear hJ; intro u77 hJ
    refine Exists.elim hJ ?_; clear hJ; intro u78 hJ
    refine Exists.elim hJ ?_; clear hJ; intro u79 hJ
    refine Exists.elim hJ ?_; clear hJ; intro u80 hJ
    refine Exists.elim hJ ?_; clear hJ; intro u81 hJ
    refine Exists.elim hJ ?_; clear hJ; intro u82 hJ
    refine Exists.elim hJ ?_; clear hJ; intro u83 hJ
    refine Exists.elim hJ ?_; clear hJ; intro u84 hJ
    refine Exists.elim hJ ?_; clear hJ; intro u85 hJ
    refine Exists.elim hJ ?_; clear hJ; intro u86 hJ
    refine Exists.elim hJ ?_; clear hJ; intro u87 hJ
    refine Exists.elim hJ ?_; clear hJ; intro u88 hJ
    refine Exists.elim hJ ?_; clear hJ; intro u89 hJ
    refine Exists.elim hJ ?_; clear hJ; intro u90 hJ
    refine Exists.elim hJ ?_; clear hJ; intro u91 hJ
    obtain ⟨ha, hc, hr, hA, hx1, hx2, hok, hjt, hK, hgo⟩ := hJ
    subst ha
    obtain rfl : rem.length = n := hn
    subst hR
    obtain ⟨K, rfl⟩ : ∃ j, K = j + 1 := ⟨K - 1, by omega⟩
    have hEW := hE.below hA.ans.below
    replace hx1 := Lib.hid hx1
    rcases rem with _ | ⟨name, _ | ⟨a, r⟩⟩
    · have hfin := Lib.hid ((gg_end K x ds).symm.trans hgo)
      clear hgo
      have hl0 : ([] : List (List UInt8)).length = 0 := rfl
      go_wp2
      go_step3
      exact .inr ⟨rfl, _, _, x, ds, _, _, _, _, _, _, _, _, _, _, _, _, _, _, _, _, _, _, _, _, _, _, _, _, _, _, _, _, _, _, _, _, _, _, _, _, _, _, _, _, _, _, _, _, _, _, _, _, _, _, _, _, _, _, _, _, _, _, _, _, _, _, _, _, _, _, _, _, _, _, _, _, _, _, _, _, _, _, _, _, _, _, _, _, _, _, _, _, _, rfl, hA, hx1, by rw [hx2]; simp, hok, by omega, hfin.out⟩
    · have hfin := Lib.hid ((gg_one K name x ds).symm.trans hgo)
      clear hgo
      have hl0 : [name].length = 1 := rfl
      go_wp2
      go_step3
      exact .inr ⟨rfl, _, _, x, ds, _, _, _, _, _, _, _, _, _, _, _, _, _, _, _, _, _, _, _, _, _, _, _, _, _, _, _, _, _, _, _, _, _, _, _, _, _, _, _, _, _, _, _, _, _, _, _, _, _, _, _, _, _, _, _, _, _, _, _, _, _, _, _, _, _, _, _, _, _, _, _, _, _, _, _, _, _, _, _, _, _, _, _, _, _, _, _, _, _, rfl, hA, hx1, by rw [hx2]; simp, hok, by omega, hfin.out⟩
    · have e1 : (name :: a :: r).length = r.length + 1 + 1 := rfl
      rw [e1]
      have hjt2 := hjt
      rw [jt_cons, jt_cons] at hjt2
      have hla : a.length ≤ 2001 := by omega
      have hc2 : r.length + 1 + 1 ≤ c := hc
      obtain ⟨A1, hsl1, hr1⟩ := slice_tail (n := r.length + 1) (xs := a :: r) hc hr
      obtain ⟨A2, hsl2, hr2⟩ := slice_tail (n := r.length) (c := c - 1) (xs := r) (by omega) hr1
      obtain ⟨b, o, u, rfl, hu, hcell⟩ := Rd.at_ (k := 0) (hr.below hA.ans.below) (by simp)
      obtain rfl : Value.string (Bs name) = u := by simpa [strs] using hu
      obtain ⟨b1, o1, u1', rfl, hu1, hcell1⟩ := Rd.at_ (k := 0) (hr1.below hA.ans.below) (by omega)
      obtain rfl : Value.string (Bs a) = u1' := by simpa [strs] using hu1
      rw [Nat.add_zero] at hcell hcell1
      have hNum := Lib.hid (show_num a (by omega) W hEW)
      have hl2 : (name :: a :: r).length = r.length + 1 + 1 := rfl
      replace hl2 := Lib.hid hl2
      have tl : decide ((r.length : Int) + 1 + 1 < 2) = false := by simp; omega
      clear hu hu1 e1 hjt2
      have hK2 : r.length + 2 ≤ K := by simp at hK; omega
      have hjr : (joinTail [32] ds).length + (joinTail [32] r).length ≤ 2001 := by rw [jt_cons, jt_cons] at hjt; omega
      by_cases hn0 : name = wWhy
      · subst hn0
        have hgo2 := ((gg_why K a r x ds).symm.trans hgo)
        replace hgo2 := Lib.hid hgo2
        clear hgo
        go_wp2_with (first
          | (go_at_call 84; refine hNum.out.mono ?_; rintro e w1 ⟨rfl, hb1⟩
             have H1 := hA.call hb1
             have c0 := H1.ans.box.cell 0
             have f0 := H1.ans.box.frozen 0))
        go_step3
        exact .inl ⟨rfl, ⟨r, A2, (c - 1 - 1), _, _, { x with why := atoiL a }, ds, K, _, _, _, _, _, _, _, _, _, _, _, _, _, _, _, _, _, _, _, _, _, _, _, _, _, _, _, _, _, _, _, _, _, _, _, _, _, _, _, _, _, _, _, _, _, _, _, _, _, _, _, _, _, _, _, _, _, _, _, _, _, _, _, _, _, _, _, _, _, _, _, _, _, _, _, _, _, _, _, _, _, _, _, _, _, _, _, _, rfl, by omega, hr2, H1.why_ _, hx1, hx2, ⟨atoiL_range a, hok.n, hok.m, hok.list⟩, by omega, by omega, hgo2.out⟩, by show r.length < r.length + 1 + 1; omega⟩
      · have t0 : (name == wWhy) = false := by simpa using hn0
        by_cases hn1 : name = wN
        · subst hn1
          have hgo2 := ((gg_n K a r x ds).symm.trans hgo)
          replace hgo2 := Lib.hid hgo2
          clear hgo
          go_wp2_with (first
            | (go_at_call 84; refine hNum.out.mono ?_; rintro e w1 ⟨rfl, hb1⟩
               have H1 := hA.call hb1
               have c0 := H1.ans.box.cell 1
               have f0 := H1.ans.box.frozen 1))
          go_step3
          exact .inl ⟨rfl, ⟨r, A2, (c - 1 - 1), _, _, { x with n := atoiL a }, ds, K, _, _, _, _, _, _, _, _, _, _, _, _, _, _, _, _, _, _, _, _, _, _, _, _, _, _, _, _, _, _, _, _, _, _, _, _, _, _, _, _, _, _, _, _, _, _, _, _, _, _, _, _, _, _, _, _, _, _, _, _, _, _, _, _, _, _, _, _, _, _, _, _, _, _, _, _, _, _, _, _, _, _, _, _, _, _, _, _, rfl, by omega, hr2, H1.n_ _, hx1, hx2, ⟨hok.why, atoiL_range a, hok.m, hok.list⟩, by omega, by omega, hgo2.out⟩, by show r.length < r.length + 1 + 1; omega⟩
        · have t1 : (name == wN) = false := by simpa using hn1
          by_cases hn2 : name = wM
          · subst hn2
            have hgo2 := ((gg_m K a r x ds).symm.trans hgo)
            replace hgo2 := Lib.hid hgo2
            clear hgo
            go_wp2_with (first
              | (go_at_call 84; refine hNum.out.mono ?_; rintro e w1 ⟨rfl, hb1⟩
                 have H1 := hA.call hb1
                 have c0 := H1.ans.box.cell 2
                 have f0 := H1.ans.box.frozen 2))
            go_step3
            exact .inl ⟨rfl, ⟨r, A2, (c - 1 - 1), _, _, { x with m := atoiL a }, ds, K, _, _, _, _, _, _, _, _, _, _, _, _, _, _, _, _, _, _, _, _, _, _, _, _, _, _, _, _, _, _, _, _, _, _, _, _, _, _, _, _, _, _, _, _, _, _, _, _, _, _, _, _, _, _, _, _, _, _, _, _, _, _, _, _, _, _, _, _, _, _, _, _, _, _, _, _, _, _, _, _, _, _, _, _, _, _, _, _, rfl, by omega, hr2, H1.m_ _, hx1, hx2, ⟨hok.why, hok.n, atoiL_range a, hok.list⟩, by omega, by omega, hgo2.out⟩, by show r.length < r.length + 1 + 1; omega⟩
          · have t2 : (name == wM) = false := by simpa using hn2
            by_cases hn3 : name = wData
            · subst hn3
              have hgd : guessGo K ((a :: r).dropWhile notList) x (ds ++ (a :: r).takeWhile notList) = G := (gg_data K a r x ds).symm.trans hgo
              replace hgd := Lib.hid hgd
              have hja : (joinTail [32] ds).length + (joinTail [32] (a :: r)).length ≤ 2001 := by rw [jt_cons] at hjt; omega
              clear hsl2 hcell1 hNum hr2 hgo hn0 hn1 hn2
              go_wp2
              go_loopw [0, 5] (fun l d wr => ∃ (rem' : List (List UInt8)) (A' : Option Addr) (c' : Nat) (ds' : List (List UInt8)), l = .slice A' rem'.length c' ∧ rem'.length ≤ c' ∧ Rd w A' rem'.length (strs rem') ∧ GuessAt w v d x ds' wr ∧ (joinTail [32] ds').length + (joinTail [32] rem').length ≤ 2001 ∧ rem'.length ≤ r.length + 1 ∧ Hid (guessGo K (rem'.dropWhile notList) x (ds' ++ rem'.takeWhile notList) = G)) (fun l _ _ => sliceLen l)
              case atStart => exact ⟨a :: r, _, c - 1, ds, rfl, by simp; omega, hr1, hA, hja, by simp, hgd⟩
              case round =>
                obtain ⟨rem', A', c', ds', rfl, hc', hr', hA', hj', hrl', hg'⟩ := hrel
                rcases rem' with _ | ⟨q, r'⟩
                · have hg2 : Hid (guessGo K [] x ds' = G) := Lib.hid (by have := hg'.out; simpa using this)
                  have hl0 : ([] : List (List UInt8)).length = 0 := rfl
                  clear hg'
                  go_wp2
                  go_step3
                  exact .inl ⟨rfl, ⟨[], A', c', _, _, x, ds', K, _, _, _, _, _, _, _, _, _, _, _, _, _, _, _, _, _, _, _, _, _, _, _, _, _, _, _, _, _, _, _, _, _, _, _, _, _, _, _, _, _, _, _, _, _, _, _, _, _, _, _, _, _, _, _, _, _, _, _, _, _, _, _, _, _, _, _, _, _, _, _, _, _, _, _, _, _, _, _, _, _, _, _, _, _, _, _, _, rfl, by simp, hr', hA', hx1, hx2, hok, by simpa [joinTail] using hj', by simp; omega, hg2.out⟩, by show 0 < r.length + 1 + 1; omega⟩
                · obtain ⟨b2, o2, u2', rfl, hu2, hcell2⟩ := Rd.at_ (k := 0) (hr'.below hA'.ans.below) (by simp)
                  obtain rfl : Value.string (Bs q) = u2' := by simpa [strs] using hu2
                  rw [Nat.add_zero] at hcell2
                  by_cases hq : q = wList
                  · subst hq
                    have hg2 : Hid (guessGo K (wList :: r') x ds' = G) := Lib.hid (by
                      have := hg'.out
                      simpa [notList] using this)
                    clear hg' hu2
                    have hrl2 : r'.length + 1 ≤ r.length + 1 := hrl'
                    go_wp2
                    go_step3
                    exact .inl ⟨rfl, ⟨(wList :: r'), _, c', _, _, x, ds', K, _, _, _, _, _, _, _, _, _, _, _, _, _, _, _, _, _, _, _, _, _, _, _, _, _, _, _, _, _, _, _, _, _, _, _, _, _, _, _, _, _, _, _, _, _, _, _, _, _, _, _, _, _, _, _, _, _, _, _, _, _, _, _, _, _, _, _, _, _, _, _, _, _, _, _, _, _, _, _, _, _, _, _, _, _, _, _, _, rfl, hc', hr', hA', hx1, hx2, hok, hj', by simp; omega, hg2.out⟩, by show r'.length + 1 < r.length + 1 + 1; omega⟩
                  · have tq : (q == wList) = false := by simpa using hq
                    have hg2 : Hid (guessGo K (r'.dropWhile notList) x ((ds' ++ [q]) ++ r'.takeWhile notList) = G) := Lib.hid (by
                      have h1 : notList q = true := by simpa [notList] using hq
                      have := hg'.out
                      rw [List.dropWhile_cons_of_pos h1, List.takeWhile_cons_of_pos h1] at this
                      simpa using this)
                    obtain ⟨A3, hsl3, hr3⟩ := slice_tail (n := r'.length) (xs := r') hc' hr'
                    have hdc := jt_count ds'
                    have hj3 : (joinTail [32] (ds' ++ [q])).length + (joinTail [32] r').length ≤ 2001 := by rw [jt_cons] at hj'; rw [jt_app, jt_one]; omega
                    have hc3 : r'.length + 1 ≤ c' := hc'
                    have hrl3 : r'.length + 1 ≤ r.length + 1 := hrl'
                    clear hg' hu2 hq
                    go_wp2_with (first
                      | (at_builtin
                         refine wpList_app1 (w := w) tStr rfl (.tmp 57) (.tmp 61) rfl rfl hA'.dat rfl rfl ?_ ?_ hA'.ans.below ?_ ?_
                         · omega
                         · omega
                         · exact hA'.ans.below.size
                         intro v4 W4 hown4 hb4 hg4 _))
                    go_roundw
                    case rel => exact ⟨r', A3, c' - 1, ds' ++ [q], rfl, by omega, hr3, hA'.word hown4 hb4 hg4, hj3, by omega, hg2⟩
                    case measure => simp [sliceLen]
            · have t3 : (name == wData) = false := by simpa using hn3
              by_cases hn4 : name = wList
              · subst hn4
                have hgl : fin { x with list := (a :: r).map atoiL } ds = G := by
                  have := (gg_list K a r x ds).symm.trans hgo
                  rwa [hx2, List.nil_append] at this
                replace hgl := Lib.hid hgl
                have har := jt_mem (a :: r)
                have hjar : (joinTail [32] (a :: r)).length ≤ 2001 := by rw [jt_cons] at hjt; omega
                have hrc : r.length + 1 ≤ 2001 := by have := jt_count (a :: r); simp at this; omega
                replace har := Lib.hid har
                have hx2' := Lib.hid hx2
                clear hsl2 hcell1 hNum hr2 hgo hn0 hn1 hn2 hn3 hx2
                go_wp2
                go_loopw [69] (fun i wr => ∃ k : Nat, k ≤ r.length + 1 ∧ i = .int .i64 k ∧ ∃ (L : List Int) (v' : Value), Hid (L = ((a :: r).take k).map atoiL) ∧ L.length ≤ k ∧ GuessAt w v' d { x with list := L } ds wr) (fun i _ => r.length + 1 - (RowKit.intOf i).toNat)
                case atStart => exact ⟨0, by omega, rfl, [], v, Lib.hid (by simp), by simp, by
                  have := hx2'.out
                  obtain ⟨x1, x2, x3, x4, x5⟩ := x
                  simp only at this
                  subst this
                  exact hA⟩
                case round =>
                  obtain ⟨k, hk, rfl, L, v', hL, hLk, hA'⟩ := hrel
                  by_cases hlt : k < r.length + 1
                  · obtain ⟨b2, o2, u2', he2, hu2, hcell2⟩ := Rd.at_ (k := k) (hr1.below hA'.ans.below) hlt
                    cases he2
                    obtain ⟨q, hq, rfl⟩ := strs_at hu2
                    have hql : q.length ≤ 2001 := Nat.le_trans (har.out q (List.mem_of_getElem? hq)) hjar
                    have hEr : Env wr.drew := (hE.below hA'.ans.below).below (bdrew wr)
                    have hNq := Lib.hid (show_num q (by omega) wr.drew hEr)
                    have hL2 : Hid (L ++ [atoiL q] = ((a :: r).take (k + 1)).map atoiL) := Lib.hid (by
                      rw [hL.out, take_snoc_of hq, List.map_append]
                      rfl)
                    have hcc : wr.cell? ⟨w.heap.size + 1, 4, none⟩ = some v' ∧ wr.frozen? ⟨w.heap.size + 1, 4, none⟩ = false := CellIs.blk (i := 4) hA'.ans.box rfl
                    obtain ⟨c4, f4⟩ := hcc
                    have hl1 : (L.length + 1) * 8 ≤ 140737488355328 := by omega
                    have hl2' : L.length + 1 ≤ 140737488355328 := by omega
                    clear hu2 hq hL
                    go_wp2
                    go_region_law (first
                        | (have _t := hb1
                           refine hP.out _ _ _ _ _ _ (by rfl) (.tmp 74) (.tmp 77) (by rfl) (by rfl) (by rfl) ?_
                           intro v4 W4 hown4 hb4 hg4
                           obtain ⟨g4, cap4, rfl⟩ := ownsRow_succ hown4
                           have hc5 : W4.cell? ⟨w.heap.size + 1, 4, none⟩ = some v' ∧ W4.frozen? ⟨w.heap.size + 1, 4, none⟩ = false := CellIs.blk (i := 4) (Blk.grown (w := w1.alloc (.cells #[.int .i64 (atoiL q)] 3)) (hH1.out.ans.box.alloc _) hg4 (fun e => hH1.out.ans.box.own_ne hH1.out.ans.own (by decide) e.symm)) rfl
                           obtain ⟨c5, f5⟩ := hc5)
                        | (go_simp; go_at_call 84; refine hNq.out.mono ?_; rintro e w1 ⟨rfl, hb1⟩
                           have hH1 := Lib.hid (hA'.call ((bdrew wr).trans hb1))
                           have hcc1 : w1.cell? ⟨w.heap.size + 1, 4, none⟩ = some v' ∧ w1.frozen? ⟨w.heap.size + 1, 4, none⟩ = false := CellIs.blk (i := 4) hH1.out.ans.box rfl
                           obtain ⟨c6, f6⟩ := hcc1
                           have hz1 := hH1.out.ans.box.lt
                           have hP := Lib.hid (@step_app1 Tryd.prog w (w1.alloc (.cells #[.int .i64 (atoiL q)] 3)) w.heap.size _ _ _ _ tInt v' L.length (nums .i64 L) (hH1.out.ans.own.alloc _) _ 1 1 [.int .i64 (atoiL q)] (Rd.one w1 (.int .i64 (atoiL q)) 3) (oneInt _) hl1 hl2' (hH1.out.ans.below.alloc hH1.out.ans.below.size _) (hH1.out.ans.below.alloc hH1.out.ans.below.size (.cells #[.int .i64 (atoiL q)] 3)).size)))
                    all_goals go_wp2
                    all_goals go_roundw
                    all_goals first
                      | exact ⟨k + 1, by omega, by go_num, L ++ [atoiL q], _, hL2, by rw [List.length_append, List.length_singleton]; omega, hH1.out.push ((Below.refl _ w1).alloc (Nat.le_refl _) _) hown4 hb4 hg4⟩
                      | (simp [RowKit.intOf]; omega)
                  · obtain rfl : k = r.length + 1 := by omega
                    have hL3 : L = (a :: r).map atoiL := by rw [hL.out, List.take_of_length_le (by simp)]
                    have hLo : ∀ u ∈ L, I64 u := by rw [hL3]; exact map_atoi_ok _
                    rw [← hL3] at hgl
                    clear hL hL3
                    go_wp2
                    go_step3
                    exact .inr ⟨rfl, _, _, { x with list := L }, ds, _, _, _, _, _, _, _, _, _, _, _, _, _, _, _, _, _, _, _, _, _, _, _, _, _, _, _, _, _, _, _, _, _, _, _, _, _, _, _, _, _, _, _, _, _, _, _, _, _, _, _, _, _, _, _, _, _, _, _, _, _, _, _, _, _, _, _, _, _, _, _, _, _, _, _, _, _, _, _, _, _, _, _, _, _, _, _, _, _, rfl, hA', hx1, by dsimp only; omega, ⟨hok.why, hok.n, hok.m, hLo⟩, by omega, hgl.out⟩
              · have t4 : (name == wList) = false := by simpa using hn4
                have hfin := Lib.hid ((gg_other K name a r x ds hn0 hn1 hn2 hn3 hn4).symm.trans hgo)
                clear hgo hn0 hn1 hn2 hn3 hn4
                go_wp2
                go_step3
                exact .inr ⟨rfl, _, _, x, ds, _, _, _, _, _, _, _, _, _, _, _, _, _, _, _, _, _, _, _, _, _, _, _, _, _, _, _, _, _, _, _, _, _, _, _, _, _, _, _, _, _, _, _, _, _, _, _, _, _, _, _, _, _, _, _, _, _, _, _, _, _, _, _, _, _, _, _, _, _, _, _, _, _, _, _, _, _, _, _, _, _, _, _, _, _, _, _, _, _, rfl, hA, hx1, by rw [hx2]; simp, hok, by omega, hfin.out⟩

end Go.Proofs.YtmakpilfjopmeaaDoor
