/- A range over a function ('for x := range seq') at the wide fence: our own form of the law. An iterator may keep state in blocks of its own (Z0) and lay new ones between two rounds; the caller's rounds leave alone the blocks that are the iterator's (Z). After the guide's wpIn_rangeFunc_ownF, its proof turned. -/
import Derived.RangeFuncNested
import Derived.RangeFuncBound
import Derived.RangeFuncCalls
import Derived.RangeFuncLeaves
import Derived.RangeFuncBox
import Derived.Shelf.Abstract
import Derived.Shelf.RegionOpen
import Derived.WalkKit
import Derived.OwnWalkIn
import Derived.TacticsInMore
import Derived.LoopNIn
import Derived.LoopIn
import Derived.Test.YtmakpilfjopmeaaDoorLib
set_option linter.unusedVariables false
set_option linter.unusedSimpArgs false
namespace Go.Proofs.YtmakpilfjopmeaaDoor
open Go Go.RowKit Go.Shelf

/-- W' grew out of W: what has turned are blocks of Z, or new ones. -/
structure GrowsIn (Z : Nat → Prop) (W W' : World) : Prop where
  os : W'.os = W.os
  tape : W'.tape = W.tape
  output : W'.output = W.output
  size : W.heap.size ≤ W'.heap.size
  block : ∀ i, i < W.heap.size → ¬ Z i → W'.heap[i]? = W.heap[i]?
theorem GrowsIn.refl (Z : Nat → Prop) (W : World) : GrowsIn Z W W := ⟨rfl, rfl, rfl, Nat.le_refl _, fun _ _ _ => rfl⟩
theorem GrowsIn.mono {Z Z' : Nat → Prop} {W W' : World} (h : GrowsIn Z W W') (hz : ∀ i, Z i → Z' i) : GrowsIn Z' W W' := ⟨h.os, h.tape, h.output, h.size, fun i hi hn => h.block i hi fun hq => hn (hz i hq)⟩
theorem GrowsIn.of_below {Z : Nat → Prop} {W W' : World} (h : Below W.heap.size W W') : GrowsIn Z W W' := ⟨h.os, h.tape, h.output, h.size, fun i hi _ => h.block i hi⟩
theorem GrowsIn.drewN (Z : Nat → Prop) (W : World) (m : Nat) : GrowsIn Z W (W.drewN m) := ⟨rfl, rfl, rfl, Nat.le_refl _, fun _ _ _ => rfl⟩
theorem GrowsIn.set_ {Z : Nat → Prop} {W W' : World} (h : GrowsIn Z W W') {p : Addr} (hp : Z p.block ∨ W.heap.size ≤ p.block) (u : Value) : GrowsIn Z W (W'.setCell p u) :=
  ⟨h.os, h.tape, h.output, by simpa [World.setCell] using h.size, fun i hi hn => (Below.heap_setCell W' p u i (by rintro rfl; rcases hp with hp | hp; exact hn hp; omega)).trans (h.block i hi hn)⟩
theorem GrowsIn.put {Z : Nat → Prop} {W : World} {r : Nat} (hr : Z r) (o : Obj) : GrowsIn Z W (W.putObj r o) :=
  ⟨rfl, rfl, rfl, by simp, fun i _ hn => World.putObj_heap_other (by rintro rfl; exact hn hr)⟩
/-- Blocks of Z lie as they lay; none has gone. -/
structure KeepsZ (Z : Nat → Prop) (W W' : World) : Prop where
  size : W.heap.size ≤ W'.heap.size
  block : ∀ i, i < W.heap.size → Z i → W'.heap[i]? = W.heap[i]?
theorem KeepsZ.refl (Z : Nat → Prop) (W : World) : KeepsZ Z W W := ⟨Nat.le_refl _, fun _ _ _ => rfl⟩
theorem KeepsZ.trans {Z : Nat → Prop} {a b c : World} (h : KeepsZ Z a b) (k : KeepsZ Z b c) : KeepsZ Z a c :=
  ⟨Nat.le_trans h.size k.size, fun i hi hz => (k.block i (Nat.lt_of_lt_of_le hi h.size) hz).trans (h.block i hi hz)⟩
theorem KeepsZ.of_below {Z : Nat → Prop} {W W' : World} (h : Below W.heap.size W W') : KeepsZ Z W W' := ⟨h.size, fun i hi _ => h.block i hi⟩
theorem KeepsZ.set_ {Z : Nat → Prop} {W W' : World} (h : KeepsZ Z W W') {p : Addr} (hp : ¬ Z p.block) (u : Value) : KeepsZ Z W (W'.setCell p u) :=
  ⟨by simpa [World.setCell] using h.size, fun i hi hz => (Below.heap_setCell W' p u i (by rintro rfl; exact hp hz)).trans (h.block i hi hz)⟩
theorem KeepsZ.alloc {Z : Nat → Prop} {W W' : World} (h : KeepsZ Z W W') (o : Obj) : KeepsZ Z W (W'.alloc o) :=
  ⟨Nat.le_trans h.size (by simp), fun i hi hz => (Below.heap_alloc W' o i (Nat.lt_of_lt_of_le hi h.size)).trans (h.block i hi hz)⟩
theorem KeepsZ.grown {Z : Nat → Prop} {W W' W2 : World} (h : KeepsZ Z W W') {row : Option Nat} (hg : W'.grownBy W2 row) (hr : ∀ r, row = some r → ¬ Z r) : KeepsZ Z W W2 :=
  ⟨Nat.le_trans h.size hg.size, fun i hi hz => (hg.block i (Nat.lt_of_lt_of_le hi h.size) (fun e => hr i e.symm hz)).trans (h.block i hi hz)⟩

/-- An iterator's value (function g, what it has captured: lb) hands the elements xs to yield, in their order, till a round says 'no more'; between two rounds it turns blocks of Z0 and new ones alone. -/
def Iter (P : Program) (g : Nat) (lb : Array Value) {α : Type} (encs : α → Array Value) (xs : List α) (Z0 : Nat → Prop) (W0 : World) : Prop :=
  ∀ (l : Nat) (J : (Nat → Prop) → Nat → World → Prop) (Jx : World → Prop),
    (∀ Z Z' k W W', J Z k W → GrowsIn Z0 W W' → (∀ i, Z i → Z' i) → (∀ i, Z' i → Z i ∨ (W.heap.size ≤ i ∧ i < W'.heap.size)) → J Z' k W') →
    (∀ Z k W x, J Z k W → xs[k]? = some x → YieldAt Fence.wide 7 P l (encs x) W fun e W' => (e = .returned (.bool true) ∧ J Z (k + 1) W' ∧ KeepsZ Z W W') ∨ (e = .returned (.bool false) ∧ Jx W')) →
    ∀ Z W, (∀ i, Z0 i → Z i) → Below W0.heap.size W0 W → J Z 0 W →
    Calls P g (#[.func (.yield l) #[] #[]] ++ lb) W fun e W' => (∃ v, e = .returned v) ∧ ((∃ Z', J Z' xs.length W') ∨ Jx W')

theorem own_growsIn {Z : Nat → Prop} {W W' : World} {B e sz n : Nat} {v : Value} {xs : List Value} (h : W.ownsRow B e sz v n xs) (hg : GrowsIn Z W W') (hz : ∀ g, v.ownBlock = some g → ¬ Z g) : W'.ownsRow B e sz v n xs := by
  refine ⟨h.1, ?_⟩
  rcases h.2 with hn | ⟨g, cap, cur, rfl, hb, hgg, rest⟩
  · exact .inl hn
  · exact .inr ⟨g, cap, cur, rfl, hb, (hg.block g (Array.getElem?_eq_some_iff.1 hgg).1 (hz g rfl)).trans hgg, rest⟩
theorem below_growsIn {n₀ : Nat} {Z : Nat → Prop} {w W W' : World} (h : Below n₀ w W) (hg : GrowsIn Z W W') (hn : n₀ ≤ W.heap.size) (hz : ∀ i, Z i → n₀ ≤ i) : Below n₀ w W' :=
  h.trans ⟨hg.os, hg.tape, hg.output, hg.size, fun i hi => hg.block i (by omega) (fun q => by have := hz i q; omega)⟩
/-- A caller that collects what comes in a slice of its own, whose variable lies in the box bx. -/
def Coll (w : World) (bx tS e : Nat) (Z : Nat → Prop) (n : Nat) (xs : List Value) (W : World) : Prop :=
  ∃ v, Boxed W bx tS v ∧ W.ownsRow w.heap.size e 1 v n xs ∧ (∀ g, v.ownBlock = some g → ¬ Z g) ∧ ¬ Z bx ∧ (∀ i, Z i → w.heap.size ≤ i ∧ i < W.heap.size) ∧ Below w.heap.size w W
theorem Coll.step {w : World} {bx tS e : Nat} {Z Z' : Nat → Prop} {n : Nat} {xs : List Value} {W W' : World} (h : Coll w bx tS e Z n xs W) (hg : GrowsIn Z W W') (hz : ∀ i, Z' i → Z i ∨ (W.heap.size ≤ i ∧ i < W'.heap.size)) : Coll w bx tS e Z' n xs W' := by
  obtain ⟨v, hb, ho, hv, hx, hZ, hB⟩ := h
  refine ⟨v, (hg.block _ hb.lt hx).trans hb, own_growsIn ho hg hv, fun g e q => ?_, fun q => ?_, fun i q => ?_, below_growsIn hB hg hB.size (fun i q => (hZ i q).1)⟩
  · rcases hz g q with q | q
    · exact hv g e q
    · have := (ho.lt g e).2; omega
  · rcases hz _ q with q | q
    · exact hx q
    · have := hb.lt; omega
  · have h1 := hg.size
    have h2 := hB.size
    rcases hz i q with q | q
    · have := hZ i q; omega
    · omega

/-- How a round's body may be left. -/
def zPost (Z : Nat → Prop) (I : (Nat → Prop) → Nat → World → Prop) (Ix : Code → (Nat → Prop) → World → Prop) (k : Nat) (W : World) : Exit → Act → World → Prop
  | .normal, _, W' => KeepsZ Z W W' ∧ I Z (k + 1) W'
  | .ret, _, W' => KeepsZ Z W W' ∧ Ix .ret Z W'
  | .exit id, _, W' => KeepsZ Z W W' ∧ Ix (.exit id) Z W'
  | .goto t, _, W' => KeepsZ Z W W' ∧ Ix (.goto t) Z W'
  | .panic _, _, _ => False
  | .outgrown, _, _ => False

variable {P : Program}
theorem range_law {α : Type} {g : Operand} {ps : Array Tmp} {assign body : Code} {Q : Exit → Act → World → Prop} {a : Act} {w : World}
    {gf : Nat} {lb : Array Value} (hg : a.eval g = .func (.func gf) #[] lb) (eg : ∀ args w, (callFunc gf args).run P w = .ok (.enter gf args) w)
    {encs : α → Array Value} {xs : List α} {Z0 : Nat → Prop} (hit : Iter P gf lb encs xs Z0 w) (hZ0 : ∀ i, Z0 i → i < w.heap.size) (hps : ∀ x, (encs x).size = ps.size)
    (I : (Nat → Prop) → Nat → World → Prop) (Ix : Code → (Nat → Prop) → World → Prop)
    (hI : ∀ Z Z' k W W', I Z k W → GrowsIn Z W W' → (∀ i, Z' i → Z i ∨ (W.heap.size ≤ i ∧ i < W'.heap.size)) → I Z' k W')
    (hIx : ∀ c Z W r o, Ix c Z W → Z r → Ix c Z (W.putObj r o)) (h0 : I Z0 0 w) (a₁ : α → Act)
    (hassign : ∀ (l : Nat) (x : α) (W : World) (K : Act → World → Prop), K (a₁ x) W →
      assign.wpIn (Fence.wide.inRound l) 7 P (Exit.then K (fun _ _ _ => False)) { tmps := (ps.zip (encs x)).foldl (fun t (p, v) => t.setIfInBounds p v) a.tmps, defers := [] } W)
    (hbody : ∀ (l : Nat) (Z : Nat → Prop) (k : Nat) (x : α) (W : World), I Z k W → xs[k]? = some x → body.wpIn (Fence.wide.inRound l) 7 P (zPost Z I Ix k W) (a₁ x) W)
    (hdone : ∀ (D : Nat) (Z : Nat → Prop) (W : World), w.heap.size ≤ D → Z D → I Z xs.length W → W.heap[D]? = some (.deferred (some [])) → Q .normal { a with defers := { target := .collected D, args := #[] } :: a.defers } W)
    (hstop : ∀ (D : Nat) (c : Code) (Z : Nat → Prop) (W : World), w.heap.size ≤ D → Z D → Ix c Z W → W.heap[D]? = some (.deferred (some [])) → c.wpIn Fence.wide 9 P Q { a with defers := { target := .collected D, args := #[] } :: a.defers } W) :
    (Code.rangeFunc g ps assign body).wpIn Fence.wide 9 P Q a w := by
  refine wpIn_rangeFunc ?_
  intro fn hfn
  obtain ⟨rec, hrec⟩ : ∃ rec : LoopState → Option Code → Loop, rec = fun st pe => { state := st, pending := pe, fn, tmps := a.tmps, params := ps, assign, body, defers := w.heap.size } := ⟨_, rfl⟩
  obtain ⟨W1, hW1⟩ : ∃ W1, (w.alloc (.deferred (some []))).alloc (.loop (rec .ready none)) = W1 := ⟨_, rfl⟩
  have hL1 : W1.heap[w.heap.size + 1]? = some (.loop (rec .ready none)) := by
    rw [← hW1]; have := World.alloc_heap_new (w.alloc (.deferred (some []))) (.loop (rec .ready none)); rwa [World.size_alloc] at this
  have hK1 : W1.heap[w.heap.size]? = some (.deferred (some [])) := by
    rw [← hW1]; exact (Below.heap_alloc _ _ _ (by simp)).trans (World.alloc_heap_new w _)
  have hb1 : Below w.heap.size w W1 := by
    rw [← hW1]; exact ((Below.refl _ w).alloc (Nat.le_refl _) _).alloc (by simp) _
  have hs1 : W1.heap.size = w.heap.size + 2 := by rw [← hW1]; simp
  have hI1 : I (fun i => Z0 i ∨ (w.heap.size ≤ i ∧ i < W1.heap.size)) 0 W1 := hI _ _ _ _ _ h0 (GrowsIn.of_below hb1) (fun i hi => hi)
  refine ⟨w.heap.size + 1, [{ target := .collected w.heap.size, args := #[] }], W1, { target := .fn (.func gf) lb, args := #[.func (.yield (w.heap.size + 1)) #[] #[]] }, W1, gf,
    #[.func (.yield (w.heap.size + 1)) #[] #[]] ++ lb, W1, ?_, ?_, ?_, ?_, fun _ => by decide, ?_⟩
  · rw [← hW1, hrec]; exact run_enterLoop_outer _ _ _ _ _
  · simp only [resolve, hg]
    simp [go_sem]
  · intro f' hf'; trivial
  · simp [invoke, go_sem, eg]
  · refine callsIn_wide.2 ((hit (w.heap.size + 1)
      (fun Z k W => (∀ i, Z0 i ∨ w.heap.size ≤ i → i < w.heap.size + 2 → Z i) ∧ I Z k W ∧ W.heap[w.heap.size + 1]? = some (.loop (rec .ready none)) ∧ W.heap[w.heap.size]? = some (.deferred (some [])))
      (fun W => ∃ c Z, (Z (w.heap.size) ∧ Z (w.heap.size + 1)) ∧ Ix c Z W ∧ W.heap[w.heap.size + 1]? = some (.loop (rec .done (some c))) ∧ W.heap[w.heap.size]? = some (.deferred (some [])))
      ?_ ?_ (fun i => Z0 i ∨ (w.heap.size ≤ i ∧ i < W1.heap.size)) W1 (fun i h => .inl h) hb1 ⟨fun i h h2 => h.imp id (fun h => ⟨h, by omega⟩), hI1, hL1, hK1⟩).mono ?_)
    · -- THE ITERATOR's OWN STEPS
      rintro Z Z' k W W' ⟨hz, hi, hl, hk⟩ hg' hzz hzn
      have h1 := (Array.getElem?_eq_some_iff.1 hl).1
      have n0 : ¬ Z0 w.heap.size := fun h => by have := hZ0 _ h; omega
      have n1 : ¬ Z0 (w.heap.size + 1) := fun h => by have := hZ0 _ h; omega
      have hZ : ∀ i, Z0 i → Z i := fun i h => hz i (.inl h) (by have := hZ0 _ h; omega)
      exact ⟨fun i h h2 => hzz i (hz i h h2), hI _ _ _ _ _ hi (hg'.mono hZ) hzn, (hg'.block _ h1 n1).trans hl, (hg'.block _ (by omega) n0).trans hk⟩
    · -- ONE ROUND
      rintro Z k W x ⟨hz, hi, hl, hk⟩ hx
      have hlt : w.heap.size + 1 < W.heap.size := (Array.getElem?_eq_some_iff.1 hl).1
      have zr : Z (w.heap.size + 1) := hz _ (.inr (by omega)) (by omega)
      have zd : Z w.heap.size := hz _ (.inr (by omega)) (by omega)
      have hy := run_yield (P := P) (args := encs x) hl (by rw [hrec]; exact hps x)
      rw [hrec] at hy
      refine ⟨fn, _, assign, body, hy, roundIn_of_wpIn hfn (hassign _ x W _ ⟨_, run_beginRound hl (by rw [hrec]), ?_⟩)⟩
      have hl2 : (W.putObj (w.heap.size + 1) (.loop { rec .ready none with state := .busy })).heap[w.heap.size + 1]? = some (.loop { rec .ready none with state := .busy }) := World.putObj_heap_same hlt
      have hk2 : (W.putObj (w.heap.size + 1) (.loop { rec .ready none with state := .busy })).heap[w.heap.size]? = some (.deferred (some [])) := (World.putObj_heap_other (by omega)).trans hk
      have hi2 : I Z k (W.putObj (w.heap.size + 1) (.loop { rec .ready none with state := .busy })) := hI _ _ _ _ _ hi (GrowsIn.put zr _) (fun i h => .inl h)
      refine wpIn_mono (hbody _ Z k x _ hi2 hx) ?_
      have fin : ∀ (jump : Option Code) (W3 : World), KeepsZ Z (W.putObj (w.heap.size + 1) (.loop { rec .ready none with state := .busy })) W3 →
          (Instr.endRound (w.heap.size + 1) jump).run P W3 = .ok (.bool jump.isNone) (W3.putObj (w.heap.size + 1) (.loop (rec (if jump.isNone then .ready else .done) jump))) ∧
          (W3.putObj (w.heap.size + 1) (.loop (rec (if jump.isNone then .ready else .done) jump))).heap[w.heap.size + 1]? = some (.loop (rec (if jump.isNone then .ready else .done) jump)) ∧
          (W3.putObj (w.heap.size + 1) (.loop (rec (if jump.isNone then .ready else .done) jump))).heap[w.heap.size]? = some (.deferred (some [])) := fun jump W3 hk3 => by
        have hl3 := (hk3.block _ (by simpa using hlt) zr).trans hl2
        have hd3 := (hk3.block _ (by simp; omega) zd).trans hk2
        have := run_endRound (P := P) jump hl3
        rw [hrec] at this ⊢
        exact ⟨this, World.putObj_heap_same (Array.getElem?_eq_some_iff.1 hl3).1, (World.putObj_heap_other (by omega)).trans hd3⟩
      rintro e a3 W3 hp
      cases e with
      | normal =>
        obtain ⟨hk3, hi3⟩ := hp
        obtain ⟨hr, hl4, hk4⟩ := fin none W3 hk3
        refine ⟨_, _, hr, .inl ⟨rfl, ⟨hz, hI _ _ _ _ _ hi3 (GrowsIn.put zr _) (fun i h => .inl h), hl4, hk4⟩, ?_⟩⟩
        refine ⟨by have := hk3.size; simpa using this, fun i hlti hzi => ?_⟩
        by_cases e : i = w.heap.size + 1
        · subst e; rw [hl4, hl]; rfl
        · rw [World.putObj_heap_other e, hk3.block i (by simpa using hlti) hzi, World.putObj_heap_other e]
      | ret =>
        obtain ⟨hk3, hi3⟩ := hp
        obtain ⟨hr, hl4, hk4⟩ := fin (some .ret) W3 hk3
        exact ⟨_, _, hr, .inr ⟨rfl, .ret, Z, ⟨zd, zr⟩, hIx _ _ _ _ _ hi3 zr, hl4, hk4⟩⟩
      | exit id =>
        obtain ⟨hk3, hi3⟩ := hp
        obtain ⟨hr, hl4, hk4⟩ := fin (some (.exit id)) W3 hk3
        exact ⟨_, _, hr, .inr ⟨rfl, .exit id, Z, ⟨zd, zr⟩, hIx _ _ _ _ _ hi3 zr, hl4, hk4⟩⟩
      | goto t =>
        obtain ⟨hk3, hi3⟩ := hp
        obtain ⟨hr, hl4, hk4⟩ := fin (some (.goto t)) W3 hk3
        exact ⟨_, _, hr, .inr ⟨rfl, .goto t, Z, ⟨zd, zr⟩, hIx _ _ _ _ _ hi3 zr, hl4, hk4⟩⟩
      | panic ch => exact hp.elim
      | outgrown => exact hp.elim
    · -- BEHIND THE ITERATOR
      rintro e W2 ⟨⟨v, rfl⟩, (⟨Z, hz, hi, hl, hk⟩ | ⟨c, Z, ⟨zd, zr⟩, hi, hl, hk⟩)⟩
      · have zr : Z (w.heap.size + 1) := hz _ (.inr (by omega)) (by omega)
        have zd : Z w.heap.size := hz _ (.inr (by omega)) (by omega)
        exact ⟨none, _, by have := run_endLoop (P := P) hl (by rw [hrec]; simp); rw [hrec] at this; exact this, hdone _ Z _ (Nat.le_refl _) zd (hI _ _ _ _ _ hi (GrowsIn.put zr _) (fun i h => .inl h)) ((World.putObj_heap_other (by omega)).trans hk)⟩
      · exact ⟨some c, _, by have := run_endLoop (P := P) hl (by rw [hrec]; simp); rw [hrec] at this; exact this, hstop _ c Z _ (Nat.le_refl _) zd (hIx _ _ _ _ _ hi zr) ((World.putObj_heap_other (by omega)).trans hk)⟩

section
variable {F : Fence} {nF : Nat} {ops : Array Oper} {rest : List Oper} {o : Oper} {a : Act} {Q : Exit → Act → World → Prop} {w W : World} {B : Nat} {t e : TypeId} {z : Value} {bytes : Nat}
/-- 'append(s, x...)', in a fenced walk. -/
theorem wpListIn_app (E : ElemT P t e z bytes) (hgd : o.guard = none) (s x : Operand)
    (ho : o.op = .call { callee := .builtin .append, args := #[s, x], argTypes := #[t, t] })
    {v : Value} {n : Nat} {xs : List Value} (hs : a.eval s = v) (hown : W.ownsRow B e 1 v n xs)
    {A : Option Addr} {m c : Nat} {news : List Value} (hx : a.eval x = .slice A m c) (hr : Rd W A m news) (h1 : ∀ u ∈ news, u.oneCell' = true)
    (hlen : (n + m) * bytes ≤ 140737488355328) (hlen' : n + m ≤ 140737488355328) (hb : Below B w W) (hB : B ≤ W.heap.size)
    (h : ∀ v' W', W'.ownsRow B e 1 v' (n + m) (xs ++ news) → Below B w W' → W.grownBy W' v.ownBlock → (v'.ownBlock = v.ownBlock ∨ ∃ b, v'.ownBlock = some b ∧ W.heap.size ≤ b) → wpListIn F nF P ops Q rest (a.put o.dst v') W') : wpListIn F nF P ops Q (o :: rest) a W := by
  refine wpListIn_plain hgd fun K hK => ?_
  obtain ⟨v', w', hrun, h2, h3, h4⟩ := run_app E o.type hown c hr h1 hlen hlen' hB
  unfold Oper.wpIn
  refine ⟨?_, ?_⟩
  · simp [Oper.about, ho, resolve, Target.leads, Sem.run_pure]
  · rw [Oper.semAt_plain F _ _ (by rw [ho]; intro c hc'; cases hc')]
    simp only [execOp, ho, resolve, invoke, builtin, Sem.run_bind, Sem.run_pure, Result.andThen_ok, List.map_toArray, List.map_cons, List.map_nil, hs, hx, hrun]
    exact hK _ _ (h v' w' h2 (hb.grown h3 hB (own_blk hown)) h3 h4)
theorem wpListIn_app1 (E : ElemT P t e z bytes) (hgd : o.guard = none) (s x : Operand)
    (ho : o.op = .call { callee := .builtin .append, args := #[s, x], argTypes := #[t, t] })
    {v : Value} {n : Nat} {xs : List Value} (hs : a.eval s = v) (hown : W.ownsRow B e 1 v n xs)
    {u : Value} {t' : TypeId} (hx : a.eval x = .slice (some ⟨W.heap.size, 0, none⟩) 1 1) (h1 : u.oneCell' = true)
    (hlen : (n + 1) * bytes ≤ 140737488355328) (hlen' : n + 1 ≤ 140737488355328) (hb : Below B w W) (hB : B ≤ W.heap.size)
    (h : ∀ v' W', W'.ownsRow B e 1 v' (n + 1) (xs ++ [u]) → Below B w W' → W.grownBy W' v.ownBlock → (v'.ownBlock = v.ownBlock ∨ ∃ b, v'.ownBlock = some b ∧ W.heap.size ≤ b) → wpListIn F nF P ops Q rest (a.put o.dst v') W') : wpListIn F nF P ops Q (o :: rest) a (W.alloc (.cells #[u] t')) := by
  exact wpListIn_app (w := w) E hgd s x ho hs (hown.alloc _) hx (Rd.one W u t') (fun y hy => by simp at hy; subst hy; exact h1) hlen hlen' (hb.alloc hB _) (by simp; omega)
    fun v' W' h2 h3 h4 h5 => h v' W' h2 h3 (grown_alloc h4) (h5.imp id fun ⟨b, e1, e2⟩ => ⟨b, e1, by simp at e2; omega⟩)
end

theorem own_grown_below {W W' : World} (h : Below W.heap.size W W') : W.grownBy W' none := ⟨h.os, h.tape, h.output, h.size, fun i hi _ => h.block i hi⟩
/-- Behind an append to the collected slice and the store into its box. -/
theorem Coll.appended {w : World} {bx tS e : Nat} {Z : Nat → Prop} {n m : Nat} {xs ys : List Value} {W W2 W4 : World} {v v' : Value} (hte : tS ≠ e)
    (hb : Boxed W bx tS v) (ho : W.ownsRow w.heap.size e 1 v n xs) (hv : ∀ g, v.ownBlock = some g → ¬ Z g) (hx : ¬ Z bx) (hZ : ∀ i, Z i → w.heap.size ≤ i ∧ i < W.heap.size) (hB : Below w.heap.size w W) (hbx : w.heap.size ≤ bx)
    (hb2 : Below W.heap.size W W2) (ho' : W4.ownsRow w.heap.size e 1 v' m ys) (hB4 : Below w.heap.size w W4) (hg : W2.grownBy W4 v.ownBlock) (hat : v'.ownBlock = v.ownBlock ∨ ∃ b, v'.ownBlock = some b ∧ W2.heap.size ≤ b) :
    Boxed W4 bx tS v ∧ KeepsZ Z W (W4.setCell ⟨bx, 0, none⟩ v') ∧ Coll w bx tS e Z m ys (W4.setCell ⟨bx, 0, none⟩ v') := by
  have hbW2 : Boxed W2 bx tS v := (hb2.block _ hb.lt).trans hb
  have hne : some bx ≠ v.ownBlock := hb.not_row hte ho
  have hb4 : Boxed W4 bx tS v := hbW2.kept hg hne
  have hvr : ∀ r, v.ownBlock = some r → ¬ Z r := hv
  have hne' : some bx ≠ v'.ownBlock := hb4.not_row hte ho'
  have k4 : KeepsZ Z W W4 := (KeepsZ.of_below hb2).grown hg hvr
  refine ⟨hb4, k4.set_ hx _, v', hb4.set _, ?_, fun g e q => ?_, hx, fun i q => ⟨(hZ i q).1, ?_⟩, hB4.setCell hbx _⟩
  · exact ho'.kept (grownBy_setCell' W4 bx v') (by rcases hq : v'.ownBlock with _ | q; exact .inl rfl; exact .inr (by rw [← hq]; exact fun h => hne' h.symm))
  · rcases hat with h | ⟨b, h, hlt⟩
    · exact hv g (by rw [← h]; exact e) q
    · rw [h] at e
      cases e
      have := (hZ _ q).2
      have := hb2.size
      omega
  · have h1 := (hZ i q).2
    have h2 := k4.size
    simp [World.setCell]
    omega
end Go.Proofs.YtmakpilfjopmeaaDoor
