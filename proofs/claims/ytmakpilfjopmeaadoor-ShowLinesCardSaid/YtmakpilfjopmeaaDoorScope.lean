/- A scope with two labels, to which the run jumps: a law of our own, beside the guide's wp_scope_jumps; the tail of a slice. -/
import Derived.Test.YtmakpilfjopmeaaDoorShow1
import Derived.ScopeJumps
import Derived.WalkMore
import Derived.Laws.Slices
set_option linter.unusedVariables false
set_option linter.unusedSimpArgs false
namespace Go.Proofs.YtmakpilfjopmeaaDoor
open Go Go.RowKit Go.Lib Go.Shelf

/-- As Q; by a goto to label l1: J1; to label l0: J0; by any other goto: no way out. -/
def Exit2 (l1 l0 : Nat) (J1 J0 : Act → World → Prop) (Q : Exit → Act → World → Prop) : Exit → Act → World → Prop
  | .goto l, a, w => (l = l1 ∧ J1 a w) ∨ (l = l0 ∧ J0 a w)
  | e, a, w => Q e a w
section
variable {P : Program} {a : Act} {w : World} {Q : Exit → Act → World → Prop} {l1 l0 : Nat} {J1 J0 : Act → World → Prop}
theorem Exit2_normal : Exit2 l1 l0 J1 J0 Q .normal a w = Q .normal a w := rfl
theorem Exit2_exit (id : Nat) : Exit2 l1 l0 J1 J0 Q (.exit id) a w = Q (.exit id) a w := rfl
theorem Exit2_ret : Exit2 l1 l0 J1 J0 Q .ret a w = Q .ret a w := rfl
theorem Exit2_panic (ch : List PanicEntry) : Exit2 l1 l0 J1 J0 Q (.panic ch) a w = Q (.panic ch) a w := rfl
theorem Exit2_goto (l : Nat) : Exit2 l1 l0 J1 J0 Q (.goto l) a w = ((l = l1 ∧ J1 a w) ∨ (l = l0 ∧ J0 a w)) := rfl

theorem wp_scope_two {c r1 r0 : Code} (l1 l0 : Nat) (J1 J0 : Act → World → Prop) (μ : Act → World → Nat) (h1 : findLabel c l1 = some r1) (h0 : findLabel c l0 = some r0)
    (first : c.wp P (Exit2 l1 l0 J1 J0 Q) a w)
    (pass1 : ∀ a w n, J1 a w → μ a w = n → r1.wp P (Exit2 l1 l0 (fun a' w' => J1 a' w' ∧ μ a' w' < n) J0 Q) a w)
    (pass0 : ∀ a w, J0 a w → r0.wp P (Exit.noGoto Q) a w) : (Code.scope c).wp P Q a w := by
  intro b k cs
  have hg1 : gotoIn l1 (.inScope c :: k) = some (.code r1 :: .inScope c :: k) := by simp [gotoIn, h1]
  have hg0 : gotoIn l0 (.inScope c :: k) = some (.code r0 :: .inScope c :: k) := by simp [gotoIn, h0]
  have key0 : ∀ a w, J0 a w → ∃ e a' w', Q e a' w' ∧ Arrives P (lone (b.at a (.code r0 :: .inScope c :: k)) cs w) b k cs e a' w' := by
    intro a w hJ
    obtain ⟨e, a₁, w₁, hq, harr⟩ := pass0 a w hJ b (.inScope c :: k) cs
    cases e with
    | normal => exact ⟨.normal, a₁, w₁, hq, Steps.trans harr (.one step_inScope)⟩
    | exit id => exact ⟨.exit id, a₁, w₁, hq, fun k' hk => harr k' (by simp [exitTo, hk])⟩
    | goto l' => exact hq.elim
    | ret => exact ⟨_, a₁, w₁, hq, harr⟩
    | panic ch => exact ⟨_, a₁, w₁, hq, harr⟩
    | outgrown => exact ⟨_, a₁, w₁, hq, harr⟩
  have key1 : ∀ n a w, μ a w = n → J1 a w → ∃ e a' w', Q e a' w' ∧ Arrives P (lone (b.at a (.code r1 :: .inScope c :: k)) cs w) b k cs e a' w' := by
    intro n
    induction n using Nat.strongRecOn with
    | _ n ih =>
      intro a w hn hJ
      obtain ⟨e, a₁, w₁, hq, harr⟩ := pass1 a w n hJ hn b (.inScope c :: k) cs
      cases e with
      | normal => exact ⟨.normal, a₁, w₁, hq, Steps.trans harr (.one step_inScope)⟩
      | exit id => exact ⟨.exit id, a₁, w₁, hq, fun k' hk => harr k' (by simp [exitTo, hk])⟩
      | goto l' =>
        rcases hq with ⟨rfl, hJ', hlt⟩ | ⟨rfl, hJ'⟩
        · obtain ⟨e₂, a₂, w₂, hq₂, harr₂⟩ := ih _ (by omega) a₁ w₁ rfl hJ'
          exact ⟨e₂, a₂, w₂, hq₂, .of_steps (harr _ hg1) harr₂⟩
        · obtain ⟨e₂, a₂, w₂, hq₂, harr₂⟩ := key0 a₁ w₁ hJ'
          exact ⟨e₂, a₂, w₂, hq₂, .of_steps (harr _ hg0) harr₂⟩
      | ret => exact ⟨_, a₁, w₁, hq, harr⟩
      | panic ch => exact ⟨_, a₁, w₁, hq, harr⟩
      | outgrown => exact ⟨_, a₁, w₁, hq, harr⟩
  obtain ⟨e, a₁, w₁, hq, harr⟩ := first b (.inScope c :: k) cs
  cases e with
  | normal => exact ⟨.normal, a₁, w₁, hq, .head step_scope (Steps.trans harr (.one step_inScope))⟩
  | exit id => exact ⟨.exit id, a₁, w₁, hq, fun k' hk => .head step_scope (harr k' (by simp [exitTo, hk]))⟩
  | goto l' =>
    rcases hq with ⟨rfl, hJ'⟩ | ⟨rfl, hJ'⟩
    · obtain ⟨e₂, a₂, w₂, hq₂, harr₂⟩ := key1 _ a₁ w₁ rfl hJ'
      exact ⟨e₂, a₂, w₂, hq₂, .of_steps (.head step_scope (harr _ hg1)) harr₂⟩
    · obtain ⟨e₂, a₂, w₂, hq₂, harr₂⟩ := key0 a₁ w₁ hJ'
      exact ⟨e₂, a₂, w₂, hq₂, .of_steps (.head step_scope (harr _ hg0)) harr₂⟩
  | ret => exact ⟨_, a₁, w₁, hq, .of_steps (.one step_scope) harr⟩
  | panic ch => exact ⟨_, a₁, w₁, hq, .of_steps (.one step_scope) harr⟩
  | outgrown => exact ⟨_, a₁, w₁, hq, .of_steps (.one step_scope) harr⟩
theorem exit2_weaken {J1' : Act → World → Prop} {e : Exit} (h : ∀ a w, J1' a w → J1 a w) (hq : Exit2 l1 l0 J1' J0 Q e a w) : Exit2 l1 l0 J1 J0 Q e a w := by
  cases e with
  | goto l => exact hq.imp (fun ⟨p, q⟩ => ⟨p, h _ _ q⟩) id
  | normal => exact hq
  | exit id => exact hq
  | ret => exact hq
  | panic ch => exact hq
  | outgrown => exact hq
theorem wp_scope_from {c r1 r0 : Code} (l1 l0 : Nat) (J1 J0 : Act → World → Prop) (μ : Act → World → Nat) (h1 : findLabel c l1 = some (Code.seq Code.skip r1)) (h0 : findLabel c l0 = some r0)
    (pass1 : ∀ a w n, J1 a w → μ a w = n → r1.wp P (Exit2 l1 l0 (fun a' w' => J1 a' w' ∧ μ a' w' < n) J0 Q) a w)
    (pass0 : ∀ a w, J0 a w → r0.wp P (Exit.noGoto Q) a w)
    (first : (∀ a w, J1 a w → r1.wp P (Exit2 l1 l0 J1 J0 Q) a w) → c.wp P (Exit2 l1 l0 J1 J0 Q) a w) : (Code.scope c).wp P Q a w :=
  wp_scope_two l1 l0 J1 J0 μ h1 h0 (first fun a w hJ => wp_mono (pass1 a w _ hJ rfl) fun e a w hq => exit2_weaken (fun a w h => h.1) hq) (fun a w n hJ hn => wp_seq (wp_skip (pass1 a w n hJ hn))) pass0
end

theorem sizeOf_str (W : World) : (sizeOf (Tryd.prog.elem 66)).run Tryd.prog W = .ok 1 W := by kernel_rfl
/-- The tail of a slice of strings. -/
theorem slice_tail {w : World} {A : Option Addr} {n c : Nat} {x : List UInt8} {xs : List (List UInt8)} (hc : n + 1 ≤ c) (hr : Rd w A (n + 1) (strs (x :: xs))) :
    ∃ A', (∀ W, (Instr.slice 66 (.slice A (n + 1) c) (some (.int .i64 1)) none none).run Tryd.prog W = .ok (.slice A' n (c - 1)) W) ∧ Rd w A' n (strs xs) := by
  refine ⟨if c = 1 then A else A.map (·.add 1), fun W => ?_, ?_⟩
  · rw [run_slice_l W 66 A (n + 1) c (by kernel_rfl) .i64 1 (by omega) (by omega), sizeOf_str]
    simp [Result.andThen, sliced]
  · refine ⟨by have := hr.1; simp [strs] at this ⊢; exact this, fun hn => ?_⟩
    obtain ⟨b, o, rfl, hcell⟩ := hr.2 (by omega)
    rw [if_neg (by omega)]
    refine ⟨b, o + 1, by simp [add_plain], fun j u hu => ?_⟩
    have := hcell (j + 1) u (by simpa [strs] using hu)
    rw [show o + 1 + j = o + (j + 1) by omega]
    exact this
end Go.Proofs.YtmakpilfjopmeaaDoor
