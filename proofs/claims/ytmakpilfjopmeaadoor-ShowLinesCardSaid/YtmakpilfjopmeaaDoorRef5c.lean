/- Walks of the reference of law 05: run. -/
import Derived.Test.YtmakpilfjopmeaaDoorRef5b
set_option linter.unusedVariables false
set_option linter.unusedSimpArgs false
namespace Go.Proofs.YtmakpilfjopmeaaDoor
open Go Go.RowKit Go.Lib Go.Shelf
attribute [local go_sem] Oper.semAt_some

theorem index_Bs2 {l : List UInt8} {q : UInt8} (h : l[2]? = some q) (W : World) : (Instr.index 9 (.string (Bs l)) (.int .i64 2)).run Tryd.prog W = .ok (.int .u8 q.toNat) W := index_Bs (k := 2) h W

def decVal (l : List UInt8) : Int := l.foldl (fun a d => 10 * a + ((d.toNat : Int) - 48)) 0
theorem decVal_snoc (l : List UInt8) (d : UInt8) : decVal (l ++ [d]) = 10 * decVal l + ((d.toNat : Int) - 48) := by simp [decVal]
theorem decVal_itoa : ∀ n : Nat, n < 65 → decVal (itoa (n : Int)) = n := by decide +kernel
theorem itoa_small : ∀ n : Nat, n < 65 → 1 < n → (itoa (n : Int)).length = 1 ∨ (itoa (n : Int)).length = 2 := by decide +kernel

/-- What 'run' answers at a word. -/
def RunIs (w : List UInt8) (r : Int) : Prop := 0 ≤ r ∧ r ≤ 99 ∧ ∀ c n, 1 ≤ n → n ≤ 64 → w = runWord (c, n) → r = n

theorem runWord_long {w : List UInt8} {c : UInt8} {n : Nat} (h1 : 1 ≤ n) (h2 : n ≤ 64) (hw : w = runWord (c, n)) (hl : w.length ≠ 2) :
    1 < n ∧ w = hexDigit (c.toNat / 16) :: hexDigit (c.toNat % 16) :: 42 :: itoa n ∧ (w.length = 4 ∨ w.length = 5) := by
  have hn : 1 < n := by
    rcases Nat.lt_or_ge 1 n with h | h
    · exact h
    · exfalso
      apply hl
      rw [hw, show n = 1 by omega]
      rfl
  have e : w = hexDigit (c.toNat / 16) :: hexDigit (c.toNat % 16) :: 42 :: itoa n := by
    rw [hw]
    unfold runWord
    simp only [if_pos hn]
  refine ⟨hn, e, ?_⟩
  rw [e]
  have := itoa_small n (by omega) hn
  simp only [List.length_cons]
  omega

set_option maxRecDepth 100000 in
set_option maxHeartbeats 1000000 in
theorem ref05_run (u : List UInt8) (hu : u.length ≤ 1000) (w : World) :
    Calls Tryd.prog 53 #[.string (Bs u)] w fun e w' => (∃ r, RunIs u r ∧ e = .returned (.int .i64 r)) ∧ Below w.heap.size w w' := by
  have hsz := Bs_size
  by_cases h2 : u.length = 2
  · have d1 : (((u.length : Nat) : Int) == 2) = true := by simp [h2]
    have hr : RunIs u 1 := ⟨by omega, by omega, fun c n h1 h64 hw => by
      rcases Nat.lt_or_ge 1 n with h | h
      · exfalso
        rw [hw] at h2
        unfold runWord at h2
        simp only [if_pos h, List.length_cons] at h2
        omega
      · omega⟩
    go_enter Tryd.func53, Tryd.ntmps53
    go_wp2
    go_ret
    exact ⟨⟨1, hr, rfl⟩, Below.refl _ _⟩
  have d1 : (((u.length : Nat) : Int) == 2) = false := by rw [beq_eq_false_iff_ne]; omega
  by_cases h45 : u.length < 4 ∨ 5 < u.length
  · have hr : RunIs u 0 := ⟨by omega, by omega, fun c n h1 h64 hw => by
      have := runWord_long h1 h64 hw h2
      omega⟩
    rcases h45 with h | h
    all_goals
      go_enter Tryd.func53, Tryd.ntmps53
      go_wp2
      go_ret
      exact ⟨⟨0, hr, rfl⟩, Below.refl _ _⟩
  · have g4 : 4 ≤ u.length := by omega
    have g5 : u.length ≤ 5 := by omega
    obtain ⟨q, hq⟩ : ∃ q, u[2]? = some q := ⟨_, List.getElem?_eq_getElem (by omega)⟩
    have hi2 := fun W => index_Bs2 hq W
    by_cases h42 : q = 42
    · have d2 : ((q.toNat : Int) != 42) = false := by rw [h42]; rfl
      have d3 : decide ((u.length : Int) < 4) = false := by rw [decide_eq_false_iff_not]; omega
      have d4 : decide (5 < (u.length : Int)) = false := by rw [decide_eq_false_iff_not]; omega
      have hdig := Lib.hid fun (c : UInt8) (n : Nat) (h1 : 1 ≤ n) (h64 : n ≤ 64) (hw : u = runWord (c, n)) => runWord_long h1 h64 hw h2
      clear h2 h45 hq h42
      go_enter Tryd.func53, Tryd.ntmps53
      go_wp2
      go_loop [3, 4] (fun s i => ∃ k : Nat, 3 ≤ k ∧ k ≤ u.length ∧ i = .int .i64 k ∧ ∃ v : Int, s = .int .i64 v ∧ 0 ≤ v ∧ v ≤ 99 ∧ (k = 3 → v = 0) ∧ (k ≤ 4 → v ≤ 9) ∧ Hid (∀ c n, 1 ≤ n → n ≤ 64 → u = runWord (c, n) → v = decVal ((itoa n).take (k - 3)))) (fun _ i => u.length - (RowKit.intOf i).toNat)
      case atStart => exact ⟨3, by omega, by omega, rfl, 0, rfl, by omega, by omega, fun _ => rfl, fun _ => by omega, fun c n _ _ _ => rfl⟩
      case round =>
        obtain ⟨k, hk3, hk, rfl, v, rfl, hv0, hv9, hv3, hv4, hgood⟩ := hrel
        by_cases hlt : k < u.length
        · obtain ⟨x, hx⟩ : ∃ x, u[k]? = some x := ⟨_, List.getElem?_eq_getElem hlt⟩
          have hidx := fun W => index_Bs hx W
          have hxd := Lib.hid fun (c : UInt8) (n : Nat) (h1 : 1 ≤ n) (h64 : n ≤ 64) (hw : u = runWord (c, n)) => show (itoa n)[k - 3]? = some x ∧ 48 ≤ x.toNat ∧ x.toNat ≤ 57 by
            obtain ⟨_, e, _⟩ := hdig.out c n h1 h64 hw
            rw [e] at hx
            obtain ⟨j, rfl⟩ : ∃ j, k = j + 3 := ⟨k - 3, by omega⟩
            simp only [List.getElem?_cons_succ] at hx
            refine ⟨by simpa using hx, ?_⟩
            exact itoa_nat_range n x (List.mem_of_getElem? hx)
          clear hx hdig
          by_cases hd : 48 ≤ x.toNat ∧ x.toNat ≤ 57
          · obtain ⟨hd0, hd1⟩ := hd
            have hv49 : v ≤ 9 := hv4 (by omega)
            have hv3' := Lib.hid hv3
            clear hv4 hv3
            go_wp2
            go_round
            case rel =>
              refine ⟨k + 1, by omega, by omega, by go_num, _, rfl, by omega, by omega, fun h => by omega, fun h => by have := hv3'.out (by omega); omega, fun c n h1 h64 hw => ?_⟩
              obtain ⟨g1, _⟩ := hxd.out c n h1 h64 hw
              rw [show k + 1 - 3 = k - 3 + 1 by omega, take_snoc_of g1, decVal_snoc, ← hgood.out c n h1 h64 hw]
            case measure => simp [RowKit.intOf]; omega
          · have hr : RunIs u 0 := ⟨by omega, by omega, fun c n h1 h64 hw => by
              have := hxd.out c n h1 h64 hw
              omega⟩
            replace hr := Lib.hid hr
            clear hv4 hv3
            rcases (by omega : x.toNat < 48 ∨ 57 < x.toNat) with h | h
            all_goals
              go_wp2
              all_goals go_ret
              all_goals exact ⟨⟨0, hr.out, rfl⟩, Below.refl _ _⟩
        · obtain rfl : k = u.length := by omega
          have hr : RunIs u v := ⟨hv0, hv9, fun c n h1 h64 hw => by
            obtain ⟨g1, e, _⟩ := hdig.out c n h1 h64 hw
            have hl : u.length - 3 = (itoa (n : Int)).length := by rw [e]; simp
            rw [hgood.out c n h1 h64 hw, hl, List.take_length]
            exact decVal_itoa n (by omega)⟩
          replace hr := Lib.hid hr
          clear hv4 hv3 hgood hdig
          go_wp2
          go_ret
          exact ⟨⟨v, hr.out, rfl⟩, Below.refl _ _⟩
    · have hr : RunIs u 0 := ⟨by omega, by omega, fun c n h1 h64 hw => by
        obtain ⟨_, e, _⟩ := runWord_long h1 h64 hw h2
        rw [e] at hq
        exact absurd (by simpa using hq.symm) h42⟩
      have d2 : ((q.toNat : Int) != 42) = true := by
        rw [bne_iff_ne]
        intro e
        exact h42 (UInt8.toNat_inj.1 (by simpa using (by omega : q.toNat = 42)))
      have d3 : decide ((u.length : Int) < 4) = false := by rw [decide_eq_false_iff_not]; omega
      have d4 : decide (5 < (u.length : Int)) = false := by rw [decide_eq_false_iff_not]; omega
      clear h2 h45 hq h42
      go_enter Tryd.func53, Tryd.ntmps53
      go_wp2
      go_ret
      exact ⟨⟨0, hr, rfl⟩, Below.refl _ _⟩
end Go.Proofs.YtmakpilfjopmeaaDoor
