/- Walks of pentimentoref07.Ints, pentimentoref25.Alike (of two answers that are alike), show.num; answers in memory. -/
import Derived.Test.YtmakpilfjopmeaaDoorRef30
import Derived.Test.YtmakpilfjopmeaaDoorShowP
import Derived.Test.YtmakpilfjopmeaaDoorRef5e
set_option linter.unusedVariables false
set_option linter.unusedSimpArgs false
namespace Go.Proofs.YtmakpilfjopmeaaDoor
open Go Go.RowKit Go.Lib Go.Shelf

set_option maxRecDepth 100000 in
theorem ref07_Ints (xs : List Int) (A A' : Option Addr) (c c' : Nat) (hc : xs.length ≤ c) (hc' : xs.length ≤ c') (hl : xs.length ≤ 1000000) (w : World)
    (hr : Rd w A xs.length (nums .i64 xs)) (hr' : Rd w A' xs.length (nums .i64 xs)) :
    Calls Tryd.prog 59 #[.slice A xs.length c, .slice A' xs.length c'] w fun e w' => e = .returned (.bool true) ∧ Below w.heap.size w w' := by
  have hbe : (((xs.length : Nat) : Int) != xs.length) = false := by simp
  rcases Nat.eq_zero_or_pos xs.length with h0 | h0
  · rw [h0] at hbe ⊢
    clear hr hr'
    go_enter Tryd.func59, Tryd.ntmps59
    go_wp2
    go_loop [5] (fun i => i = .int .i64 0) (fun _ => 0)
    case atStart => rfl
    case round =>
      obtain rfl := hrel
      go_wp2
      go_ret
      exact ⟨rfl, Below.refl _ _⟩
  · obtain ⟨b, o, rfl, hb⟩ := hr.2 h0
    obtain ⟨b', o', rfl, hb'⟩ := hr'.2 h0
    clear hr hr'
    generalize hn : xs.length = n at *
    have hcell : ∀ k, k < n → ∃ q : Int, w.cell? ⟨b, o + k, none⟩ = some (.int .i64 q) ∧ w.cell? ⟨b', o' + k, none⟩ = some (.int .i64 q) := fun k hk =>
      ⟨_, hb k _ (nums_get .i64 xs k (by omega)), hb' k _ (nums_get .i64 xs k (by omega))⟩
    have hcell := Lib.hid hcell
    clear hb hb' hn
    go_enter Tryd.func59, Tryd.ntmps59
    go_wp2
    go_loopw [5] (fun i wr => ∃ k : Nat, k ≤ n ∧ i = .int .i64 k ∧ ∃ m, wr = w.drewN m) (fun i _ => n - (RowKit.intOf i).toNat)
    case atStart => exact ⟨0, by omega, rfl, 0, rfl⟩
    case round =>
      obtain ⟨k, hk, rfl, m, rfl⟩ := hrel
      by_cases hlt : k < n
      · obtain ⟨q, h1, h2⟩ := hcell.out k hlt
        have hq : (q != q) = false := by simp
        go_wp2
        go_quiet (fail)
        all_goals go_wp2
        go_roundw
        case rel => exact ⟨k + 1, by omega, by go_num, _, rfl⟩
        case measure => simp [RowKit.intOf]; omega
      · obtain rfl : k = n := by omega
        go_wp2
        go_ret
        exact ⟨rfl, bdrewN _ _⟩

/-- An answer as a value; its list's slice: (A, c). -/
def ansV (x : Ans) (A : Option Addr) (c : Nat) : Value := .agg #[.int .i64 x.why, .int .i64 x.n, .int .i64 x.m, .string (Bs x.data), .slice A x.list.length c]

set_option maxRecDepth 100000 in
theorem ref25_Alike (x : Ans) (A A' : Option Addr) (c c' : Nat) (hc : x.list.length ≤ c) (hc' : x.list.length ≤ c') (hl : x.list.length ≤ 1000000) (w : World)
    (hr : Rd w A x.list.length (nums .i64 x.list)) (hr' : Rd w A' x.list.length (nums .i64 x.list)) :
    Calls Tryd.prog 33 #[ansV x A c, ansV x A' c'] w fun e w' => e = .returned (.bool true) ∧ Below w.heap.size w w' := by
  obtain ⟨why, n, m, data, list⟩ := x
  unfold ansV
  simp only at *
  have h1 : (why == why) = true := by simp
  have h2 : (n == n) = true := by simp
  have h3 : (m == m) = true := by simp
  have h4 : ((Bs data).toList == (Bs data).toList) = true := by simp
  go_enter Tryd.func33, Tryd.ntmps33
  go_wp2_with (go_at_call 59; refine (ref07_Ints list A A' c c' hc hc' hl _ ((hr.alloc _).alloc _) ((hr'.alloc _).alloc _)).mono ?_; rintro e w1 ⟨rfl, hb⟩)
  go_ret
  exact ⟨rfl, ((balloc _ _).alloc (by simp) _).trans (hb.mono (by simp; omega))⟩

theorem parseInt_any (l : List UInt8) (hl : l.length ≤ 1000000) (w : World) (hE : Env w) :
    (∃ v, atoiAll l = .ok v ∧ Calls Tryd.prog 102 #[.string (Bs l), .int .i64 10, .int .i64 64] w fun e w' => e = .returned (.tuple #[.int .i64 v, .nilIface]) ∧ Below w.heap.size w w') ∨
    (atoiL l = 0 ∧ Calls Tryd.prog 102 #[.string (Bs l), .int .i64 10, .int .i64 64] w fun e w' => (∃ (v : Int) (N : Nat), e = .returned (.tuple #[.int .i64 v, .iface 135 (.pointer (some ⟨N, 0, none⟩))])) ∧ Below w.heap.size w w') := by
  have hs : (Bs l).size ≤ 281474976710656 := by rw [Bs_size]; omega
  have hp : parseIntB 64 (Bs l).data.toList = atoiAll l := parseIntB_64 l
  rcases hc : atoiAll l with v | _ | _
  · exact .inl ⟨v, rfl, (Tryd.strconv_ParseInt_10_at64_ok (Bs l) (by omega) v (hp.trans hc) w).mono fun e w' ⟨he, hw⟩ => ⟨he, by
      rcases hw with rfl | ⟨t, rfl⟩
      · exact Below.refl _ _
      · exact bytesWorld_below _ _ _⟩⟩
  · obtain ⟨te, pe, hv⟩ := hE.syn
    exact .inr ⟨by unfold atoiL; rw [hc], (Tryd.strconv_ParseInt_10_at64_syntax (Bs l) hs (hp.trans hc) _ w hv (.inr ⟨te, pe, rfl⟩)).mono fun e w' ⟨N, he, _, _, hb⟩ => ⟨⟨_, N, he⟩, hb⟩⟩
  · obtain ⟨te, pe, hv⟩ := hE.ran
    exact .inr ⟨by unfold atoiL; rw [hc], (Tryd.strconv_ParseInt_10_at64_range (Bs l) hs (hp.trans hc) _ w hv (.inr ⟨te, pe, rfl⟩)).mono fun e w' ⟨N, he, _, _, hb⟩ => ⟨⟨_, N, he⟩, hb⟩⟩

theorem show_num (l : List UInt8) (hl : l.length ≤ 1000000) (w : World) (hE : Env w) :
    Calls Tryd.prog 84 #[.string (Bs l)] w fun e w' => e = .returned (.int .i64 (atoiL l)) ∧ Below w.heap.size w w' := by
  rcases parseInt_any l hl w hE with ⟨v, hv, hc⟩ | ⟨h0, hc⟩
  · have e : atoiL l = v := by unfold atoiL; rw [hv]
    rw [e]
    clear e hv
    go_enter Tryd.func84, Tryd.ntmps84
    go_wp2_with (go_at_call 102; refine hc.mono ?_; rintro e w1 ⟨rfl, hb⟩)
    go_ret
    exact ⟨rfl, hb⟩
  · rw [h0]
    clear h0
    go_enter Tryd.func84, Tryd.ntmps84
    go_wp2_with (go_at_call 102; refine hc.mono ?_; rintro e w1 ⟨⟨v, N, rfl⟩, hb⟩)
    go_ret
    exact ⟨rfl, hb⟩
end Go.Proofs.YtmakpilfjopmeaaDoor
