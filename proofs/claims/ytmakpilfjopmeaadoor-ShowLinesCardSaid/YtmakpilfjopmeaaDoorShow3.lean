/- Walks of pentimentoref31.Line and show.Line at answers that have no line. -/
import Derived.Test.YtmakpilfjopmeaaDoorShow1
set_option linter.unusedVariables false
set_option linter.unusedSimpArgs false
namespace Go.Proofs.YtmakpilfjopmeaaDoor
open Go Go.RowKit Go.Lib Go.Shelf

theorem bad_cases {x : Ans} (hok : x.Ok) (h : ¬ x.Valid) : x.why < 0 ∨ 22 < x.why ∨ (0 ≤ x.why ∧ x.why ≤ 22 ∧ ((x.data ≠ [] ∧ x.data.length ≠ 64) ∨ (60 < x.list.length ∧ (x.data = [] ∨ x.data.length = 64)))) := by
  by_cases h1 : x.why < 0
  · exact .inl h1
  · by_cases h2 : 22 < x.why
    · exact .inr (.inl h2)
    · refine .inr (.inr ⟨by omega, by omega, ?_⟩)
      by_cases h3 : x.data = []
      · by_cases h4 : 60 < x.list.length
        · exact .inr ⟨h4, .inl h3⟩
        · exact absurd ⟨hok, by omega, by omega, .inl h3, by omega⟩ h
      · by_cases h5 : x.data.length = 64
        · by_cases h4 : 60 < x.list.length
          · exact .inr ⟨h4, .inr h5⟩
          · exact absurd ⟨hok, by omega, by omega, .inr h5, by omega⟩ h
        · exact .inl ⟨h3, h5⟩

set_option maxRecDepth 100000 in
set_option maxHeartbeats 800000 in
theorem ref31_Line_bad (x : Ans) (hok : x.Ok) (hv : ¬ x.Valid) (A : Option Addr) (c : Nat) (hc : x.list.length ≤ c) (hl : x.list.length ≤ 1000000) (hd : x.data.length ≤ 1000000) (w : World) :
    Calls Tryd.prog 31 #[ansV x A c] w fun e w' => e = .returned (.tuple #[.string (Bs []), .int .i64 6]) ∧ Below w.heap.size w w' := by
  have hb := bad_cases hok hv
  obtain ⟨why, n, m, data, list⟩ := x
  clear hok hv
  unfold ansV
  simp only at *
  have hem := Bs_isEmpty data
  have hR := ref05_Right data
  rcases hb with h | h | ⟨h0, h1, h⟩
  · have t1 : decide (why < 0) = true := by simpa using h
    clear hem hR
    go_enter Tryd.func31, Tryd.ntmps31
    go_wp2_with fail
    go_ret2
    exact ⟨rfl, balloc _ _⟩
  · have t1 : decide (why < 0) = false := by simp; omega
    have t2 : decide (22 < why) = true := by simpa using h
    clear hem hR
    go_enter Tryd.func31, Tryd.ntmps31
    go_wp2_with fail
    go_ret2
    exact ⟨rfl, balloc _ _⟩
  · have t1 : decide (why < 0) = false := by simp; omega
    have t2 : decide (22 < why) = false := by simp; omega
    rcases h with ⟨hn, h64⟩ | ⟨h60, hd | hd⟩
    · have he : (Bs data).toList.isEmpty = false := by rw [hem]; cases data with | nil => exact absurd rfl hn | cons _ _ => rfl
      have e64 : decide (data.length = 64) = false := by simpa using h64
      rw [e64] at hR
      clear hem hn h64 e64
      go_enter Tryd.func31, Tryd.ntmps31
      go_wp2_with (go_at_call 28; refine (hR _).mono ?_; rintro e w1 ⟨rfl, rfl⟩)
      go_ret2
      exact ⟨rfl, balloc _ _⟩
    · have t3 : decide (60 < (list.length : Int)) = true := by simp; omega
      have he : (Bs data).toList.isEmpty = true := by rw [hem, hd]; rfl
      clear hem hR
      subst hd
      go_enter Tryd.func31, Tryd.ntmps31
      go_wp2_with fail
      go_ret2
      exact ⟨rfl, balloc _ _⟩
    · have t3 : decide (60 < (list.length : Int)) = true := by simp; omega
      have he : (Bs data).toList.isEmpty = false := by rw [hem]; cases data with | nil => simp at hd | cons _ _ => rfl
      simp only [hd, decide_true] at hR
      clear hem hd
      go_enter Tryd.func31, Tryd.ntmps31
      go_wp2_with (go_at_call 28; refine (hR _).mono ?_; rintro e w1 ⟨rfl, rfl⟩)
      go_ret2
      exact ⟨rfl, balloc _ _⟩

set_option maxRecDepth 100000 in
set_option maxHeartbeats 800000 in
theorem show_Line_bad (x : Ans) (hok : x.Ok) (hv : ¬ x.Valid) (A : Option Addr) (c : Nat) (hc : x.list.length ≤ c) (hl : x.list.length ≤ 1000000) (hd : x.data.length ≤ 1000000) (w : World) :
    Calls Tryd.prog 30 #[ansV x A c] w fun e w' => e = .returned (.tuple #[.string (Bs []), .int .i64 6]) ∧ Below w.heap.size w w' := by
  have hb := bad_cases hok hv
  obtain ⟨why, n, m, data, list⟩ := x
  clear hok hv
  unfold ansV
  simp only at *
  have hem := Bs_isEmpty data
  have hR := sector_Right data
  rcases hb with h | h | ⟨h0, h1, h⟩
  · have t1 : decide (why < 0) = true := by simpa using h
    clear hem hR
    go_enter Tryd.func30, Tryd.ntmps30
    go_wp2_with fail
    go_ret2
    exact ⟨rfl, balloc _ _⟩
  · have t1 : decide (why < 0) = false := by simp; omega
    have t2 : decide (22 < why) = true := by simpa using h
    clear hem hR
    go_enter Tryd.func30, Tryd.ntmps30
    go_wp2_with fail
    go_ret2
    exact ⟨rfl, balloc _ _⟩
  · have t1 : decide (why < 0) = false := by simp; omega
    have t2 : decide (22 < why) = false := by simp; omega
    rcases h with ⟨hn, h64⟩ | ⟨h60, hd | hd⟩
    · have he : (Bs data).toList.isEmpty = false := by rw [hem]; cases data with | nil => exact absurd rfl hn | cons _ _ => rfl
      have e64 : decide (data.length = 64) = false := by simpa using h64
      rw [e64] at hR
      clear hem hn h64 e64
      go_enter Tryd.func30, Tryd.ntmps30
      go_wp2_with (go_at_call 48; refine (hR _).mono ?_; rintro e w1 ⟨rfl, rfl⟩)
      go_ret2
      exact ⟨rfl, balloc _ _⟩
    · have t3 : decide (60 < (list.length : Int)) = true := by simp; omega
      have he : (Bs data).toList.isEmpty = true := by rw [hem, hd]; rfl
      clear hem hR
      subst hd
      go_enter Tryd.func30, Tryd.ntmps30
      go_wp2_with fail
      go_ret2
      exact ⟨rfl, balloc _ _⟩
    · have t3 : decide (60 < (list.length : Int)) = true := by simp; omega
      have he : (Bs data).toList.isEmpty = false := by rw [hem]; cases data with | nil => simp at hd | cons _ _ => rfl
      simp only [hd, decide_true] at hR
      clear hem hd
      go_enter Tryd.func30, Tryd.ntmps30
      go_wp2_with (go_at_call 48; refine (hR _).mono ?_; rintro e w1 ⟨rfl, rfl⟩)
      go_ret2
      exact ⟨rfl, balloc _ _⟩
end Go.Proofs.YtmakpilfjopmeaaDoor
