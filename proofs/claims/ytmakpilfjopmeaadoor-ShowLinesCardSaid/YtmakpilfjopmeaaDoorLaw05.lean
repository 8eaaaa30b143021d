/- Walks of law 05: sector.Pad, known, SectorShorts. -/
import Derived.Test.YtmakpilfjopmeaaDoorRef5e
set_option linter.unusedVariables false
set_option linter.unusedSimpArgs false
namespace Go.Proofs.YtmakpilfjopmeaaDoor
open Go Go.RowKit Go.Lib Go.Shelf
attribute [local go_sem] Oper.semAt_some

def padL (l : List UInt8) : List UInt8 := l ++ List.replicate (64 - l.length) 0
theorem sector_Pad (l : List UInt8) (hl : l.length ≤ 64) (w : World) :
    Calls Tryd.prog 46 #[.string (Bs l)] w fun e w' => e = .returned (.tuple #[.string (Bs (padL l)), .int .i64 0]) ∧ Below w.heap.size w w' := by
  have hsz := Bs_size
  have hcat := Bs_append
  have hz := sector_Zero
  have hex := Lib.hid ((Bs_extract (List.replicate 64 (0 : UInt8)) l.length 64).trans (by rw [List.drop_replicate, List.take_of_length_le (by simp)]))
  generalize hZ : List.replicate 64 (0 : UInt8) = Z at *
  have hZl : Z.length = 64 := by rw [← hZ]; simp
  clear hZ
  have hex' := hex.out
  go_enter Tryd.func46, Tryd.ntmps46
  go_wp2_with (go_at_call 76; refine (hz _).mono ?_; rintro e w1 ⟨rfl, hb1⟩)
  go_ret2
  exact ⟨rfl, hb1⟩

theorem rle_pad : rle (97 :: List.replicate 63 0) = [(97, 1), (0, 63)] := by
  rw [rle_cons, show longL (97 :: List.replicate 63 0) = 1 by decide]
  rw [show List.drop 1 (97 :: List.replicate 63 (0 : UInt8)) = 0 :: List.replicate 62 0 by rfl]
  rw [rle_cons, show longL (0 :: List.replicate 62 0) = 63 by decide]
  rw [show List.drop 63 (0 :: List.replicate 62 (0 : UInt8)) = [] by rfl, rle]
theorem short_pad : shortL (padL [97]) = [54, 49, 32, 48, 48, 42, 54, 51] := by
  have e : padL [97] = 97 :: List.replicate 63 0 := rfl
  unfold shortL
  rw [if_pos (by decide), e, rle_pad]
  decide +kernel
theorem short_fill : shortL (List.replicate 64 5) = [48, 53, 42, 54, 52] := by
  have e : rle (List.replicate 64 5) = [(5, 64)] := by
    rw [show List.replicate 64 (5 : UInt8) = 5 :: List.replicate 63 5 by rfl, rle_cons, show longL (5 :: List.replicate 63 5) = 64 by decide]
    rw [show List.drop 64 (5 :: List.replicate 63 (5 : UInt8)) = [] by rfl, rle]
  unfold shortL
  rw [if_pos (by decide), e]
  decide +kernel

theorem long_of_short {t x : List UInt8} (h : x.length = 64) (hs : shortL x = t) (ht : t.length ≤ 1000000) (w : World) (hE : Env w) :
    Calls Tryd.prog 25 #[.string (Bs t)] w fun e w' => e = .returned (.tuple #[.string (Bs x), .int .i64 0]) ∧ Below w.heap.size w w' :=
  (sector_Long t ht w hE).mono fun e w' ⟨⟨y, v, hl, he⟩, hb⟩ => by
    obtain ⟨rfl, rfl⟩ := hl.unique (.inl ⟨rfl, h, hs⟩)
    exact ⟨he, hb⟩

set_option maxRecDepth 100000 in
set_option maxHeartbeats 1000000 in
theorem law05_known (w : World) (hE : Env w) :
    Calls Tryd.prog 23 #[] w fun e w' => e = .returned (.bool true) ∧ Below w.heap.size w w' := by
  have hPd := fun W => sector_Pad [97] (by decide) W
  have hLg := fun W hE => long_of_short (x := padL [97]) (by decide) short_pad (by decide) W hE
  have hFl : ∀ W, Calls Tryd.prog 47 #[.int .u8 5] W fun e w' => e = .returned (.string (Bs (List.replicate 64 5))) ∧ Below W.heap.size W w' := fun W => sector_Fill 5 W
  have hS1 := fun W hE => sector_Short (List.replicate 64 5) W hE
  have hS2 := fun W hE => sector_Short (padL [97]) W hE
  rw [short_fill] at hS1
  rw [short_pad] at hS2
  generalize padL [97] = P at *
  generalize List.replicate 64 (5 : UInt8) = F at *
  obtain ⟨T6, h6⟩ : ∃ T : List UInt8, T = [54, 49, 32, 48, 48, 42, 54, 51] := ⟨_, rfl⟩
  obtain ⟨T5, h5⟩ : ∃ T : List UInt8, T = [48, 53, 42, 54, 52] := ⟨_, rfl⟩
  obtain ⟨T1, h1⟩ : ∃ T : List UInt8, T = [97] := ⟨_, rfl⟩
  rw [← h6] at hLg hS2
  rw [← h5] at hS1
  rw [← h1] at hPd
  have g1 : (⟨#[97]⟩ : ByteArray) = Bs T1 := by rw [h1]; rfl
  have g6 : (⟨#[54, 49, 32, 48, 48, 42, 54, 51]⟩ : ByteArray) = Bs T6 := by rw [h6]; rfl
  have g5 : (⟨#[48, 53, 42, 54, 52]⟩ : ByteArray) = Bs T5 := by rw [h5]; rfl
  clear h1 h5 h6
  have heq : ∀ a b : List UInt8, ((Bs a).toList = (Bs b).toList) = (a = b) := fun a b => by
    rw [ByteArray.toList_eq, ByteArray.toList_eq]
    rfl
  have heqb : ∀ a b : List UInt8, ((Bs a).toList == (Bs b).toList) = (a == b) := fun a b => by
    rw [ByteArray.toList_eq, ByteArray.toList_eq]
    rfl
  go_enter Tryd.func23, Tryd.ntmps23
  go_wp2_with (first
    | (go_at_call 46; refine (hPd _).mono ?_; rintro e w1 ⟨rfl, hb1⟩; have hE1 := hE.below hb1)
    | (go_at_call 25; refine (hLg _ hE1).mono ?_; rintro e w2 ⟨rfl, hb2⟩; have hE2 := hE1.below hb2)
    | (go_at_call 47; refine (hFl _).mono ?_; rintro e w3 ⟨rfl, hb3⟩; have hE3 := hE2.below hb3)
    | (go_at_call 24; refine (hS2 _ hE4).mono ?_; rintro e w5 ⟨rfl, hb5⟩)
    | (go_at_call 24; refine (hS1 _ hE3).mono ?_; rintro e w4 ⟨rfl, hb4⟩; have hE4 := hE3.below hb4))
  go_ret
  exact ⟨rfl, bnext hb1 (bnext hb2 (bnext hb3 (bnext hb4 hb5)))⟩

theorem isLong_ex (t : List UInt8) : ∃ y v, IsLong t y v := by
  by_cases h : ∃ x : List UInt8, x.length = 64 ∧ shortL x = t
  · obtain ⟨x, h1, h2⟩ := h
    exact ⟨x, 0, .inl ⟨rfl, h1, h2⟩⟩
  · exact ⟨[], 6, .inr ⟨rfl, rfl, fun x h1 h2 => h ⟨x, h1, h2⟩⟩⟩
theorem long_at {t y : List UInt8} {v : Int} (h : IsLong t y v) (ht : t.length ≤ 1000000) (w : World) (hE : Env w) :
    Calls Tryd.prog 25 #[.string (Bs t)] w fun e w' => e = .returned (.tuple #[.string (Bs y), .int .i64 v]) ∧ Below w.heap.size w w' :=
  (sector_Long t ht w hE).mono fun e w' ⟨⟨y', v', hl, he⟩, hb⟩ => by
    obtain ⟨rfl, rfl⟩ := hl.unique h
    exact ⟨he, hb⟩
theorem refLong_at {t y : List UInt8} {v : Int} (h : IsLong t y v) (ht : t.length ≤ 1000000) (w : World) :
    Calls Tryd.prog 26 #[.string (Bs t)] w fun e w' => e = .returned (.tuple #[.string (Bs y), .int .i64 v]) ∧ Below w.heap.size w w' :=
  (ref05_Long t ht w).mono fun e w' ⟨⟨y', v', hl, he⟩, hb⟩ => by
    obtain ⟨rfl, rfl⟩ := hl.unique h
    exact ⟨he, hb⟩

set_option maxRecDepth 100000 in
set_option maxHeartbeats 1000000 in
theorem law05_SectorShorts (s t : List UInt8) (w : World) (hE : Env w) :
    Calls Tryd.prog 6 #[.string (Bs s), .string (Bs t)] w fun e w' => e = .returned (.bool true) ∧ Below w.heap.size w w' := by
  have hsz := Bs_size
  have hK := law05_known
  by_cases hbig : 500 < s.length ∨ 500 < t.length
  · rcases (by omega : 500 < s.length ∨ (s.length ≤ 500 ∧ 500 < t.length)) with h | ⟨h, h'⟩
    all_goals
      clear hbig
      go_enter Tryd.func6, Tryd.ntmps6
      go_wp2_with (go_at_call 23; refine (hK _ hE).mono ?_; rintro e w1 ⟨rfl, hb1⟩)
      go_ret
      exact ⟨rfl, hb1⟩
  · have g1 : s.length ≤ 500 := by omega
    have g2 : t.length ≤ 500 := by omega
    have d1 : decide (500 < (s.length : Int)) = false := by rw [decide_eq_false_iff_not]; omega
    have d2 : decide (500 < (t.length : Int)) = false := by rw [decide_eq_false_iff_not]; omega
    obtain ⟨y, v, hyv⟩ := isLong_ex t
    have hSl : (shortL s).length ≤ 1000000 := by
      by_cases h : s.length = 64
      · have := short_le s h; omega
      · have e : shortL s = [] := by unfold shortL; exact if_neg h
        rw [e]; simp
    have hL := fun W hE => long_at hyv (by omega) W hE
    have hRL := fun W => refLong_at hyv (by omega) W
    have hS := fun W hE => sector_Short s W hE
    have hRS := fun W => ref05_Short s W
    have hRt := fun W => ref05_Right s W
    obtain ⟨z, u, hzu, hz⟩ : ∃ z u, IsLong (shortL s) z u ∧ (s.length = 64 → z = s ∧ u = 0) := by
      obtain ⟨z, u, h⟩ := isLong_ex (shortL s)
      exact ⟨z, u, h, fun h64 => h.unique (.inl ⟨rfl, h64, rfl⟩)⟩
    have hL2 := fun W hE => long_at hzu hSl W hE
    have heq : ∀ a b : List UInt8, ((Bs a).toList = (Bs b).toList) = (a = b) := fun a b => by
      rw [ByteArray.toList_eq, ByteArray.toList_eq]
      rfl
    have heqb : ∀ a b : List UInt8, ((Bs a).toList == (Bs b).toList) = (a == b) := fun a b => by
      rw [ByteArray.toList_eq, ByteArray.toList_eq]
      rfl
    have heqn : ∀ a b : List UInt8, ((Bs a).toList != (Bs b).toList) = (a != b) := fun a b => by
      rw [ByteArray.toList_eq, ByteArray.toList_eq]
      rfl
    clear hzu hbig hSl
    have hSy := fun W hE => sector_Short y W hE
    have hval : (v = 0 ∧ shortL y = t) ∨ v = 6 := by
      rcases hyv with ⟨h1, _, h2⟩ | ⟨h, _⟩
      · exact .inl ⟨h1, h2⟩
      · exact .inr h
    clear hyv
    generalize shortL s = S at *
    have h64 : (s.length = 64 ∧ z = s ∧ u = 0) ∨ decide (s.length = 64) = false := by
      by_cases h : s.length = 64
      · exact .inl ⟨h, hz h⟩
      · exact .inr (by simpa using h)
    clear hz
    rcases h64 with ⟨h1, rfl, rfl⟩ | h1
    · simp only [h1, decide_true] at hRt
      clear h1
      rcases hval with ⟨rfl, h2⟩ | rfl
      · rw [h2] at hSy
        clear h2
        go_enter Tryd.func6, Tryd.ntmps6
        go_wp2_with (first
          | (go_at_call 23; refine (hK _ hE6).mono ?_; rintro e w7 ⟨rfl, hb7⟩)
          | (go_at_call 28; refine (hRt _).mono ?_; rintro e w8 ⟨rfl, rfl⟩)
          | (go_at_call 24; refine (hSy _ hE5).mono ?_; rintro e w6 ⟨rfl, hb6⟩; have hE6 := hE5.below hb6)
          | (go_at_call 25; refine (hL2 _ hE4).mono ?_; rintro e w5 ⟨rfl, hb5⟩; have hE5 := hE4.below hb5)
          | (go_at_call 27; refine (hRS _).mono ?_; rintro e w4 ⟨rfl, hb4⟩; have hE4 := hE3.below hb4)
          | (go_at_call 26; refine (hRL _).mono ?_; rintro e w3 ⟨rfl, hb3⟩; have hE3 := hE2.below hb3)
          | (go_at_call 25; refine (hL _ hE1).mono ?_; rintro e w2 ⟨rfl, hb2⟩; have hE2 := hE1.below hb2)
          | (go_at_call 24; refine (hS _ hE).mono ?_; rintro e w1 ⟨rfl, hb1⟩; have hE1 := hE.below hb1))
        go_ret
        exact ⟨rfl, bnext hb1 (bnext hb2 (bnext hb3 (bnext hb4 (bnext hb5 (bnext hb6 hb7)))))⟩
      · clear hSy
        go_enter Tryd.func6, Tryd.ntmps6
        go_wp2_with (first
          | (go_at_call 23; refine (hK _ hE5).mono ?_; rintro e w7 ⟨rfl, hb7⟩)
          | (go_at_call 28; refine (hRt _).mono ?_; rintro e w8 ⟨rfl, rfl⟩)
          | (go_at_call 25; refine (hL2 _ hE4).mono ?_; rintro e w5 ⟨rfl, hb5⟩; have hE5 := hE4.below hb5)
          | (go_at_call 27; refine (hRS _).mono ?_; rintro e w4 ⟨rfl, hb4⟩; have hE4 := hE3.below hb4)
          | (go_at_call 26; refine (hRL _).mono ?_; rintro e w3 ⟨rfl, hb3⟩; have hE3 := hE2.below hb3)
          | (go_at_call 25; refine (hL _ hE1).mono ?_; rintro e w2 ⟨rfl, hb2⟩; have hE2 := hE1.below hb2)
          | (go_at_call 24; refine (hS _ hE).mono ?_; rintro e w1 ⟨rfl, hb1⟩; have hE1 := hE.below hb1))
        go_ret
        exact ⟨rfl, bnext hb1 (bnext hb2 (bnext hb3 (bnext hb4 (bnext hb5 hb7))))⟩
    · simp only [h1] at hRt
      clear h1
      rcases hval with ⟨rfl, h2⟩ | rfl
      · rw [h2] at hSy
        clear h2
        go_enter Tryd.func6, Tryd.ntmps6
        go_wp2_with (first
          | (go_at_call 23; refine (hK _ hE6).mono ?_; rintro e w7 ⟨rfl, hb7⟩)
          | (go_at_call 28; refine (hRt _).mono ?_; rintro e w8 ⟨rfl, rfl⟩)
          | (go_at_call 24; refine (hSy _ hE5).mono ?_; rintro e w6 ⟨rfl, hb6⟩; have hE6 := hE5.below hb6)
          | (go_at_call 25; refine (hL2 _ hE4).mono ?_; rintro e w5 ⟨rfl, hb5⟩; have hE5 := hE4.below hb5)
          | (go_at_call 27; refine (hRS _).mono ?_; rintro e w4 ⟨rfl, hb4⟩; have hE4 := hE3.below hb4)
          | (go_at_call 26; refine (hRL _).mono ?_; rintro e w3 ⟨rfl, hb3⟩; have hE3 := hE2.below hb3)
          | (go_at_call 25; refine (hL _ hE1).mono ?_; rintro e w2 ⟨rfl, hb2⟩; have hE2 := hE1.below hb2)
          | (go_at_call 24; refine (hS _ hE).mono ?_; rintro e w1 ⟨rfl, hb1⟩; have hE1 := hE.below hb1))
        go_ret
        exact ⟨rfl, bnext hb1 (bnext hb2 (bnext hb3 (bnext hb4 (bnext hb5 (bnext hb6 hb7)))))⟩
      · clear hSy
        go_enter Tryd.func6, Tryd.ntmps6
        go_wp2_with (first
          | (go_at_call 23; refine (hK _ hE5).mono ?_; rintro e w7 ⟨rfl, hb7⟩)
          | (go_at_call 28; refine (hRt _).mono ?_; rintro e w8 ⟨rfl, rfl⟩)
          | (go_at_call 25; refine (hL2 _ hE4).mono ?_; rintro e w5 ⟨rfl, hb5⟩; have hE5 := hE4.below hb5)
          | (go_at_call 27; refine (hRS _).mono ?_; rintro e w4 ⟨rfl, hb4⟩; have hE4 := hE3.below hb4)
          | (go_at_call 26; refine (hRL _).mono ?_; rintro e w3 ⟨rfl, hb3⟩; have hE3 := hE2.below hb3)
          | (go_at_call 25; refine (hL _ hE1).mono ?_; rintro e w2 ⟨rfl, hb2⟩; have hE2 := hE1.below hb2)
          | (go_at_call 24; refine (hS _ hE).mono ?_; rintro e w1 ⟨rfl, hb1⟩; have hE1 := hE.below hb1))
        go_ret
        exact ⟨rfl, bnext hb1 (bnext hb2 (bnext hb3 (bnext hb4 (bnext hb5 hb7))))⟩
end Go.Proofs.YtmakpilfjopmeaaDoor
