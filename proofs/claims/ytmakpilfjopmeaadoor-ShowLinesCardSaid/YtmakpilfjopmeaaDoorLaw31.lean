/- The laws of package pentimentolaw31 walked: known, ShowLines, ShowParse. -/
import Derived.Test.YtmakpilfjopmeaaDoorShow7
set_option linter.unusedVariables false
set_option linter.unusedSimpArgs false
namespace Go.Proofs.YtmakpilfjopmeaaDoor
open Go Go.RowKit Go.Lib Go.Shelf

def agV (x : Ans) (A : Option Addr) (c : Nat) : Value := ansV x A c
def ParseAt (P : World → Nat → Prop) (y : Ans) (E : Int) (W : World) (e : Ending) (w' : World) : Prop :=
  (∃ (A : Option Addr) (c : Nat), e = .returned (.tuple #[.agg #[.int .i64 y.why, .int .i64 y.n, .int .i64 y.m, .string (Bs y.data), .slice A y.list.length c], .int .i64 E]) ∧ y.list.length ≤ c ∧ Rd w' A y.list.length (nums .i64 y.list)) ∧ Below W.heap.size W w'
theorem parse_at {t : List UInt8} {y : Ans} {E : Int} (h : IsAns t y E) {P : Program} {f : FuncId} {args : Array Value} {w : World} (hc : Calls P f args w (ParsePost t w)) :
    Calls P f args w (ParseAt (fun _ _ => True) y E w) :=
  hc.mono fun e w' ⟨⟨y', E', hl, A, c, he, hcl, hr⟩, hb⟩ => by
    obtain ⟨rfl, rfl⟩ := hl.unique h
    exact ⟨⟨A, c, he, hcl, hr⟩, hb⟩

theorem short_zero : shortL (List.replicate 64 0) = [48, 48, 42, 54, 52] := by
  have e : rle (List.replicate 64 0) = [(0, 64)] := by
    rw [show List.replicate 64 (0 : UInt8) = 0 :: List.replicate 63 0 by rfl, rle_cons, show longL (0 :: List.replicate 63 0) = 64 by decide]
    rw [show List.drop 64 (0 :: List.replicate 63 (0 : UInt8)) = [] by rfl, rle]
  unfold shortL
  rw [if_pos (by decide), e]
  decide +kernel
def kA1 : Ans := ⟨0, 3, 0, List.replicate 64 0, [1, -2]⟩
def kA2 : Ans := ⟨5, 0, 0, [], []⟩
def kA3 : Ans := ⟨23, 0, 0, [], []⟩
theorem kA1_valid : kA1.Valid := ⟨⟨I64_zero, ⟨by decide, by decide⟩, I64_zero, fun v h => by
  simp [kA1] at h
  rcases h with rfl | rfl <;> exact ⟨by decide, by decide⟩⟩, by decide, by decide, .inr (by simp [kA1]), by decide⟩
theorem kA2_valid : kA2.Valid := ⟨⟨⟨by decide, by decide⟩, I64_zero, I64_zero, fun v h => by cases h⟩, by decide, by decide, .inl rfl, by decide⟩
theorem kA3_ok : kA3.Ok := ⟨⟨by decide, by decide⟩, I64_zero, I64_zero, fun v h => by cases h⟩
theorem kA3_bad : ¬ kA3.Valid := fun h => by have := h.why1; exact absurd this (by decide)
theorem zero_valid : Ans.zero.Valid := ⟨⟨I64_zero, I64_zero, I64_zero, fun v h => by cases h⟩, by decide, by decide, .inl rfl, by decide⟩
theorem kA1_line : lineA kA1 = [119, 104, 121, 32, 48, 32, 110, 32, 51, 32, 100, 97, 116, 97, 32, 48, 48, 42, 54, 52, 32, 108, 105, 115, 116, 32, 49, 32, 45, 50] := by
  rw [← line_ref _ kA1_valid.data]
  unfold lineR kA1
  simp only [short_zero]
  decide +kernel
theorem kA2_line : lineA kA2 = [119, 104, 121, 32, 53] := by
  rw [← line_ref _ kA2_valid.data]
  unfold lineR kA2
  decide +kernel

set_option maxRecDepth 100000 in
set_option maxHeartbeats 2000000 in
theorem law31_known (w : World) (hE : Env w) :
    Calls Tryd.prog 29 #[] w fun e w' => e = .returned (.bool true) ∧ Below w.heap.size w w' := by
  obtain ⟨Z, hZ⟩ : ∃ Z : List UInt8, Z = List.replicate 64 0 := ⟨_, rfl⟩
  have hZr := fun W => ref05_Zero W
  rw [← hZ] at hZr
  have hL1 : ∀ (W : World) (A : Option Addr), Rd W A 2 [.int .i64 1, .int .i64 (-2)] → Env W → Calls Tryd.prog 30 #[.agg #[.int .i64 0, .int .i64 3, .int .i64 0, .string (Bs Z), .slice A 2 2]] W fun e w' => e = .returned (.tuple #[.string (Bs (lineA kA1)), .int .i64 0]) ∧ Below W.heap.size W w' := by
    intro W A hr hE
    rw [hZ]
    exact show_Line_ok kA1 kA1_valid A 2 (Nat.le_refl _) W hr hE
  have hP : ∀ W, Env W → Calls Tryd.prog 32 #[.string (Bs (lineA kA2))] W (ParseAt (fun _ _ => True) kA2 0 W) := fun W hE => parse_at (.inl ⟨rfl, kA2_valid, rfl⟩) (show_Parse _ (by rw [kA2_line]; decide) W hE)
  have hL3 : ∀ W, Calls Tryd.prog 30 #[.agg #[.int .i64 23, .int .i64 0, .int .i64 0, .string ⟨#[]⟩, .slice none 0 0]] W fun e w' => e = .returned (.tuple #[.string (Bs []), .int .i64 6]) ∧ Below W.heap.size W w' :=
    fun W => show_Line_bad kA3 kA3_ok kA3_bad none 0 (Nat.le_refl _) (by decide) (by decide) W
  obtain ⟨T1, h1⟩ : ∃ T, T = lineA kA1 := ⟨_, rfl⟩
  obtain ⟨T2, h2⟩ : ∃ T, T = lineA kA2 := ⟨_, rfl⟩
  rw [← h1] at hL1
  rw [← h2] at hP
  have g1 : (⟨#[119, 104, 121, 32, 48, 32, 110, 32, 51, 32, 100, 97, 116, 97, 32, 48, 48, 42, 54, 52, 32, 108, 105, 115, 116, 32, 49, 32, 45, 50]⟩ : ByteArray) = Bs T1 := by rw [h1, kA1_line]; rfl
  have g2 : (⟨#[119, 104, 121, 32, 53]⟩ : ByteArray) = Bs T2 := by rw [h2, kA2_line]; rfl
  clear h1 h2 hZ
  replace hZr := Lib.hid hZr
  replace hL1 := Lib.hid hL1
  replace hP := Lib.hid hP
  replace hL3 := Lib.hid hL3
  have heqb := Bs_eqb
  have heq := Bs_eq
  go_enter Tryd.func29, Tryd.ntmps29
  go_wp2_with (first
    | (have _t := hb3; go_at_call 30; refine (hL3.out _).mono ?_; rintro e w4 ⟨rfl, hb4⟩
       have c0 : w4.cell? ⟨w3.heap.size, 0, none⟩ = some (.int .i64 5) := (Blk.below (Blk.new w3 57 _) hb4 (by simp)).cell 0)
    | (have _t := hb2; go_at_call 32; refine (hP.out _ hE2).mono ?_; rintro e w3 ⟨⟨A3, c3, rfl, hc3, hr3⟩, hb3⟩)
    | (have _t := hb1; go_at_call 30; refine (hL1.out _ _ hr1 hE1).mono ?_; rintro e w2 ⟨rfl, hb2⟩; have hE2 := hE1.below hb2)
    | (go_at_call 56; refine (hZr.out _).mono ?_; rintro e w1 ⟨rfl, hb1⟩
       have hE1 : Env (w1.alloc (.cells #[.int .i64 1, .int .i64 (-2)] 3)) := (hE.below hb1).below (balloc _ _)
       have hr1 := Rd.two w1 (.int .i64 1) (.int .i64 (-2)) 3))
  go_ret
  exact ⟨rfl, bnext (bnext hb1 (balloc _ _)) (bnext hb2 (bnext (bnext hb3 (balloc _ _)) hb4))⟩

set_option maxRecDepth 100000 in
set_option maxHeartbeats 2000000 in
theorem law31_ShowLines (x : Ans) (hok : x.Ok) (A : Option Addr) (c : Nat) (hc : x.list.length ≤ c) (w : World) (hr : Rd w A x.list.length (nums .i64 x.list)) (hE : Env w) (hm : x.list.length ≤ 9223372036854775807) (hd : x.data.length ≤ 9223372036854775807) :
    Calls Tryd.prog 7 #[.agg #[.int .i64 x.why, .int .i64 x.n, .int .i64 x.m, .string (Bs x.data), .slice A x.list.length c]] w fun e w' => e = .returned (.bool true) ∧ Below w.heap.size w w' := by
  have hK := Lib.hid (fun W hE => law31_known W hE)
  have hsz := Bs_size
  have hE0 : Env (w.alloc (.cells #[.int .i64 x.why, .int .i64 x.n, .int .i64 x.m, .string (Bs x.data), .slice A x.list.length c] 57)) := hE.below (balloc _ _)
  by_cases h100 : 100 < x.list.length
  · have t1 : decide (100 < (x.list.length : Int)) = true := by simp; omega
    go_enter Tryd.func7, Tryd.ntmps7
    go_wp2_with (go_at_call 29; refine (hK.out _ hE0).mono ?_; rintro e w1 ⟨rfl, hb1⟩)
    go_ret
    exact ⟨rfl, bnext (balloc _ _) hb1⟩
  · have t1 : decide (100 < (x.list.length : Int)) = false := by simp; omega
    by_cases h200 : 200 < x.data.length
    · have t2 : decide (200 < (x.data.length : Int)) = true := by simp; omega
      go_enter Tryd.func7, Tryd.ntmps7
      go_wp2_with (go_at_call 29; refine (hK.out _ hE0).mono ?_; rintro e w1 ⟨rfl, hb1⟩)
      go_ret
      exact ⟨rfl, bnext (balloc _ _) hb1⟩
    · have t2 : decide (200 < (x.data.length : Int)) = false := by simp; omega
      have hr0 := hr.alloc (.cells #[.int .i64 x.why, .int .i64 x.n, .int .i64 x.m, .string (Bs x.data), .slice A x.list.length c] 57)
      have hB0 := Blk.new w 57 #[.int .i64 x.why, .int .i64 x.n, .int .i64 x.m, .string (Bs x.data), .slice A x.list.length c]
      by_cases hv : x.Valid
      · have hS := Lib.hid (fun W hr hE => show_Line_ok x hv A c hc W hr hE)
        have hR := Lib.hid (fun W hr => ref31_Line_ok x hv A c hc W hr)
        have hP : ∀ W, Env W → Calls Tryd.prog 32 #[.string (Bs (lineA x))] W (ParseAt (fun _ _ => True) x 0 W) := fun W hE => parse_at (.inl ⟨rfl, hv, rfl⟩) (show_Parse _ (lineA_len x hv) W hE)
        replace hP := Lib.hid hP
        have hAl := Lib.hid (fun A' c' hc' W h h' => ref25_Alike x A A' c c' hc hc' (by omega) W h h')
        generalize lineA x = T at *
        have heqb := Bs_eqb
        have hneb := Bs_neb
        clear hv
        go_enter Tryd.func7, Tryd.ntmps7
        go_wp2_with (first
          | (have _t := hb4; go_at_call 29; refine (hK.out _ hE4).mono ?_; rintro e w5 ⟨rfl, hb5⟩)
          | (have _t := hb3; go_at_call 33; refine (hAl.out A3 c3 hc3 _ hr3' hr3).mono ?_; rintro e w4 ⟨rfl, hb4⟩; have hE4 := hE3.below hb4)
          | (have _t := hb2; go_at_call 32; refine (hP.out _ hE2).mono ?_; rintro e w3 ⟨⟨A3, c3, rfl, hc3, hr3⟩, hb3⟩
             have hr3' := ((hr2.below hb3).alloc (.cells #[.int .i64 x.why, .int .i64 x.n, .int .i64 x.m, .string (Bs x.data), .slice A3 x.list.length c3] 57))
             replace hr3 := (hr3.alloc (.cells #[.int .i64 x.why, .int .i64 x.n, .int .i64 x.m, .string (Bs x.data), .slice A3 x.list.length c3] 57))
             have hB3 := hB2.below hb3 hB2.lt
             have hz3 := hB3.lt
             have hE3 := (hE2.below hb3).below (balloc w3 (.cells #[.int .i64 x.why, .int .i64 x.n, .int .i64 x.m, .string (Bs x.data), .slice A3 x.list.length c3] 57))
             have d0 := hB3.cell 0
             have d1 := hB3.cell 1
             have d2 := hB3.cell 2
             have d3 := hB3.cell 3
             have d4 := hB3.cell 4)
          | (have _t := hb1; go_at_call 31; refine (hR.out _ hr1).mono ?_; rintro e w2 ⟨rfl, hb2⟩
             have hr2 := hr1.below hb2
             have hE2 := hE1.below hb2
             have hB2 := hB1.below hb2 hB1.lt)
          | (go_at_call 30; refine (hS.out _ hr0 hE0).mono ?_; rintro e w1 ⟨rfl, hb1⟩
             have hr1 := hr0.below hb1
             have hE1 := hE0.below hb1
             have hB1 := hB0.below hb1 (by simp)
             have b0 := hB1.cell 0
             have b1 := hB1.cell 1
             have b2 := hB1.cell 2
             have b3 := hB1.cell 3
             have b4 := hB1.cell 4))
        go_ret
        exact ⟨rfl, bnext (balloc _ _) (bnext hb1 (bnext hb2 (bnext hb3 (bnext (balloc _ _) (bnext hb4 hb5)))))⟩
      · have hS := Lib.hid (fun W => show_Line_bad x hok hv A c hc (by omega) (by omega) W)
        have hR := Lib.hid (fun W => ref31_Line_bad x hok hv A c hc (by omega) (by omega) W)
        have heqb := Bs_eqb
        have hneb := Bs_neb
        clear hv
        go_enter Tryd.func7, Tryd.ntmps7
        go_wp2_with (first
          | (have _t := hb2; go_at_call 29; refine (hK.out _ hE2).mono ?_; rintro e w5 ⟨rfl, hb5⟩)
          | (have _t := hb1; go_at_call 31; refine (hR.out _).mono ?_; rintro e w2 ⟨rfl, hb2⟩; have hE2 := hE1.below hb2)
          | (go_at_call 30; refine (hS.out _).mono ?_; rintro e w1 ⟨rfl, hb1⟩
             have hE1 := hE0.below hb1
             have hB1 := hB0.below hb1 (by simp)
             have b0 := hB1.cell 0
             have b1 := hB1.cell 1
             have b2 := hB1.cell 2
             have b3 := hB1.cell 3
             have b4 := hB1.cell 4))
        go_ret
        exact ⟨rfl, bnext (balloc _ _) (bnext hb1 (bnext hb2 hb5))⟩

set_option maxRecDepth 100000 in
set_option maxHeartbeats 2000000 in
theorem law31_ShowParse (t : List UInt8) (w : World) (hE : Env w) :
    Calls Tryd.prog 8 #[.string (Bs t)] w fun e w' => e = .returned (.bool true) ∧ Below w.heap.size w w' := by
  have hK := Lib.hid (fun W hE => law31_known W hE)
  have hsz := Bs_size
  by_cases h1500 : 1500 < t.length
  · have t1 : decide (1500 < (t.length : Int)) = true := by simp; omega
    go_enter Tryd.func8, Tryd.ntmps8
    go_wp2_with (go_at_call 29; refine (hK.out _ hE).mono ?_; rintro e w1 ⟨rfl, hb1⟩)
    go_ret
    exact ⟨rfl, hb1⟩
  · have t1 : decide (1500 < (t.length : Int)) = false := by simp; omega
    obtain ⟨y, E, hy⟩ := isAns_ex t
    have hP := Lib.hid (fun W hE => parse_at hy (show_Parse t (by omega) W hE))
    have hR := Lib.hid (fun W => parse_at hy (ref31_Parse t (by omega) W))
    have heq := Bs_eq
    have heqb := Bs_eqb
    have hneb := Bs_neb
    have hval : y.Valid ∧ ((E = 0 ∧ lineA y = t) ∨ E = 6) := by
      rcases hy with ⟨rfl, hv, hl⟩ | ⟨rfl, rfl, _⟩
      · exact ⟨hv, .inl ⟨rfl, hl⟩⟩
      · exact ⟨zero_valid, .inr rfl⟩
    obtain ⟨hv, hval⟩ := hval
    have hll := hv.list
    have hS := Lib.hid (fun A c hc W hr hE => show_Line_ok y hv A c hc W hr hE)
    have hAl := Lib.hid (fun A c hc A' c' hc' W h h' => ref25_Alike y A A' c c' hc hc' (by omega) W h h')
    clear hy hv
    rcases hval with ⟨rfl, rfl⟩ | rfl
    · go_enter Tryd.func8, Tryd.ntmps8
      go_wp2_with (first
        | (have _t := hb4; go_at_call 29; refine (hK.out _ hE4).mono ?_; rintro e w5 ⟨rfl, hb5⟩)
        | (have _t := hb3; go_at_call 30; refine (hS.out _ _ hc1 _ hr13 hE3).mono ?_; rintro e w4 ⟨rfl, hb4⟩; have hE4 := hE3.below hb4)
        | (have _t := hb2; go_at_call 33; refine (hAl.out _ _ hc1 _ _ hc2 _ hr12 hr2).mono ?_; rintro e w3 ⟨rfl, hb3⟩
           have hE3 := hE2.below hb3
           have hr13 := hr12.below hb3
           have hB3 := hB12.below hb3 hB12.lt
           have d0 := hB3.cell 0
           have d1 := hB3.cell 1
           have d2 := hB3.cell 2
           have d3 := hB3.cell 3
           have d4 := hB3.cell 4)
        | (have _t := hb1; go_at_call 34; refine (hR.out _).mono ?_; rintro e w2 ⟨⟨A2, c2, rfl, hc2, hr2⟩, hb2⟩
           have hr12 := (hr1.below hb2).alloc (.cells #[.int .i64 y.why, .int .i64 y.n, .int .i64 y.m, .string (Bs y.data), .slice A2 y.list.length c2] 57)
           replace hr2 := hr2.alloc (.cells #[.int .i64 y.why, .int .i64 y.n, .int .i64 y.m, .string (Bs y.data), .slice A2 y.list.length c2] 57)
           have hE2 := (hE1.below hb2).below (balloc w2 (.cells #[.int .i64 y.why, .int .i64 y.n, .int .i64 y.m, .string (Bs y.data), .slice A2 y.list.length c2] 57))
           have hB2 := hB1.below hb2 hB1.lt
           have hB12 := hB2.alloc (.cells #[.int .i64 y.why, .int .i64 y.n, .int .i64 y.m, .string (Bs y.data), .slice A2 y.list.length c2] 57)
           have hz2 := hB2.lt
           have b0 := hB2.cell 0
           have b1 := hB2.cell 1
           have b2 := hB2.cell 2
           have b3 := hB2.cell 3
           have b4 := hB2.cell 4)
        | (go_at_call 32; refine (hP.out _ hE).mono ?_; rintro e w1 ⟨⟨A1, c1, rfl, hc1, hr1⟩, hb1⟩
           replace hr1 := hr1.alloc (.cells #[.int .i64 y.why, .int .i64 y.n, .int .i64 y.m, .string (Bs y.data), .slice A1 y.list.length c1] 57)
           have hE1 := (hE.below hb1).below (balloc w1 (.cells #[.int .i64 y.why, .int .i64 y.n, .int .i64 y.m, .string (Bs y.data), .slice A1 y.list.length c1] 57))
           have hB1 := Blk.new w1 57 #[.int .i64 y.why, .int .i64 y.n, .int .i64 y.m, .string (Bs y.data), .slice A1 y.list.length c1]))
      go_ret
      exact ⟨rfl, bnext hb1 (bnext (balloc _ _) (bnext hb2 (bnext (balloc _ _) (bnext hb3 (bnext hb4 hb5)))))⟩
    · go_enter Tryd.func8, Tryd.ntmps8
      go_wp2_with (first
        | (have _t := hb4; go_at_call 29; refine (hK.out _ hE4).mono ?_; rintro e w5 ⟨rfl, hb5⟩)
        | (have _t := hb3; go_at_call 30; refine (hS.out _ _ hc1 _ hr13 hE3).mono ?_; rintro e w4 ⟨rfl, hb4⟩; have hE4 := hE3.below hb4)
        | (have _t := hb2; go_at_call 33; refine (hAl.out _ _ hc1 _ _ hc2 _ hr12 hr2).mono ?_; rintro e w3 ⟨rfl, hb3⟩
           have hE3 := hE2.below hb3
           have hr13 := hr12.below hb3
           have hB3 := hB12.below hb3 hB12.lt
           have d0 := hB3.cell 0
           have d1 := hB3.cell 1
           have d2 := hB3.cell 2
           have d3 := hB3.cell 3
           have d4 := hB3.cell 4)
        | (have _t := hb1; go_at_call 34; refine (hR.out _).mono ?_; rintro e w2 ⟨⟨A2, c2, rfl, hc2, hr2⟩, hb2⟩
           have hr12 := (hr1.below hb2).alloc (.cells #[.int .i64 y.why, .int .i64 y.n, .int .i64 y.m, .string (Bs y.data), .slice A2 y.list.length c2] 57)
           replace hr2 := hr2.alloc (.cells #[.int .i64 y.why, .int .i64 y.n, .int .i64 y.m, .string (Bs y.data), .slice A2 y.list.length c2] 57)
           have hE2 := (hE1.below hb2).below (balloc w2 (.cells #[.int .i64 y.why, .int .i64 y.n, .int .i64 y.m, .string (Bs y.data), .slice A2 y.list.length c2] 57))
           have hB2 := hB1.below hb2 hB1.lt
           have hB12 := hB2.alloc (.cells #[.int .i64 y.why, .int .i64 y.n, .int .i64 y.m, .string (Bs y.data), .slice A2 y.list.length c2] 57)
           have hz2 := hB2.lt
           have b0 := hB2.cell 0
           have b1 := hB2.cell 1
           have b2 := hB2.cell 2
           have b3 := hB2.cell 3
           have b4 := hB2.cell 4)
        | (go_at_call 32; refine (hP.out _ hE).mono ?_; rintro e w1 ⟨⟨A1, c1, rfl, hc1, hr1⟩, hb1⟩
           replace hr1 := hr1.alloc (.cells #[.int .i64 y.why, .int .i64 y.n, .int .i64 y.m, .string (Bs y.data), .slice A1 y.list.length c1] 57)
           have hE1 := (hE.below hb1).below (balloc w1 (.cells #[.int .i64 y.why, .int .i64 y.n, .int .i64 y.m, .string (Bs y.data), .slice A1 y.list.length c1] 57))
           have hB1 := Blk.new w1 57 #[.int .i64 y.why, .int .i64 y.n, .int .i64 y.m, .string (Bs y.data), .slice A1 y.list.length c1]))
      go_ret
      exact ⟨rfl, bnext hb1 (bnext (balloc _ _) (bnext hb2 (bnext (balloc _ _) (bnext hb3 (bnext hb4 hb5)))))⟩
end Go.Proofs.YtmakpilfjopmeaaDoor
