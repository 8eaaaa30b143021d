/- Walk of show.Parse. -/
import Derived.Test.YtmakpilfjopmeaaDoorShow4
import Derived.Test.YtmakpilfjopmeaaDoorShow6
set_option linter.unusedVariables false
set_option linter.unusedSimpArgs false
namespace Go.Proofs.YtmakpilfjopmeaaDoor
open Go Go.RowKit Go.Lib Go.Shelf

theorem split_jt (c : UInt8) (l : List UInt8) : (joinTail [32] (splitL c l)).length = l.length + 1 := by
  induction l with
  | nil => rw [splitL, jt_one]
  | cons x l ih =>
    rw [splitL]
    split
    · rw [jt_cons, ih]; simp; omega
    · cases h : splitL c l with
      | nil => exact absurd h (splitL_ne c l)
      | cons w ws =>
        rw [h, jt_cons] at ih
        simp only [jt_cons, List.length_cons]
        omega
theorem own_base {W : World} {b b' n : Nat} {e : TypeId} {v : Value} {xs : List Value} (h : W.ownsRow b e 1 v n xs) (hb : b' ≤ b) : W.ownsRow b' e 1 v n xs := by
  refine ⟨h.1, h.2.imp id ?_⟩
  rintro ⟨g, cap, cur, e1, e2, rest⟩
  exact ⟨g, cap, cur, e1, Nat.le_trans hb e2, rest⟩

set_option maxRecDepth 100000 in
set_option maxHeartbeats 1000000 in
theorem show_Parse (t : List UInt8) (ht : t.length ≤ 2000) (w : World) (hE : Env w) :
    Calls Tryd.prog 32 #[.string (Bs t)] w (ParsePost t w) := by
  have hj := split_jt 32 t
  have hS := Lib.hid (fun W hE => split_any t 32 W hE (by omega))
  have hG := Lib.hid (fun A c hc W hr hE => show_guess (splitL 32 t) A c hc W hr (by omega) hE)
  obtain ⟨G, hGe⟩ : ∃ G, G = guessW (splitL 32 t) := ⟨_, rfl⟩
  rw [← hGe] at hG
  obtain ⟨hyes, hno⟩ := isAns_of_guess (t := t) (x := G) (fun y hy hl => by rw [hGe, ← hl, guess_line y hy])
  have k6 : (⟨#[32]⟩ : ByteArray) = Bs [32] := rfl
  have hneb := Bs_neb
  have heq := Bs_eq
  have heqb := Bs_eqb
  clear hGe hj
  go_enter Tryd.func32, Tryd.ntmps32
  go_upto_region 2 with (first
    | (have _t := hb1; go_at_call 58; refine (hG.out _ _ (Nat.le_refl _) _ hr1 (hE1.below hb1)).mono ?_; rintro e w2 ⟨⟨A, c, he, hc, hown⟩, hGS, hGl, hb2⟩; unfold ansV at he; subst he)
    | (have hE1 := hE.below (balloc w (.cells #[.int .i64 0, .int .i64 0, .int .i64 0, .string ⟨#[]⟩, .slice none 0 0] 57))
       go_at_call 38; refine (hS.out _ hE1).mono ?_; rintro e w1 ⟨rfl, hr1, hb1⟩
       rw [World.size_alloc] at hr1))
  have hA : AnsAt w w2.heap.size (.slice A G.list.length c) G (w2.alloc (.cells #[.int .i64 G.why, .int .i64 G.n, .int .i64 G.m, .string (Bs G.data), .slice A G.list.length c] 57)) := by
    have hb12 := hb1.trans (hb2.mono hb1.size)
    have hB := (balloc w (.cells #[.int .i64 0, .int .i64 0, .int .i64 0, .string ⟨#[]⟩, .slice none 0 0] 57)).trans (hb12.mono (by simp))
    have hs := hb12.size
    have hs1 := hb1.size
    simp only [World.size_alloc] at hs hs1
    exact ⟨(own_base hown (by omega)).alloc _, Blk.new _ _ _, ((Blk.new w _ _).below hb12 (by simp)).alloc _, by omega, hB.alloc hB.size _⟩
  have hEA := hE.below hA.below
  generalize hg : w2.heap.size = g at hA ⊢
  generalize (w2.alloc (.cells #[.int .i64 G.why, .int .i64 G.n, .int .i64 G.m, .string (Bs G.data), .slice A G.list.length c] 57)) = wc at hA hEA ⊢
  clear hg hb1 hb2 hown hr1 hS hG hE1
  have hr := Rd.of_own hA.own
  have c0 := hA.box.cell 0
  have c1 := hA.box.cell 1
  have c2 := hA.box.cell 2
  have c3 := hA.box.cell 3
  have c4 := hA.box.cell 4
  by_cases hv : G.Valid
  · have hL := Lib.hid (fun W h hE => show_Line_ok G hv A c hc W h hE)
    by_cases hl : lineA G = t
    · have hyes' := hyes ⟨hv, hl⟩
      clear hno hyes
      subst hl
      go_wp2_with (first
        | (go_at_call 30; refine (hL.out _ hr hEA).mono ?_; rintro e w4 ⟨rfl, hb4⟩
           have H4 := hA.call hb4
           have b0 := H4.box.cell 0
           have b1 := H4.box.cell 1
           have b2 := H4.box.cell 2
           have b3 := H4.box.cell 3
           have b4 := H4.box.cell 4
           have r0 := H4.res.cell 0
           have r1 := H4.res.cell 1
           have r2 := H4.res.cell 2
           have r3 := H4.res.cell 3
           have r4 := H4.res.cell 4
           have q0 := H4.res.frozen 0
           have q1 := H4.res.frozen 1
           have q2 := H4.res.frozen 2
           have q3 := H4.res.frozen 3
           have q4 := H4.res.frozen 4))
      have hres := (((((H4.res.set_ 0 (.int .i64 G.why)).set_ 1 (.int .i64 G.n)).set_ 2 (.int .i64 G.m)).set_ 3 (.string (Bs G.data))).set_ 4 (.slice A G.list.length c))
      have hbel := (((((H4.below.setCell (p := ⟨w.heap.size, 0, none⟩) (Nat.le_refl _) (.int .i64 G.why)).setCell (p := ⟨w.heap.size, 1, none⟩) (Nat.le_refl _) (.int .i64 G.n)).setCell (p := ⟨w.heap.size, 2, none⟩) (Nat.le_refl _) (.int .i64 G.m)).setCell (p := ⟨w.heap.size, 3, none⟩) (Nat.le_refl _) (.string (Bs G.data))).setCell (p := ⟨w.heap.size, 4, none⟩) (Nat.le_refl _) (.slice A G.list.length c))
      have hlist := res_stored H4 (.int .i64 G.why) (.int .i64 G.n) (.int .i64 G.m) (.string (Bs G.data)) (.slice A G.list.length c)
      generalize (((((w4.setCell ⟨w.heap.size, 0, none⟩ (.int .i64 G.why)).setCell ⟨w.heap.size, 1, none⟩ (.int .i64 G.n)).setCell ⟨w.heap.size, 2, none⟩ (.int .i64 G.m)).setCell ⟨w.heap.size, 3, none⟩ (.string (Bs G.data))).setCell ⟨w.heap.size, 4, none⟩ (.slice A G.list.length c)) = W5 at hres hbel hlist ⊢
      have e0 : W5.cell? ⟨w.heap.size, 0, none⟩ = some (.int .i64 G.why) := hres.cell 0
      have e1 : W5.cell? ⟨w.heap.size, 1, none⟩ = some (.int .i64 G.n) := hres.cell 1
      have e2 : W5.cell? ⟨w.heap.size, 2, none⟩ = some (.int .i64 G.m) := hres.cell 2
      have e3 : W5.cell? ⟨w.heap.size, 3, none⟩ = some (.string (Bs G.data)) := hres.cell 3
      have e4 : W5.cell? ⟨w.heap.size, 4, none⟩ = some (.slice A G.list.length c) := hres.cell 4
      clear r0 r1 r2 r3 r4 q0 q1 q2 q3 q4 c0 c1 c2 c3 c4
      exact bodyPost_ret (v := .tuple #[.agg #[.int .i64 G.why, .int .i64 G.n, .int .i64 G.m, .string (Bs G.data), .slice A G.list.length c], .int .i64 0]) (by simp [results, Tryd.results32, go_sem, e0, e1, e2, e3, e4]) rfl ⟨⟨G, 0, hyes', A, c, rfl, hc, hlist⟩, hbel⟩
    · have ht1 : (lineA G != t) = true := by simpa using hl
      have ht2 : (lineA G == t) = false := by simpa using hl
      replace hno := hno (fun h => hl h.2)
      clear hyes
      go_wp2_with (first
        | (go_at_call 30; refine (hL.out _ hr hEA).mono ?_; rintro e w4 ⟨rfl, hb4⟩
           have H4 := hA.call hb4
           have r0 := H4.res.cell 0
           have r1 := H4.res.cell 1
           have r2 := H4.res.cell 2
           have r3 := H4.res.cell 3
           have r4 := H4.res.cell 4
           have q0 := H4.res.frozen 0
           have q1 := H4.res.frozen 1
           have q2 := H4.res.frozen 2
           have q3 := H4.res.frozen 3
           have q4 := H4.res.frozen 4))
      have hres := (((((H4.res.set_ 0 (.int .i64 0)).set_ 1 (.int .i64 0)).set_ 2 (.int .i64 0)).set_ 3 (.string ⟨#[]⟩)).set_ 4 (.slice none 0 0))
      have hbel := (((((H4.below.setCell (p := ⟨w.heap.size, 0, none⟩) (Nat.le_refl _) (.int .i64 0)).setCell (p := ⟨w.heap.size, 1, none⟩) (Nat.le_refl _) (.int .i64 0)).setCell (p := ⟨w.heap.size, 2, none⟩) (Nat.le_refl _) (.int .i64 0)).setCell (p := ⟨w.heap.size, 3, none⟩) (Nat.le_refl _) (.string ⟨#[]⟩)).setCell (p := ⟨w.heap.size, 4, none⟩) (Nat.le_refl _) (.slice none 0 0))
      have hlist := Rd.nil (((((w4.setCell ⟨w.heap.size, 0, none⟩ (.int .i64 0)).setCell ⟨w.heap.size, 1, none⟩ (.int .i64 0)).setCell ⟨w.heap.size, 2, none⟩ (.int .i64 0)).setCell ⟨w.heap.size, 3, none⟩ (.string ⟨#[]⟩)).setCell ⟨w.heap.size, 4, none⟩ (.slice none 0 0)) none
      generalize (((((w4.setCell ⟨w.heap.size, 0, none⟩ (.int .i64 0)).setCell ⟨w.heap.size, 1, none⟩ (.int .i64 0)).setCell ⟨w.heap.size, 2, none⟩ (.int .i64 0)).setCell ⟨w.heap.size, 3, none⟩ (.string ⟨#[]⟩)).setCell ⟨w.heap.size, 4, none⟩ (.slice none 0 0)) = W5 at hres hbel hlist ⊢
      have e0 : W5.cell? ⟨w.heap.size, 0, none⟩ = some (.int .i64 0) := hres.cell 0
      have e1 : W5.cell? ⟨w.heap.size, 1, none⟩ = some (.int .i64 0) := hres.cell 1
      have e2 : W5.cell? ⟨w.heap.size, 2, none⟩ = some (.int .i64 0) := hres.cell 2
      have e3 : W5.cell? ⟨w.heap.size, 3, none⟩ = some (.string ⟨#[]⟩) := hres.cell 3
      have e4 : W5.cell? ⟨w.heap.size, 4, none⟩ = some (.slice none 0 0) := hres.cell 4
      clear r0 r1 r2 r3 r4 q0 q1 q2 q3 q4 c0 c1 c2 c3 c4
      exact bodyPost_ret (v := .tuple #[.agg #[.int .i64 0, .int .i64 0, .int .i64 0, .string ⟨#[]⟩, .slice none 0 0], .int .i64 6]) (by simp [results, Tryd.results32, go_sem, e0, e1, e2, e3, e4]) rfl ⟨⟨Ans.zero, 6, hno, none, 0, rfl, Nat.le_refl _, hlist⟩, hbel⟩
  · replace hno := hno (fun h => hv h.1)
    clear hyes
    have hdl : G.data.length ≤ 1000000 := by rcases hGS.data with h | h <;> rw [h] <;> simp
    have hL := Lib.hid (show_Line_bad G hGS.ok hv A c hc (by omega) hdl wc)
    clear hv hr hGS
    go_wp2_with (first
      | (go_at_call 30; refine hL.out.mono ?_; rintro e w4 ⟨rfl, hb4⟩
         have H4 := hA.call hb4
         have r0 := H4.res.cell 0
         have r1 := H4.res.cell 1
         have r2 := H4.res.cell 2
         have r3 := H4.res.cell 3
         have r4 := H4.res.cell 4
         have q0 := H4.res.frozen 0
         have q1 := H4.res.frozen 1
         have q2 := H4.res.frozen 2
         have q3 := H4.res.frozen 3
         have q4 := H4.res.frozen 4))
    have hres := (((((H4.res.set_ 0 (.int .i64 0)).set_ 1 (.int .i64 0)).set_ 2 (.int .i64 0)).set_ 3 (.string ⟨#[]⟩)).set_ 4 (.slice none 0 0))
    have hbel := (((((H4.below.setCell (p := ⟨w.heap.size, 0, none⟩) (Nat.le_refl _) (.int .i64 0)).setCell (p := ⟨w.heap.size, 1, none⟩) (Nat.le_refl _) (.int .i64 0)).setCell (p := ⟨w.heap.size, 2, none⟩) (Nat.le_refl _) (.int .i64 0)).setCell (p := ⟨w.heap.size, 3, none⟩) (Nat.le_refl _) (.string ⟨#[]⟩)).setCell (p := ⟨w.heap.size, 4, none⟩) (Nat.le_refl _) (.slice none 0 0))
    have hlist := Rd.nil (((((w4.setCell ⟨w.heap.size, 0, none⟩ (.int .i64 0)).setCell ⟨w.heap.size, 1, none⟩ (.int .i64 0)).setCell ⟨w.heap.size, 2, none⟩ (.int .i64 0)).setCell ⟨w.heap.size, 3, none⟩ (.string ⟨#[]⟩)).setCell ⟨w.heap.size, 4, none⟩ (.slice none 0 0)) none
    generalize (((((w4.setCell ⟨w.heap.size, 0, none⟩ (.int .i64 0)).setCell ⟨w.heap.size, 1, none⟩ (.int .i64 0)).setCell ⟨w.heap.size, 2, none⟩ (.int .i64 0)).setCell ⟨w.heap.size, 3, none⟩ (.string ⟨#[]⟩)).setCell ⟨w.heap.size, 4, none⟩ (.slice none 0 0)) = W5 at hres hbel hlist ⊢
    have e0 : W5.cell? ⟨w.heap.size, 0, none⟩ = some (.int .i64 0) := hres.cell 0
    have e1 : W5.cell? ⟨w.heap.size, 1, none⟩ = some (.int .i64 0) := hres.cell 1
    have e2 : W5.cell? ⟨w.heap.size, 2, none⟩ = some (.int .i64 0) := hres.cell 2
    have e3 : W5.cell? ⟨w.heap.size, 3, none⟩ = some (.string ⟨#[]⟩) := hres.cell 3
    have e4 : W5.cell? ⟨w.heap.size, 4, none⟩ = some (.slice none 0 0) := hres.cell 4
    clear r0 r1 r2 r3 r4 q0 q1 q2 q3 q4 c0 c1 c2 c3 c4
    exact bodyPost_ret (v := .tuple #[.agg #[.int .i64 0, .int .i64 0, .int .i64 0, .string ⟨#[]⟩, .slice none 0 0], .int .i64 6]) (by simp [results, Tryd.results32, go_sem, e0, e1, e2, e3, e4]) rfl ⟨⟨Ans.zero, 6, hno, none, 0, rfl, Nat.le_refl _, hlist⟩, hbel⟩
end Go.Proofs.YtmakpilfjopmeaaDoor
