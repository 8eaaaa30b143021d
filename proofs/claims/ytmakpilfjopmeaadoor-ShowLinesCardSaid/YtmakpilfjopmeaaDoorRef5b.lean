/- Walks of the reference of law 05: words, run. -/
import Derived.Test.YtmakpilfjopmeaaDoorRef5
set_option linter.unusedVariables false
set_option linter.unusedSimpArgs false
namespace Go.Proofs.YtmakpilfjopmeaaDoor
open Go Go.RowKit Go.Lib Go.Shelf
attribute [local go_sem] Oper.semAt_some

theorem splitL_snoc (c x : UInt8) (l : List UInt8) : ∃ xs u, splitL c l = xs ++ [u] ∧ splitL c (l ++ [x]) = if x = c then xs ++ [u] ++ [[]] else xs ++ [u ++ [x]] := by
  induction l with
  | nil =>
    refine ⟨[], [], rfl, ?_⟩
    simp only [List.nil_append, splitL]
    split <;> rfl
  | cons y l ih =>
    obtain ⟨xs, u, h1, h2⟩ := ih
    rw [List.cons_append]
    simp only [splitL]
    by_cases hy : y = c
    · refine ⟨[] :: xs, u, by rw [if_pos hy, h1]; rfl, ?_⟩
      rw [if_pos hy, h2]
      split <;> rfl
    · rw [if_neg hy, if_neg hy, h1, h2]
      cases xs with
      | nil =>
        refine ⟨[], y :: u, rfl, ?_⟩
        by_cases hx : x = c
        · rw [if_pos hx, if_pos hx]; rfl
        · rw [if_neg hx, if_neg hx]; rfl
      | cons v xs =>
        refine ⟨(y :: v) :: xs, u, rfl, ?_⟩
        by_cases hx : x = c
        · rw [if_pos hx, if_pos hx]; rfl
        · rw [if_neg hx, if_neg hx]; rfl
theorem bdrewB (B : Nat) (w : World) : Below B w w.drew := ⟨rfl, rfl, rfl, Nat.le_refl _, fun _ _ => rfl⟩
theorem splitL_last (c : UInt8) (l : List UInt8) : ∃ xs u, splitL c l = xs ++ [u] := ⟨_, _, (List.dropLast_concat_getLast (splitL_ne c l)).symm⟩

theorem own_last {w : World} {base m : Nat} {e : TypeId} {v : Value} {xs : List Value} {u : Value} (h : w.ownsRow base e 1 v (m + 1) (xs ++ [u])) (hm : xs.length = m) :
    ∃ g c, v = .slice (some ⟨g, 0, none⟩) (m + 1) c ∧ base ≤ g ∧ m + 1 ≤ c ∧ w.cell? ⟨g, m, none⟩ = some u ∧ w.frozen? ⟨g, m, none⟩ = false ∧
      ∀ u' : Value, (w.setCell ⟨g, m, none⟩ u').ownsRow base e 1 v (m + 1) (xs ++ [u']) := by
  rcases h.2 with ⟨_, h0⟩ | ⟨g, cap, cur, rfl, hg, hh, h1, h2, h3, h4⟩
  · omega
  · rw [Nat.mul_one] at h3 h4
    refine ⟨g, cap, rfl, hg, h1, ?_, frozen_of_row w g m cur e hh, fun u' => ⟨by simp [hm], .inr ⟨g, cap, cur.setIfInBounds m u', rfl, hg, heap_setCell_same w g m cur e u' hh, h1, h2, by simp [h3], ?_⟩⟩⟩
    · rw [cell_of_row w g m cur e (0, 0) hh]
      have : (cur.toList.take (m + 1))[m]? = some u := by rw [h4]; simp [← hm]
      rw [List.getElem?_take] at this
      simpa using this
    · rw [Nat.mul_one, Array.toList_setIfInBounds, List.take_set, h4, ← hm]
      simp

set_option maxRecDepth 100000 in
set_option maxHeartbeats 1000000 in
theorem ref05_words (t : List UInt8) (ht : t.length ≤ 1000) (w : World) :
    Calls Tryd.prog 51 #[.string (Bs t)] w fun e w' => (∃ v, e = .returned v ∧ w'.ownsRow w.heap.size 9 1 v (splitL 32 t).length (strs (splitL 32 t))) ∧ Below w.heap.size w w' := by
  have hcat := Bs_append
  have hnil : (⟨#[]⟩ : ByteArray) = Bs [] := rfl
  have hsz := Bs_size
  go_enter Tryd.func51, Tryd.ntmps51
  go_wp2
  go_loopw [3, 4] (fun s i wr => ∃ k : Nat, k ≤ t.length ∧ i = .int .i64 k ∧ ∃ (xs : List (List UInt8)) (u : List UInt8), Hid (splitL 32 (t.take k) = xs ++ [u]) ∧ xs.length ≤ k ∧ u.length ≤ k ∧ wr.ownsRow w.heap.size 9 1 s (xs.length + 1) (strs xs ++ [.string (Bs u)]) ∧ Below w.heap.size w wr) (fun _ i _ => t.length - (RowKit.intOf i).toNat)
  case atStart => exact ⟨0, by omega, rfl, [], [], rfl, by simp, by simp, ⟨rfl, .inr ⟨w.heap.size, 1, #[.string (Bs [])], rfl, Nat.le_refl _, heap_alloc_new w _, by simp, by decide, rfl, rfl⟩⟩, balloc w _⟩
  case round =>
    obtain ⟨k, hk, rfl, xs, u, hsp, hxl, hul, hown, hb⟩ := hrel
    have hrl : (strs xs).length = xs.length := strs_length xs
    obtain ⟨g, cp, rfl, hg, hcp, hcell, hfr, hset⟩ := own_last hown hrl
    by_cases hlt : k < t.length
    · obtain ⟨q, hq⟩ : ∃ q, t[k]? = some q := ⟨_, List.getElem?_eq_getElem hlt⟩
      have hidx := fun W => index_Bs hq W
      have hst := splitL_snoc 32 q (t.take k)
      rw [← take_snoc_of hq] at hst
      obtain ⟨xs', u', e1, e2⟩ := hst
      rw [hsp.out] at e1
      obtain ⟨rfl, e1⟩ := List.append_inj' e1 rfl
      obtain rfl : u = u' := by simpa using e1
      have hpc : (t.drop k).take (k + 1 - k) = [q] := by
        rw [show k + 1 - k = 1 by omega, List.take_one, List.head?_drop, hq]
        rfl
      have hst2 := Lib.hid e2
      clear hsp hq e1 e2 hcat
      have hcat := Bs_append
      by_cases h32 : q = 32
      · have ht1 : ((q.toNat : Int) == 32) = true := by rw [h32]; rfl
        rw [if_pos h32] at hst2
        clear h32 hset hcell hfr
        go_wp2_with (first
          | (at_builtin
             refine wpList_app1 (w := w) tStr rfl (.tmp 16) (.tmp 17) rfl rfl hown rfl rfl ?_ ?_ hb ?_ ?_
             · omega
             · omega
             · exact hb.size
             intro v' w' h2 hb2 _ _))
        go_roundw
        case rel => exact ⟨k + 1, by omega, by go_num, xs ++ [u], [], hst2, by rw [List.length_append, List.length_singleton]; omega, by simp, by rw [strs_append, List.length_append]; exact h2, hb2⟩
        case measure => simp [RowKit.intOf]; omega
      · have ht1 : ((q.toNat : Int) == 32) = false := by
          rw [beq_eq_false_iff_ne]
          intro e
          exact h32 (UInt8.toNat_inj.1 (by simpa using (by omega : q.toNat = 32)))
        rw [if_neg h32] at hst2
        clear h32 hown
        have hex2 := (Bs_extract t k (k + 1)).trans (by rw [hpc])
        go_wp2
        go_region
        all_goals go_wp2
        go_roundw
        case rel => exact ⟨k + 1, by omega, by go_num, xs, u ++ [q], hst2, by omega, by rw [List.length_append, List.length_singleton]; omega, hset _, (hb.setCell hg _).trans (bdrewB _ _)⟩
        case measure => simp [RowKit.intOf]; omega
    · obtain rfl : k = t.length := by omega
      rw [List.take_length] at hsp
      clear hset hcell hfr
      go_wp2
      go_ret
      rw [hsp.out]
      exact ⟨⟨_, rfl, by rw [strs_append, List.length_append]; exact hown⟩, hb⟩
end Go.Proofs.YtmakpilfjopmeaaDoor
