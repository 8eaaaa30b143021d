/- Walks of the reference of law 05: Short. -/
import Derived.Test.YtmakpilfjopmeaaDoorRef5c
set_option linter.unusedVariables false
set_option linter.unusedSimpArgs false
namespace Go.Proofs.YtmakpilfjopmeaaDoor
open Go Go.RowKit Go.Lib Go.Shelf
attribute [local go_sem] Oper.semAt_some

theorem bdrewNB (B : Nat) (w : World) (n : Nat) : Below B w (w.drewN n) := ⟨rfl, rfl, rfl, Nat.le_refl _, fun _ _ => rfl⟩
theorem decDigits_small : ∀ n : Nat, n < 65 → (decDigits n).length ≤ 2 := by decide +kernel
theorem joinTail_append (sep : List UInt8) (a b : List (List UInt8)) : joinTail sep (a ++ b) = joinTail sep a ++ joinTail sep b := by simp [joinTail]
theorem join_snoc (sep x : List UInt8) (a : List (List UInt8)) (h : a ≠ []) : join (a ++ [x]) sep = join a sep ++ (sep ++ x) := by
  cases a with
  | nil => exact absurd rfl h
  | cons y a =>
    rw [List.cons_append, join_cons, join_cons, joinTail_append, List.append_assoc]
    simp [joinTail]
theorem runWord_len (c : UInt8) (n : Nat) (h : n ≤ 64) : (runWord (c, n)).length ≤ 5 := by
  unfold runWord
  simp only [List.length_cons]
  split
  · have := itoa_small n (by omega) (by omega)
    simp only [List.length_cons]
    omega
  · simp

theorem shortStep {xs : List (UInt8 × Nat)} {acc : List UInt8} {k n : Nat} {c : UInt8} (hJ : join (xs.map runWord) [32] = acc) (hk : k = 0 ↔ xs = []) :
    join ((xs ++ [(c, n)]).map runWord) [32] = (if 0 < k then acc ++ [32] else acc) ++ (hexL [c] ++ (if 1 < n then [42] ++ decDigits n else [])) := by
  have e : runWord (c, n) = hexL [c] ++ (if 1 < n then [42] ++ decDigits n else []) := by
    unfold runWord
    rw [itoa_nonneg]
    rfl
  rw [List.map_append, ← e]
  by_cases h : k = 0
  · rw [hk.1 h] at hJ ⊢
    rw [if_neg (by omega), ← hJ]
    simp [join_one, join_nil]
  · rw [if_pos (by omega), List.map_cons, List.map_nil, join_snoc _ _ _ (fun q => h (hk.2 (by simpa using q))), hJ]
    simp

set_option maxRecDepth 100000 in
set_option maxHeartbeats 2000000 in
theorem ref05_Short_right (l : List UInt8) (h64 : l.length = 64) (w : World) :
    Calls Tryd.prog 27 #[.string (Bs l)] w fun e w' => e = .returned (.string (Bs (shortL l))) ∧ Below w.heap.size w w' := by
  have hR := ref05_Right l
  simp only [h64, decide_true] at hR
  have hS := Lib.hid (show shortL l = join ((rle l).map runWord) [32] from if_pos h64)
  have h64' := Lib.hid h64
  have hsz := Bs_size
  have hnil : (⟨#[]⟩ : ByteArray) = Bs [] := rfl
  have h42 : (⟨#[42]⟩ : ByteArray) = Bs [42] := rfl
  have h32 : (⟨#[32]⟩ : ByteArray) = Bs [32] := rfl
  have hcat := Bs_append
  go_enter Tryd.func27, Tryd.ntmps27
  go_wp2_with (go_at_call 28; refine (hR _).mono ?_; rintro e w1 ⟨rfl, rfl⟩)
  go_loopw [3, 4] (fun s i wr => ∃ k : Nat, k ≤ 64 ∧ i = .int .i64 k ∧ ∃ xs : List (UInt8 × Nat), s = .string (Bs (join (xs.map runWord) [32])) ∧ Hid (rle l = xs ++ rle (l.drop k)) ∧ Hid (k = 0 ↔ xs = []) ∧ (join (xs.map runWord) [32]).length ≤ 6 * k ∧ Below w.heap.size w wr) (fun _ i _ => 64 - (RowKit.intOf i).toNat)
  case atStart => exact ⟨0, by omega, rfl, [], rfl, rfl, Lib.hid (by simp), by simp [join_nil], Below.refl _ _⟩
  case round =>
    obtain ⟨k, hk, rfl, xs, rfl, hrle, hk0, hacc, hb⟩ := hrel
    by_cases hlt : k < 64
    · obtain ⟨c, rest, hdr⟩ : ∃ c rest, l.drop k = c :: rest := by
        cases h : l.drop k with
        | nil => have := congrArg List.length h; rw [List.length_drop, h64'.out] at this; simp at this; omega
        | cons c rest => exact ⟨c, rest, rfl⟩
      have hc : l[k]? = some c := by rw [← List.head?_drop, hdr]; rfl
      have hidx := fun W => index_Bs hc W
      have hle := longL_le c rest
      rw [← hdr, List.length_drop, h64'.out] at hle
      have hn1 : 1 ≤ longL (l.drop k) := by rw [hdr]; simp [longL]
      have hin : ∀ j, 1 ≤ j → j < longL (l.drop k) → l[k + j]? = some c := fun j h1 h2 => by
        rw [← List.getElem?_drop, hdr]
        exact longL_in h1 (by rw [← hdr]; exact h2)
      have hout : ∀ q, l[k + longL (l.drop k)]? = some q → q ≠ c := fun q h => by
        rw [← List.getElem?_drop, hdr] at h
        exact longL_out h
      have hcut : rle (l.drop k) = (c, longL (l.drop k)) :: rle (l.drop (k + longL (l.drop k))) := by
        conv => lhs; rw [hdr, rle_cons, ← hdr]
        rw [List.drop_drop]
      have hex := (Bs_extract l k (k + 1)).trans (by rw [hdr, show k + 1 - k = 1 by omega]; rfl : Bs ((l.drop k).take (k + 1 - k)) = Bs [c])
      have hrle' := Lib.hid (hrle.out.trans (by rw [hcut]))
      clear hdr hc hcut hrle
      generalize longL (l.drop k) = n at *
      generalize hJ : join (xs.map runWord) [32] = acc at *
      replace hJ := Lib.hid hJ
      go_wp2
      go_loopw [5] (fun r wq => ∃ j : Nat, 1 ≤ j ∧ j ≤ n ∧ r = .int .i64 j ∧ Below w.heap.size w wq) (fun r _ => n - (RowKit.intOf r).toNat)
      case atStart => exact ⟨1, by omega, hn1, rfl, hb⟩
      case round =>
        clear hb
        obtain ⟨j, hj1, hjn, rfl, hb⟩ := hrel
        by_cases hjl : j < n
        · have d1 : decide ((k : Int) + j < 64) = true := by rw [decide_eq_true_iff]; omega
          have hi2 := fun W => index_Bs (hin j hj1 hjl) W
          simp only [Int.natCast_add] at hi2
          clear hin hout
          go_wp2
          go_quiet (fail)
          all_goals go_wp2
          go_roundw
          case rel => exact ⟨j + 1, by omega, by omega, by go_num, hb.trans (bdrewNB _ _ _)⟩
          case measure => simp [RowKit.intOf]; omega
        · obtain rfl : j = n := by omega
          have hstep := Lib.hid (shortStep (c := c) (n := j) hJ.out hk0.out)
          have hxl : (hexL [c]).length = 2 := rfl
          have hdl : (decDigits j).length ≤ 2 := decDigits_small j (by omega)
          have hD := fun W => ref04_Digits [c] (by simp) W
          have hN := fun W => ref05_Digits j (by omega) W
          have hend : (∃ q, l[k + j]? = some q ∧ q ≠ c ∧ k + j < 64) ∨ k + j = 64 := by
            rcases (by omega : k + j < 64 ∨ k + j = 64) with h | h
            · have hg : l[k + j]? = some (l[k + j]'(by rw [h64'.out]; exact h)) := List.getElem?_eq_getElem _
              exact .inl ⟨_, hg, hout _ hg, h⟩
            · exact .inr h
          clear hout hin hjl
          have hll := Lib.hid (show (join ((xs ++ [(c, j)]).map runWord) [32]).length ≤ 6 * (k + j) by
            rw [hstep.out, List.length_append, List.length_append, hxl]
            have e1 : (if 0 < k then acc ++ [32] else acc).length ≤ 6 * k + 1 := by
              split
              · rw [List.length_append, List.length_singleton]; omega
              · omega
            have e2 : (if 1 < j then [42] ++ decDigits j else []).length ≤ 3 := by
              split
              · rw [List.length_append, List.length_singleton]; omega
              · simp
            omega)
          have hrl := Lib.hid (show rle l = (xs ++ [(c, j)]) ++ rle (l.drop (k + j)) by rw [hrle'.out, List.append_assoc]; rfl)
          have hiff : Hid (k + j = 0 ↔ xs ++ [(c, j)] = []) := Lib.hid ⟨fun h => by omega, fun h => by simp at h⟩
          clear hrle' hk0 hJ
          generalize hexL [c] = hx at *
          rcases hend with ⟨q, hq, hne, hkj⟩ | hkj
          · have hi2 := fun W => index_Bs hq W
            simp only [Int.natCast_add] at hi2
            have d1 : decide ((k : Int) + j < 64) = true := by rw [decide_eq_true_iff]; omega
            have d2 : ((q.toNat : Int) == c.toNat) = false := by
              rw [beq_eq_false_iff_ne]
              intro e
              exact hne (UInt8.toNat_inj.1 (by omega))
            clear hq hne
            go_wp2
            go_quiet (fail)
            go_wp2_with (first
              | (go_at_call 54; refine (hD _).mono ?_; rintro e w1 ⟨rfl, hb1⟩)
              | (go_at_call 55; refine (hN _).mono ?_; rintro e w2 ⟨rfl, hb2⟩))
            all_goals
              refine ⟨⟨k + j, by omega, by go_num, xs ++ [(c, j)], ?_, hrl, hiff, hll.out, ?_⟩, ?_⟩
              · congr 2
                rw [hstep.out]
                rcases (by omega : (0 < k ∨ ¬ 0 < k)) with g1 | g1
                · rcases (by omega : (1 < j ∨ ¬ 1 < j)) with g2 | g2
                  · first
                    | (rw [if_pos g1, if_pos g2]; simp; done)
                    | (exfalso; omega)
                  · first
                    | (rw [if_pos g1, if_neg g2]; simp; done)
                    | (exfalso; omega)
                · rcases (by omega : (1 < j ∨ ¬ 1 < j)) with g2 | g2
                  · first
                    | (rw [if_neg g1, if_pos g2]; simp; done)
                    | (exfalso; omega)
                  · first
                    | (rw [if_neg g1, if_neg g2]; simp; done)
                    | (exfalso; omega)
              · first
                | exact bnext (bnext (bnext hb (bdrewN _ _)) hb1) hb2
                | exact bnext (bnext hb (bdrewN _ _)) hb1
              · simp [RowKit.intOf]; omega
          · have d1 : decide ((k : Int) + j < 64) = false := by rw [decide_eq_false_iff_not]; omega
            go_wp2
            go_quiet (fail)
            go_wp2_with (first
              | (go_at_call 54; refine (hD _).mono ?_; rintro e w1 ⟨rfl, hb1⟩)
              | (go_at_call 55; refine (hN _).mono ?_; rintro e w2 ⟨rfl, hb2⟩))
            all_goals
              refine ⟨⟨k + j, by omega, by go_num, xs ++ [(c, j)], ?_, hrl, hiff, hll.out, ?_⟩, ?_⟩
              · congr 2
                rw [hstep.out]
                rcases (by omega : (0 < k ∨ ¬ 0 < k)) with g1 | g1
                · rcases (by omega : (1 < j ∨ ¬ 1 < j)) with g2 | g2
                  · first
                    | (rw [if_pos g1, if_pos g2]; simp; done)
                    | (exfalso; omega)
                  · first
                    | (rw [if_pos g1, if_neg g2]; simp; done)
                    | (exfalso; omega)
                · rcases (by omega : (1 < j ∨ ¬ 1 < j)) with g2 | g2
                  · first
                    | (rw [if_neg g1, if_pos g2]; simp; done)
                    | (exfalso; omega)
                  · first
                    | (rw [if_neg g1, if_neg g2]; simp; done)
                    | (exfalso; omega)
              · first
                | exact bnext (bnext (bnext hb (bdrewN _ _)) hb1) hb2
                | exact bnext (bnext hb (bdrewN _ _)) hb1
              · simp [RowKit.intOf]; omega
    · obtain rfl : k = 64 := by omega
      have he : shortL l = join (xs.map runWord) [32] := by
        rw [hS.out, hrle.out]
        have : l.drop 64 = [] := List.drop_of_length_le (by omega)
        rw [this, rle]
        simp
      clear hacc
      go_wp2
      go_ret
      exact ⟨by rw [he]; rfl, hb⟩

theorem ref05_Short (l : List UInt8) (w : World) :
    Calls Tryd.prog 27 #[.string (Bs l)] w fun e w' => e = .returned (.string (Bs (shortL l))) ∧ Below w.heap.size w w' := by
  by_cases h : l.length = 64
  · exact ref05_Short_right l h w
  · have hR := ref05_Right l
    simp only [h, decide_false] at hR
    have e : shortL l = [] := by unfold shortL; exact if_neg h
    rw [e]
    go_enter Tryd.func27, Tryd.ntmps27
    go_wp2_with (go_at_call 28; refine (hR _).mono ?_; rintro e w1 ⟨rfl, rfl⟩)
    go_ret
    exact ⟨rfl, Below.refl _ _⟩
end Go.Proofs.YtmakpilfjopmeaaDoor
