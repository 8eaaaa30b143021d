/- Pure text, second part: decimal numerals read back; a text split at a byte; the short text of a sector names it. -/
import Derived.Test.YtmakpilfjopmeaaDoorText
import Derived.Lib.CountLaws
set_option linter.unusedVariables false
set_option linter.unusedSimpArgs false
namespace Go.Proofs.YtmakpilfjopmeaaDoor
open Go Go.Lib

/-! ### numerals -/

theorem decDigits_range (u : Nat) : ∀ c ∈ decDigits u, 48 ≤ c.toNat ∧ c.toNat ≤ 57 := by
  induction u using Nat.strongRecOn with
  | _ u ih =>
    intro c hc
    rw [decDigits] at hc
    split at hc
    · rename_i h
      rw [List.mem_singleton] at hc
      subst hc
      rw [UInt8.toNat_ofNat']
      omega
    · rename_i h
      rw [List.mem_append] at hc
      rcases hc with hc | hc
      · exact ih (u / 10) (by omega) c hc
      · rw [List.mem_singleton] at hc
        subst hc
        rw [UInt8.toNat_ofNat']
        omega
theorem parseUint10_append (l : List UInt8) : ∀ (acc v : Nat) (r : List UInt8), parseUint10 acc l = .ok v → parseUint10 acc (l ++ r) = parseUint10 v r := by
  induction l with
  | nil => intro acc v r h; simp only [parseUint10] at h; injection h with h; subst h; rfl
  | cons c l ih =>
    intro acc v r h
    simp only [parseUint10, List.cons_append] at h ⊢
    by_cases hc : 48 ≤ c.toNat ∧ c.toNat ≤ 57
    · rw [if_pos hc] at h ⊢
      by_cases h1 : 1844674407370955162 ≤ acc
      · rw [if_pos h1] at h; cases h
      · rw [if_neg h1] at h ⊢
        by_cases h2 : 18446744073709551616 ≤ acc * 10 + (c.toNat - 48)
        · rw [if_pos h2] at h; cases h
        · rw [if_neg h2] at h ⊢
          exact ih _ _ _ h
    · rw [if_neg hc] at h; cases h
theorem parseUint10_dec (u : Nat) (h : u < 18446744073709551616) : parseUint10 0 (decDigits u) = .ok u := by
  induction u using Nat.strongRecOn with
  | _ u ih =>
    rw [decDigits]
    split
    · rename_i hlt
      have e : (UInt8.ofNat (48 + u)).toNat = 48 + u := by rw [UInt8.toNat_ofNat']; omega
      simp only [parseUint10, e]
      rw [if_pos (by omega), if_neg (by omega), if_neg (by omega)]
      congr 1
      omega
    · rename_i hge
      rw [parseUint10_append _ _ _ _ (ih (u / 10) (by omega) (by omega))]
      have e : (UInt8.ofNat (48 + u % 10)).toNat = 48 + u % 10 := by rw [UInt8.toNat_ofNat']; omega
      simp only [parseUint10, e]
      rw [if_pos (by omega), if_neg (by omega), if_neg (by omega)]
      congr 1
      omega
theorem decDigits_ne (u : Nat) : decDigits u ≠ [] := by
  rw [decDigits]
  split <;> simp
theorem parseMag_dec (u : Nat) (h : u < 18446744073709551616) : parseMag (decDigits u) = .ok u := by
  unfold parseMag
  rw [if_neg (decDigits_ne u), parseUint10_dec u h]
/-- What is told of an int is read back. -/
theorem atoiAll_itoa (n : Int) (h0 : -9223372036854775808 ≤ n) (h1 : n ≤ 9223372036854775807) : atoiAll (itoa n) = .ok n := by
  unfold itoa
  split
  · rename_i h
    rw [atoiAll_minus, parseMag_dec _ (by omega)]
    simp only [signed]
    rw [if_neg (by omega)]
    congr 1
    omega
  · rename_i h
    have hr := decDigits_range n.toNat
    have hp := parseMag_dec n.toNat (by omega)
    cases hd : decDigits n.toNat with
    | nil => exact absurd hd (decDigits_ne _)
    | cons c r =>
      have hc := hr c (by rw [hd]; exact List.mem_cons_self ..)
      rw [hd] at hp
      rw [atoiAll_plain c r (by omega) (by omega), hp]
      simp only [signless]
      rw [if_neg (by omega)]
      congr 1
      omega

/-! ### a text split at one byte -/
def splitL (c : UInt8) : List UInt8 → List (List UInt8)
  | [] => [[]]
  | x :: l => if x = c then [] :: splitL c l else
    match splitL c l with
    | [] => [[x]]
    | w :: ws => (x :: w) :: ws
theorem splitL_ne (c : UInt8) (l : List UInt8) : splitL c l ≠ [] := by
  cases l with
  | nil => simp [splitL]
  | cons x l =>
    simp only [splitL]
    split
    · simp
    · split <;> simp
theorem splitL_free (c : UInt8) (w : List UInt8) (h : c ∉ w) : splitL c w = [w] := by
  induction w with
  | nil => rfl
  | cons x w ih =>
    simp only [List.mem_cons, not_or] at h
    simp only [splitL]
    rw [if_neg (fun e => h.1 e.symm), ih h.2]
theorem splitL_hit (c : UInt8) (w r : List UInt8) (h : c ∉ w) : splitL c (w ++ c :: r) = w :: splitL c r := by
  induction w with
  | nil => simp [splitL]
  | cons x w ih =>
    simp only [List.mem_cons, not_or] at h
    simp only [List.cons_append, splitL]
    rw [if_neg (fun e => h.1 e.symm), ih h.2]
theorem splitL_join (c : UInt8) (ws : List (List UInt8)) (hne : ws ≠ []) (h : ∀ w ∈ ws, c ∉ w) : splitL c (join ws [c]) = ws := by
  induction ws with
  | nil => exact absurd rfl hne
  | cons w ws ih =>
    have hw := h w (List.mem_cons_self ..)
    cases ws with
    | nil => rw [join_one]; exact splitL_free c w hw
    | cons w' ws =>
      have e : join (w :: w' :: ws) [c] = w ++ c :: join (w' :: ws) [c] := by
        rw [join_cons, join_cons]
        simp [joinTail]
      rw [e, splitL_hit c w _ hw, ih (by simp) (fun x hx => h x (List.mem_cons_of_mem _ hx))]
theorem indexByte_free (c : UInt8) (w : List UInt8) (h : c ∉ w) : indexByte w c = -1 := by
  induction w with
  | nil => rfl
  | cons x w ih =>
    simp only [List.mem_cons, not_or] at h
    simp only [indexByte]
    rw [if_neg (by simp; exact fun e => h.1 e.symm), ih h.2]
    rfl
theorem indexByte_at (c : UInt8) (w r : List UInt8) (h : c ∉ w) : indexByte (w ++ c :: r) c = w.length := by
  induction w with
  | nil => simp [indexByte]
  | cons x w ih =>
    simp only [List.mem_cons, not_or] at h
    simp only [List.cons_append, indexByte]
    rw [if_neg (by simp; exact fun e => h.1 e.symm), ih h.2, if_neg (by simp)]
    simp
theorem free_or_at (c : UInt8) (l : List UInt8) : c ∉ l ∨ ∃ w r, l = w ++ c :: r ∧ c ∉ w := by
  induction l with
  | nil => exact .inl (by simp)
  | cons x l ih =>
    by_cases e : x = c
    · subst e
      exact .inr ⟨[], l, rfl, by simp⟩
    · rcases ih with h | ⟨w, r, rfl, h⟩
      · exact .inl (by simp only [List.mem_cons, not_or]; exact ⟨fun q => e q.symm, h⟩)
      · exact .inr ⟨x :: w, r, rfl, by simp only [List.mem_cons, not_or]; exact ⟨fun q => e q.symm, h⟩⟩
theorem splitK_eq (c : UInt8) : ∀ (n : Nat) (l : List UInt8), l.length < n → splitK [c] 0 (count l [c]) l = splitL c l := by
  intro n
  induction n with
  | zero => intro l h; omega
  | succ n ih =>
    intro l h
    rcases free_or_at c l with hf | ⟨w, r, rfl, hw⟩
    · have hi : index l [c] = -1 := by rw [index_one, indexByte_free c l hf]
      rw [splitL_free c l hf]
      have hc : count l [c] = 0 := count_miss hi
      rw [hc]
      rfl
    · have hi : index (w ++ c :: r) [c] = (w.length : Nat) := by rw [index_one, indexByte_at c w r hw]
      have hc : count (w ++ c :: r) [c] = 1 + count r [c] := by
        have := countB_hit ⟨(w ++ c :: r).toArray⟩ ⟨#[c]⟩ w.length (by simp [ByteArray.size]) hi
        have e2 : ((⟨(w ++ c :: r).toArray⟩ : ByteArray).extract (w.length + (⟨#[c]⟩ : ByteArray).size) (⟨(w ++ c :: r).toArray⟩ : ByteArray).size).data.toList = r := by
          rw [extract_data]
          simp [ByteArray.size]
          exact List.take_of_length_le (by omega)
        simp only [countB, e2] at this
        exact this
      rw [hc, Nat.add_comm, splitL_hit c w r hw]
      simp only [splitK, hi]
      rw [if_neg (by simp)]
      simp only [Int.toNat_natCast, Nat.add_zero, List.length_singleton]
      rw [show (w ++ c :: r).take w.length = w from List.take_left' rfl]
      rw [show (w ++ c :: r).drop (w.length + 1) = r from by rw [List.drop_append]; simp]
      rw [ih r (by simp at h; omega)]

/-! ### words of sectors -/
theorem hexDigit_free (k : Nat) (h : k < 16) : hexDigit k ≠ 32 ∧ hexDigit k ≠ 42 := by
  have e : ∀ k, k < 16 → hexDigit k ≠ 32 ∧ hexDigit k ≠ 42 := by decide
  exact e k h
theorem hexDigit_index (k : Nat) (h : k < 16) : indexByte [48, 49, 50, 51, 52, 53, 54, 55, 56, 57, 97, 98, 99, 100, 101, 102] (hexDigit k) = k := by
  have e : ∀ k, k < 16 → indexByte [48, 49, 50, 51, 52, 53, 54, 55, 56, 57, 97, 98, 99, 100, 101, 102] (hexDigit k) = k := by decide
  exact e k h
theorem itoa_nat_range (n : Nat) : ∀ c ∈ itoa (n : Int), 48 ≤ c.toNat ∧ c.toNat ≤ 57 := by
  unfold itoa
  rw [if_neg (by omega), Int.toNat_natCast]
  exact decDigits_range n
theorem itoa_nat_free (n : Nat) (c : UInt8) (h : c.toNat < 48) : c ∉ itoa (n : Int) := fun hc => by
  have := itoa_nat_range n c hc
  omega
theorem runWord_free (x : UInt8 × Nat) : (32 : UInt8) ∉ runWord x := by
  have a := hexDigit_free (x.1.toNat / 16) (by have := x.1.toNat_lt; omega)
  have b := hexDigit_free (x.1.toNat % 16) (by omega)
  have c := itoa_nat_free x.2 32 (by decide)
  simp only [runWord, List.mem_cons, not_or]
  refine ⟨Ne.symm a.1, Ne.symm b.1, ?_⟩
  split
  · simp only [List.mem_cons, not_or]
    exact ⟨by decide, c⟩
  · simp
theorem runWord_pair (x : UInt8 × Nat) : runWord x = [hexDigit (x.1.toNat / 16), hexDigit (x.1.toNat % 16)] ++ (if 1 < x.2 then 42 :: itoa x.2 else []) := rfl
theorem cut_hit (c : UInt8) (w r : List UInt8) (h : c ∉ w) : cut (w ++ c :: r) [c] = (w, r, true) := by
  unfold cut
  rw [index_one, indexByte_at c w r h, if_pos (by omega), Int.toNat_natCast]
  simp [List.take_left', List.drop_append]
theorem cut_miss (c : UInt8) (w : List UInt8) (h : c ∉ w) : cut w [c] = (w, [], false) := by
  unfold cut
  rw [index_one, indexByte_free c w h, if_neg (by omega)]
theorem cut_run (x : UInt8 × Nat) : cut (runWord x) [42] = ([hexDigit (x.1.toNat / 16), hexDigit (x.1.toNat % 16)], (if 1 < x.2 then itoa x.2 else []), decide (1 < x.2)) := by
  have a := hexDigit_free (x.1.toNat / 16) (by have := x.1.toNat_lt; omega)
  have b := hexDigit_free (x.1.toNat % 16) (by omega)
  have hf : (42 : UInt8) ∉ [hexDigit (x.1.toNat / 16), hexDigit (x.1.toNat % 16)] := by
    simp only [List.mem_cons, not_or, List.not_mem_nil, not_false_eq_true, and_true]
    exact ⟨Ne.symm a.2, Ne.symm b.2⟩
  rw [runWord_pair]
  by_cases h : 1 < x.2
  · rw [if_pos h, cut_hit _ _ _ hf, if_pos h, decide_eq_true h]
  · rw [if_neg h, List.append_nil, cut_miss _ _ hf, if_neg h, decide_eq_false h]
def expand (xs : List (UInt8 × Nat)) : List UInt8 := xs.flatMap fun x => List.replicate x.2 x.1
theorem expand_cons (x : UInt8 × Nat) (xs : List (UInt8 × Nat)) : expand (x :: xs) = List.replicate x.2 x.1 ++ expand xs := by simp [expand]
theorem expand_append (xs ys : List (UInt8 × Nat)) : expand (xs ++ ys) = expand xs ++ expand ys := by simp [expand]
theorem lead_take (c : UInt8) (l : List UInt8) : l.take (lead c l) = List.replicate (lead c l) c := by
  induction l with
  | nil => simp [lead]
  | cons x l ih =>
    simp only [lead]
    split
    · rename_i e
      subst e
      simp [ih, List.replicate_succ]
    · simp
theorem rle_expand (n : Nat) : ∀ l : List UInt8, l.length ≤ n → expand (rle l) = l ∧ ∀ x ∈ rle l, 1 ≤ x.2 := by
  induction n with
  | zero =>
    intro l hl
    obtain rfl : l = [] := List.eq_nil_of_length_eq_zero (by omega)
    rw [rle]
    exact ⟨rfl, by simp⟩
  | succ n ih =>
    intro l hl
    cases l with
    | nil => rw [rle]; exact ⟨rfl, by simp⟩
    | cons c l =>
      have hd : ((c :: l).drop (longL (c :: l))).length ≤ n := by simp [longL] at hl ⊢; omega
      obtain ⟨a, b⟩ := ih _ hd
      rw [rle_cons, expand_cons, a]
      refine ⟨?_, fun x hx => ?_⟩
      · simp only [longL, List.drop_succ_cons, List.replicate_succ, List.cons_append]
        rw [← lead_take, List.take_append_drop]
      · rcases List.mem_cons.1 hx with rfl | hx
        · simp [longL]
        · exact b x hx
theorem rle_ne (l : List UInt8) (h : 0 < l.length) : rle l ≠ [] := by
  cases l with
  | nil => simp at h
  | cons c l => rw [rle_cons]; simp
theorem short_split (l : List UInt8) (h : l.length = 64) : splitL 32 (shortL l) = (rle l).map runWord := by
  unfold shortL
  rw [if_pos h]
  exact splitL_join 32 _ (by simp [rle_ne l (by omega)]) (fun w hw => by
    simp only [List.mem_map] at hw
    obtain ⟨x, _, rfl⟩ := hw
    exact runWord_free x)
theorem short_ne (l : List UInt8) (h : l.length = 64) : shortL l ≠ [] := fun e => by
  have h1 := short_split l h
  rw [e] at h1
  have h2 := rle_ne l (by omega)
  cases hr : rle l with
  | nil => exact h2 hr
  | cons x xs =>
    rw [hr] at h1
    simp [splitL, runWord] at h1
theorem hex_inj (a b : Nat) (ha : a < 16) (hb : b < 16) (h : hexDigit a = hexDigit b) : a = b := by
  have h1 := hexDigit_index a ha
  have h2 := hexDigit_index b hb
  rw [h] at h1
  omega
theorem runWord_inj {x y : UInt8 × Nat} (hx : 1 ≤ x.2) (hy : 1 ≤ y.2) (hx' : x.2 ≤ 1000000) (hy' : y.2 ≤ 1000000) (h : runWord x = runWord y) : x = y := by
  have h1 := cut_run x
  rw [h, cut_run y] at h1
  simp only [Prod.mk.injEq, List.cons.injEq, and_true] at h1
  obtain ⟨⟨ha, hb⟩, hn, hd⟩ := h1
  have xl := x.1.toNat_lt
  have yl := y.1.toNat_lt
  have ea := hex_inj _ _ (by omega) (by omega) ha
  have eb := hex_inj _ _ (by omega) (by omega) hb
  have e1 : x.1 = y.1 := UInt8.toNat_inj.1 (by omega)
  have e2 : x.2 = y.2 := by
    have hd' : (1 < y.2) ↔ (1 < x.2) := by simpa using hd
    by_cases h1 : 1 < x.2
    · rw [if_pos (hd'.2 h1), if_pos h1] at hn
      have a := atoiAll_itoa (x.2 : Int) (by omega) (by omega)
      have b := atoiAll_itoa (y.2 : Int) (by omega) (by omega)
      rw [hn, a] at b
      injection b with b
      omega
    · have : ¬ 1 < y.2 := fun q => h1 (hd'.1 q)
      omega
  exact Prod.ext e1 e2
theorem map_inj {α β : Type} {f : α → β} : ∀ {xs ys : List α}, (∀ x ∈ xs, ∀ y ∈ ys, f x = f y → x = y) → xs.map f = ys.map f → xs = ys
  | [], [], _, _ => rfl
  | [], _ :: _, _, h => by simp at h
  | _ :: _, [], _, h => by simp at h
  | x :: xs, y :: ys, hf, h => by
    simp only [List.map_cons, List.cons.injEq] at h
    rw [hf x (List.mem_cons_self ..) y (List.mem_cons_self ..) h.1, map_inj (fun a ha b hb => hf a (List.mem_cons_of_mem _ ha) b (List.mem_cons_of_mem _ hb)) h.2]
theorem short_inj {a b : List UInt8} (ha : a.length = 64) (hb : b.length = 64) (h : shortL a = shortL b) : a = b := by
  have h1 := short_split a ha
  rw [h, short_split b hb] at h1
  obtain ⟨ea, pa⟩ := rle_expand a.length a (Nat.le_refl _)
  obtain ⟨eb, pb⟩ := rle_expand b.length b (Nat.le_refl _)
  have e : rle b = rle a := map_inj (fun x hx y hy hxy => by
    obtain ⟨k, hk⟩ := List.mem_iff_getElem?.1 hx
    obtain ⟨m, hm⟩ := List.mem_iff_getElem?.1 hy
    have := rle_sum b k x hk
    have := rle_sum a m y hm
    exact runWord_inj (pb x hx) (pa y hy) (by omega) (by omega) hxy) h1
  rw [← ea, ← eb, e]

/-- What 'Long' answers at a text: the sector whose short text it is; or that it is none. -/
def IsLong (t y : List UInt8) (e : Int) : Prop := (e = 0 ∧ y.length = 64 ∧ shortL y = t) ∨ (e = 6 ∧ y = [] ∧ ∀ x, x.length = 64 → shortL x ≠ t)
theorem IsLong.unique {t y z : List UInt8} {e f : Int} (h : IsLong t y e) (k : IsLong t z f) : y = z ∧ e = f := by
  rcases h with ⟨rfl, hy, hs⟩ | ⟨rfl, rfl, hn⟩ <;> rcases k with ⟨rfl, hz, hs'⟩ | ⟨rfl, rfl, hn'⟩
  · exact ⟨short_inj hy hz (hs.trans hs'.symm), rfl⟩
  · exact absurd hs (hn' y hy)
  · exact absurd hs' (hn z hz)
  · exact ⟨rfl, rfl⟩
end Go.Proofs.YtmakpilfjopmeaaDoor
