/- Pure text, third part: what a reader makes of a word that should be a number; the first word of a text; joined words taken apart. -/
import Derived.Test.YtmakpilfjopmeaaDoorText2
import Derived.Lib.ParseIntBTie
import Derived.Lib.ItoaLen
import Derived.RowKit
set_option linter.unusedVariables false
set_option linter.unusedSimpArgs false
namespace Go.Proofs.YtmakpilfjopmeaaDoor
open Go Go.Lib Go.RowKit

/-! ### numbers read back -/
def numStep (n : Int) (c : UInt8) : Int := (n * 10 + ((c.toNat : Int) - 48) % 256) % 18446744073709551616
def numRaw (l : List UInt8) : Int := l.foldl numStep 0
/-- What the reference reads. -/
def numberL (l : List UInt8) : Int :=
  if l.head? = some 45 then wrap64 ((-(numRaw ((l.take 20).drop 1))) % 18446744073709551616) else wrap64 (numRaw (l.take 20))
/-- What the program reads. -/
def atoiL (l : List UInt8) : Int := match atoiAll l with | .ok v => v | _ => 0
theorem numStep_range (n : Int) (c : UInt8) : 0 ≤ numStep n c ∧ numStep n c < 18446744073709551616 := by unfold numStep; omega
theorem numRaw_range (l : List UInt8) : 0 ≤ numRaw l ∧ numRaw l < 18446744073709551616 := by
  have h : ∀ (l : List UInt8) (n : Int), 0 ≤ n ∧ n < 18446744073709551616 → 0 ≤ l.foldl numStep n ∧ l.foldl numStep n < 18446744073709551616 := by
    intro l
    induction l with
    | nil => intro n h; exact h
    | cons c l ih => intro n _; exact ih _ (numStep_range n c)
  exact h l 0 (by omega)
theorem numRaw_snoc (l : List UInt8) (c : UInt8) : numRaw (l ++ [c]) = numStep (numRaw l) c := by simp [numRaw]
theorem numRaw_dec (u : Nat) (h : u < 18446744073709551616) : numRaw (decDigits u) = u := by
  induction u using Nat.strongRecOn with
  | _ u ih =>
    rw [decDigits]
    split
    · have e : (UInt8.ofNat (48 + u)).toNat = 48 + u := by rw [UInt8.toNat_ofNat']; omega
      simp only [numRaw, List.foldl_cons, List.foldl_nil, numStep, e]
      omega
    · have e : (UInt8.ofNat (48 + u % 10)).toNat = 48 + u % 10 := by rw [UInt8.toNat_ofNat']; omega
      rw [numRaw_snoc, ih (u / 10) (by omega) (by omega)]
      simp only [numStep, e]
      omega
theorem dec_len (k : Nat) : ∀ u : Nat, u < 10 ^ (k + 1) → (decDigits u).length ≤ k + 1 := by
  induction k with
  | zero =>
    intro u h
    rw [decDigits]
    have : u < 10 := by simpa using h
    rw [dif_pos this]
    simp
  | succ k ih =>
    intro u h
    rw [decDigits]
    split
    · simp
    · have := ih (u / 10) (by
        rw [Nat.div_lt_iff_lt_mul (by omega)]
        rwa [Nat.pow_succ] at h)
      simp
      omega
theorem dec_len19 (u : Nat) (h : u ≤ 9223372036854775808) : (decDigits u).length ≤ 19 := dec_len 18 u (by
  have : (10 : Nat) ^ (18 + 1) = 10000000000000000000 := by decide
  omega)
theorem dec_head (u : Nat) : (decDigits u).head? ≠ some 45 := fun e => by
  cases hd : decDigits u with
  | nil => rw [hd] at e; simp at e
  | cons c r =>
    rw [hd] at e
    have := decDigits_range u c (by rw [hd]; exact List.mem_cons_self ..)
    simp at e
    rw [e] at this
    exact absurd this (by decide)
theorem itoa_len20 (n : Int) (h0 : -9223372036854775808 ≤ n) (h1 : n ≤ 9223372036854775807) : (itoa n).length ≤ 20 := by
  unfold itoa
  split
  · have := dec_len19 n.natAbs (by omega)
    simp
    omega
  · have := dec_len19 n.toNat (by omega)
    omega
theorem numberL_itoa (n : Int) (h0 : -9223372036854775808 ≤ n) (h1 : n ≤ 9223372036854775807) : numberL (itoa n) = n := by
  have hl := itoa_len20 n h0 h1
  unfold numberL
  rw [List.take_of_length_le hl]
  unfold itoa
  split
  · have e : numRaw ((45 :: decDigits n.natAbs).drop 1) = n.natAbs := numRaw_dec _ (by omega)
    rw [if_pos (by rfl), e]
    unfold wrap64
    omega
  · rw [if_neg (dec_head _), numRaw_dec _ (by omega)]
    unfold wrap64
    omega
theorem numberL_range (l : List UInt8) : -9223372036854775808 ≤ numberL l ∧ numberL l ≤ 9223372036854775807 := by
  unfold numberL
  split <;> unfold wrap64 <;> omega
theorem atoiL_itoa (n : Int) (h0 : -9223372036854775808 ≤ n) (h1 : n ≤ 9223372036854775807) : atoiL (itoa n) = n := by
  unfold atoiL
  rw [atoiAll_itoa n h0 h1]
theorem atoiL_range (l : List UInt8) : -9223372036854775808 ≤ atoiL l ∧ atoiL l ≤ 9223372036854775807 := by
  unfold atoiL
  split
  · rename_i v h
    exact atoiAll_bounds h
  · omega
theorem itoa_free (n : Int) (c : UInt8) (h : c.toNat < 45) : c ∉ itoa n := fun hc => by
  unfold itoa at hc
  split at hc
  · rcases List.mem_cons.1 hc with rfl | hc
    · exact absurd h (by decide)
    · have := decDigits_range _ c hc; omega
  · have := decDigits_range _ c hc; omega
theorem itoa_ne (n : Int) : itoa n ≠ [] := by
  unfold itoa
  split
  · simp
  · exact decDigits_ne _

/-! ### words -/
/-- The first word of a text, and what is behind the blank behind it. -/
def wordL (l : List UInt8) : List UInt8 × List UInt8 := ((cut l [32]).1, (cut l [32]).2.1)
theorem wordL_free (l : List UInt8) (h : (32 : UInt8) ∉ l) : wordL l = (l, []) := by unfold wordL; rw [cut_miss _ _ h]
theorem wordL_hit (w r : List UInt8) (h : (32 : UInt8) ∉ w) : wordL (w ++ 32 :: r) = (w, r) := by unfold wordL; rw [cut_hit _ _ _ h]
theorem join_two (w w' : List UInt8) (ws : List (List UInt8)) (c : UInt8) : join (w :: w' :: ws) [c] = w ++ c :: join (w' :: ws) [c] := by
  rw [join_cons, join_cons]
  simp [joinTail]
theorem wordL_join (w : List UInt8) (ws : List (List UInt8)) (h : (32 : UInt8) ∉ w) : wordL (join (w :: ws) [32]) = (w, join ws [32]) := by
  cases ws with
  | nil => rw [join_one, wordL_free _ h, join_nil]
  | cons w' ws => rw [join_two, wordL_hit _ _ h]
theorem wordL_at {l : List UInt8} {i : Nat} (hi : l[i]? = some 32) (hn : ∀ j, j < i → l[j]? ≠ some 32) : wordL l = (l.take i, l.drop (i + 1)) := by
  have hlt := (List.getElem?_eq_some_iff.1 hi).1
  have hm : (32 : UInt8) ∉ l.take i := fun hc => by
    obtain ⟨j, hj⟩ := List.mem_iff_getElem?.1 hc
    have hj2 : j < i := by
      have := (List.getElem?_eq_some_iff.1 hj).1
      rw [List.length_take] at this
      omega
    rw [List.getElem?_take, if_pos hj2] at hj
    exact hn j hj2 hj
  have e : l = l.take i ++ 32 :: l.drop (i + 1) := by
    have h2 : l[i] = 32 := (List.getElem?_eq_some_iff.1 hi).2
    rw [← h2, List.getElem_cons_drop, List.take_append_drop]
  have := wordL_hit (l.take i) (l.drop (i + 1)) hm
  rw [← e] at this
  exact this
theorem wordL_none {l : List UInt8} (hn : ∀ j, j < l.length → l[j]? ≠ some 32) : wordL l = (l, []) := wordL_free l fun hc => by
  obtain ⟨j, hj⟩ := List.mem_iff_getElem?.1 hc
  exact hn j (List.getElem?_eq_some_iff.1 hj).1 hj
theorem wordL_len (l : List UInt8) : (wordL l).1.length ≤ l.length ∧ (wordL l).2.length ≤ l.length := by
  unfold wordL cut
  split <;> simp [List.length_take, List.length_drop] <;> omega
theorem wordL_lt (l : List UInt8) (h : l ≠ []) : (wordL l).2.length < l.length := by
  have hl : 0 < l.length := List.length_pos_iff.2 h
  unfold wordL cut
  split
  · simp [List.length_drop]
    omega
  · simpa using hl
theorem joinTail_app (sep : List UInt8) (a b : List (List UInt8)) : joinTail sep (a ++ b) = joinTail sep a ++ joinTail sep b := by simp [joinTail]
theorem join_app (a b : List (List UInt8)) (c : UInt8) (ha : a ≠ []) (hb : b ≠ []) : join (a ++ b) [c] = join a [c] ++ c :: join b [c] := by
  cases a with
  | nil => exact absurd rfl ha
  | cons x a =>
    cases b with
    | nil => exact absurd rfl hb
    | cons y b =>
      rw [List.cons_append, join_cons, join_cons, join_cons, joinTail_app]
      simp [joinTail]
/-- A word that is itself joined words. -/
theorem join_in (a b d : List (List UInt8)) (c : UInt8) (hb : b ≠ []) : join (a ++ join b [c] :: d) [c] = join (a ++ b ++ d) [c] := by
  have key : ∀ d, join (join b [c] :: d) [c] = join (b ++ d) [c] := by
    intro d
    cases d with
    | nil => rw [join_one, List.append_nil]
    | cons y d => rw [join_two, join_app b (y :: d) c hb (by simp)]
  cases a with
  | nil => exact key d
  | cons x a =>
    rw [join_app (x :: a) (join b [c] :: d) c (by simp) (by simp), key, List.append_assoc, join_app (x :: a) (b ++ d) c (by simp) (by simp [hb])]
/-- A text that is read anew from what a first word and the rest are. -/
theorem join_ne (ws : List (List UInt8)) (h : ∀ w ∈ ws, w ≠ []) (hn : ws ≠ []) : join ws [32] ≠ [] := by
  cases ws with
  | nil => exact absurd rfl hn
  | cons w ws =>
    rw [join_cons]
    have := h w (List.mem_cons_self ..)
    intro e
    exact this (List.append_eq_nil_iff.1 e).1
/-- A text is a sector's short one, or of none. -/
noncomputable def unshort (t : List UInt8) : List UInt8 := by
  classical
  exact if h : ∃ x : List UInt8, x.length = 64 ∧ shortL x = t then Classical.choose h else []
noncomputable def unshortE (t : List UInt8) : Int := if unshort t = [] then 6 else 0
theorem unshort_is (t : List UInt8) : IsLong t (unshort t) (unshortE t) := by
  classical
  by_cases h : ∃ x : List UInt8, x.length = 64 ∧ shortL x = t
  · have e : unshort t = Classical.choose h := by unfold unshort; exact dif_pos h
    have hs := Classical.choose_spec h
    have hne : unshort t ≠ [] := fun q => by rw [e] at q; rw [q] at hs; simp at hs
    refine .inl ⟨by unfold unshortE; exact if_neg hne, by rw [e]; exact hs.1, by rw [e]; exact hs.2⟩
  · have e : unshort t = [] := by unfold unshort; exact dif_neg h
    refine .inr ⟨by unfold unshortE; exact if_pos e, e, fun x hx hq => h ⟨x, hx, hq⟩⟩
theorem unshort_short (x : List UInt8) (h : x.length = 64) : unshort (shortL x) = x ∧ unshortE (shortL x) = 0 := IsLong.unique (unshort_is (shortL x)) (.inl ⟨rfl, h, rfl⟩)
theorem unshort_len (t : List UInt8) : unshort t = [] ∨ (unshort t).length = 64 := by
  rcases unshort_is t with ⟨_, h, _⟩ | ⟨_, h, _⟩
  · exact .inr h
  · exact .inl h
theorem is_unshort {t y : List UInt8} {e : Int} (h : IsLong t y e) : y = unshort t ∧ e = unshortE t := h.unique (unshort_is t)
end Go.Proofs.YtmakpilfjopmeaaDoor
