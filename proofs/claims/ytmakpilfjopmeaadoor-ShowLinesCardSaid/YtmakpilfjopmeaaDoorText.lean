/- Pure text: runs of bytes, words, lists of words; no program in sight. -/
import Derived.Lib.Join
import Derived.Lib.ItoaNum
import Derived.Lib.ItoaLen
import Derived.Lib.Repeat
import Derived.Lib.Split
import Derived.Lib.IndexMore
import Derived.Lib.IndexBytes
import Derived.Lib.AtoiAll
import Derived.Lib.AtoiAllCases
import Derived.Lib.JoinLaws
set_option linter.unusedVariables false
set_option linter.unusedSimpArgs false
namespace Go.Proofs.YtmakpilfjopmeaaDoor
open Go Go.Lib

theorem repeatL_one (c : UInt8) (n : Nat) : repeatL [c] n = List.replicate n c := by
  induction n with
  | zero => rfl
  | succ n ih => simp [repeatL, ih, List.replicate_succ]


/-- How many bytes side by side are alike with the first one. -/
def lead (c : UInt8) : List UInt8 → Nat
  | [] => 0
  | x :: l => if x = c then lead c l + 1 else 0
def longL : List UInt8 → Nat
  | [] => 1
  | c :: l => lead c l + 1
theorem lead_le (c : UInt8) (l : List UInt8) : lead c l ≤ l.length := by
  induction l with
  | nil => simp [lead]
  | cons x l ih => simp only [lead, List.length_cons]; split <;> omega
theorem longL_le (c : UInt8) (l : List UInt8) : longL (c :: l) ≤ (c :: l).length := by
  have := lead_le c l
  simp only [longL, List.length_cons]
  omega
theorem lead_in {c : UInt8} {l : List UInt8} : ∀ {k : Nat}, k < lead c l → l[k]? = some c := by
  induction l with
  | nil => intro k h; simp [lead] at h
  | cons x l ih =>
    intro k h
    simp only [lead] at h
    split at h
    · rename_i e
      subst e
      cases k with
      | zero => rfl
      | succ k => exact ih (by omega)
    · omega
theorem lead_out {c : UInt8} {l : List UInt8} {q : UInt8} (h : l[lead c l]? = some q) : q ≠ c := by
  induction l with
  | nil => simp at h
  | cons x l ih =>
    simp only [lead] at h
    split at h
    · exact ih h
    · rename_i e
      simp at h
      rw [← h]
      exact e
theorem longL_in {c : UInt8} {l : List UInt8} {k : Nat} (h1 : 1 ≤ k) (h : k < longL (c :: l)) : (c :: l)[k]? = some c := by
  obtain ⟨j, rfl⟩ : ∃ j, k = j + 1 := ⟨k - 1, by omega⟩
  simp only [longL] at h
  have := lead_in (c := c) (l := l) (k := j) (by omega)
  simpa using this
theorem longL_out {c : UInt8} {l : List UInt8} {q : UInt8} (h : (c :: l)[longL (c :: l)]? = some q) : q ≠ c := lead_out h


/-- The bytes of a text, each with how many of it stand side by side. -/
def rle : List UInt8 → List (UInt8 × Nat)
  | [] => []
  | c :: l => (c, longL (c :: l)) :: rle ((c :: l).drop (longL (c :: l)))
termination_by l => l.length
decreasing_by
  simp [longL]
  omega
theorem rle_cons (c : UInt8) (l : List UInt8) : rle (c :: l) = (c, longL (c :: l)) :: rle ((c :: l).drop (longL (c :: l))) := by rw [rle]


def hexDigit (n : Nat) : UInt8 := [48, 49, 50, 51, 52, 53, 54, 55, 56, 57, 97, 98, 99, 100, 101, 102].getD n 0

theorem rle_props (n : Nat) : ∀ l : List UInt8, l.length ≤ n → (rle l).length ≤ l.length ∧ ∀ (k : Nat) (x : UInt8 × Nat), (rle l)[k]? = some x → x.2 ≤ l.length := by
  induction n with
  | zero =>
    intro l hl
    obtain rfl : l = [] := List.eq_nil_of_length_eq_zero (by omega)
    rw [rle]
    exact ⟨Nat.le_refl _, fun k x h => by simp at h⟩
  | succ n ih =>
    intro l hl
    cases l with
    | nil =>
      rw [rle]
      exact ⟨Nat.le_refl _, fun k x h => by simp at h⟩
    | cons c l =>
      have h1 := longL_le c l
      have h0 : 1 ≤ longL (c :: l) := by simp [longL]
      have hd : ((c :: l).drop (longL (c :: l))).length = (c :: l).length - longL (c :: l) := List.length_drop ..
      obtain ⟨a, b⟩ := ih ((c :: l).drop (longL (c :: l))) (by omega)
      rw [rle_cons]
      refine ⟨by rw [List.length_cons]; omega, fun k x h => ?_⟩
      cases k with
      | zero => simp at h; rw [← h]; exact h1
      | succ k => rw [List.getElem?_cons_succ] at h; have := b k x h; omega
theorem rle_sum (l : List UInt8) (k : Nat) (x : UInt8 × Nat) (h : (rle l)[k]? = some x) : x.2 ≤ l.length := (rle_props l.length l (Nat.le_refl _)).2 k x h
theorem rle_length_le (l : List UInt8) : (rle l).length ≤ l.length := (rle_props l.length l (Nat.le_refl _)).1

/-- A byte, and how many of it, as a word. -/
def runWord (x : UInt8 × Nat) : List UInt8 := hexDigit (x.1.toNat / 16) :: hexDigit (x.1.toNat % 16) :: (if 1 < x.2 then 42 :: itoa x.2 else [])
theorem joinTail_len (xs : List (List UInt8)) (m : Nat) (h : ∀ x ∈ xs, x.length ≤ m) : (joinTail [32] xs).length ≤ xs.length * (m + 1) := by
  induction xs with
  | nil => simp [joinTail]
  | cons x xs ih =>
    have h1 := h x (List.mem_cons_self ..)
    have h2 := ih (fun y hy => h y (List.mem_cons_of_mem _ hy))
    have e : joinTail [32] (x :: xs) = 32 :: x ++ joinTail [32] xs := by simp [joinTail]
    rw [e, List.length_cons, Nat.succ_mul]
    simp
    omega
theorem join_len (xs : List (List UInt8)) (m : Nat) (h : ∀ x ∈ xs, x.length ≤ m) : (join xs [32]).length ≤ xs.length * (m + 1) := by
  cases xs with
  | nil => simp [join_nil]
  | cons x xs =>
    have h1 := h x (List.mem_cons_self ..)
    have h2 := joinTail_len xs m (fun y hy => h y (List.mem_cons_of_mem _ hy))
    rw [join_cons, List.length_append, List.length_cons, Nat.succ_mul]
    omega
def shortL (l : List UInt8) : List UInt8 := if l.length = 64 then join ((rle l).map runWord) [32] else []


end Go.Proofs.YtmakpilfjopmeaaDoor
