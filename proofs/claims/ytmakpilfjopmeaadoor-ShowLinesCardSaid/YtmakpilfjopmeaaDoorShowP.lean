/- Pure text: an answer as a line, and what two readers make of a line; no program in sight. -/
import Derived.Test.YtmakpilfjopmeaaDoorNum
set_option linter.unusedVariables false
set_option linter.unusedSimpArgs false
namespace Go.Proofs.YtmakpilfjopmeaaDoor
open Go Go.Lib

structure Ans where
  why : Int
  n : Int
  m : Int
  data : List UInt8
  list : List Int
def I64 (n : Int) : Prop := -9223372036854775808 ≤ n ∧ n ≤ 9223372036854775807
theorem I64_mk {n : Int} (h0 : -9223372036854775808 ≤ n) (h1 : n ≤ 9223372036854775807) : I64 n := ⟨h0, h1⟩
structure Ans.Ok (x : Ans) : Prop where
  why : I64 x.why
  n : I64 x.n
  m : I64 x.m
  list : ∀ v ∈ x.list, I64 v
structure Ans.Valid (x : Ans) : Prop where
  ok : x.Ok
  why0 : 0 ≤ x.why
  why1 : x.why ≤ 22
  data : x.data = [] ∨ x.data.length = 64
  list : x.list.length ≤ 60
def Ans.zero : Ans := ⟨0, 0, 0, [], []⟩

def wWhy : List UInt8 := [119, 104, 121]
def wN : List UInt8 := [110]
def wM : List UInt8 := [109]
def wData : List UInt8 := [100, 97, 116, 97]
def wList : List UInt8 := [108, 105, 115, 116]
def sepL : List UInt8 := [32, 108, 105, 115, 116, 32]

def secN (x : Ans) : List (List UInt8) := if x.n = 0 then [] else [wN, itoa x.n]
def secM (x : Ans) : List (List UInt8) := if x.m = 0 then [] else [wM, itoa x.m]
def secD (x : Ans) : List (List UInt8) := if x.data = [] then [] else wData :: (rle x.data).map runWord
def secS (x : Ans) : List (List UInt8) := if x.data = [] then [] else [wData, shortL x.data]
def secL (x : Ans) : List (List UInt8) := if x.list = [] then [] else wList :: x.list.map itoa
def wordsA (x : Ans) : List (List UInt8) := [wWhy, itoa x.why] ++ (secN x ++ (secM x ++ (secD x ++ secL x)))
def lineA (x : Ans) : List UInt8 := join (wordsA x) [32]

theorem short_join {l : List UInt8} (h : l.length = 64) : shortL l = join ((rle l).map runWord) [32] := by unfold shortL; exact if_pos h
theorem runs_ne {l : List UInt8} (h : l.length = 64) : (rle l).map runWord ≠ [] := fun e => rle_ne l (by omega) (List.map_eq_nil_iff.1 e)
/-- The line that the program joins. -/
theorem line_prog (x : Ans) (h : x.data = [] ∨ x.data.length = 64) : join ([wWhy, itoa x.why] ++ (secN x ++ (secM x ++ (secS x ++ secL x)))) [32] = lineA x := by
  unfold lineA wordsA
  by_cases hd : x.data = []
  · simp only [secS, secD, hd, if_true]
  · have h64 : x.data.length = 64 := h.resolve_left hd
    simp only [secS, secD, if_neg hd]
    have e := join_in ([wWhy, itoa x.why] ++ (secN x ++ (secM x ++ [wData]))) ((rle x.data).map runWord) (secL x) 32 (runs_ne h64)
    rw [← short_join h64] at e
    simpa using e
theorem joinTail_two (a b : List UInt8) : joinTail [32] [a, b] = [32] ++ a ++ ([32] ++ b) := by simp [joinTail]
theorem joinTail_join (ws : List (List UInt8)) (h : ws ≠ []) : joinTail [32] ws = [32] ++ join ws [32] := by
  cases ws with
  | nil => exact absurd rfl h
  | cons w ws => rw [join_cons]; simp [joinTail]
theorem join_add (a b : List (List UInt8)) (h : a ≠ []) : join (a ++ b) [32] = join a [32] ++ joinTail [32] b := by
  cases a with
  | nil => exact absurd rfl h
  | cons x a => rw [List.cons_append, join_cons, join_cons, joinTail_app, List.append_assoc]
/-- The line as one text behind the other. -/
def lineR (x : Ans) : List UInt8 :=
  [119, 104, 121, 32] ++ itoa x.why ++ (if x.n = 0 then [] else [32, 110, 32] ++ itoa x.n) ++ (if x.m = 0 then [] else [32, 109, 32] ++ itoa x.m) ++
    (if x.data = [] then [] else [32, 100, 97, 116, 97, 32] ++ shortL x.data) ++ (if x.list = [] then [] else [32, 108, 105, 115, 116]) ++ joinTail [32] (x.list.map itoa)
theorem line_ref (x : Ans) (h : x.data = [] ∨ x.data.length = 64) : lineR x = lineA x := by
  unfold lineA wordsA lineR
  rw [join_add _ _ (by simp), joinTail_app, joinTail_app, joinTail_app, join_two, join_one]
  have hn : joinTail [32] (secN x) = if x.n = 0 then [] else [32, 110, 32] ++ itoa x.n := by
    unfold secN; split <;> simp [joinTail, wN]
  have hm : joinTail [32] (secM x) = if x.m = 0 then [] else [32, 109, 32] ++ itoa x.m := by
    unfold secM; split <;> simp [joinTail, wM]
  have hd : joinTail [32] (secD x) = if x.data = [] then [] else [32, 100, 97, 116, 97, 32] ++ shortL x.data := by
    unfold secD
    split
    · rfl
    · rename_i hne
      have h64 := h.resolve_left hne
      rw [short_join h64, show wData :: (rle x.data).map runWord = [wData] ++ (rle x.data).map runWord from rfl, joinTail_app, joinTail_join _ (runs_ne h64)]
      simp [joinTail, wData]
  have hl : joinTail [32] (secL x) = (if x.list = [] then [] else [32, 108, 105, 115, 116]) ++ joinTail [32] (x.list.map itoa) := by
    unfold secL
    split
    · rename_i e; rw [e]; rfl
    · simp [joinTail, wList]
  rw [hn, hm, hd, hl]
  simp [wWhy]

theorem words_free (x : Ans) : ∀ w ∈ wordsA x, (32 : UInt8) ∉ w := by
  intro w hw
  have i := fun n => itoa_free n 32 (by decide)
  simp only [wordsA, List.mem_append, List.mem_cons, List.not_mem_nil, or_false] at hw
  rcases hw with (rfl | rfl) | hw | hw | hw | hw
  · decide
  · exact i _
  · unfold secN at hw; split at hw
    · simp at hw
    · simp at hw; rcases hw with rfl | rfl; decide; exact i _
  · unfold secM at hw; split at hw
    · simp at hw
    · simp at hw; rcases hw with rfl | rfl; decide; exact i _
  · unfold secD at hw; split at hw
    · simp at hw
    · simp only [List.mem_cons, List.mem_map] at hw
      rcases hw with rfl | ⟨y, _, rfl⟩
      · decide
      · exact runWord_free y
  · unfold secL at hw; split at hw
    · simp at hw
    · simp only [List.mem_cons, List.mem_map] at hw
      rcases hw with rfl | ⟨y, _, rfl⟩
      · decide
      · exact i _
theorem line_split (x : Ans) : splitL 32 (lineA x) = wordsA x := splitL_join 32 _ (by simp [wordsA]) (words_free x)

/-! ### the program's reader -/
noncomputable def fin (x : Ans) (d : List (List UInt8)) : Ans := { x with data := unshort (join d [32]) }
noncomputable def guessGo : Nat → List (List UInt8) → Ans → List (List UInt8) → Ans
  | 0, _, x, _ => x
  | k + 1, l, x, d =>
    match l with
    | [] => fin x d
    | [_] => fin x d
    | name :: a :: r =>
      if name = wWhy then guessGo k r { x with why := atoiL a } d
      else if name = wN then guessGo k r { x with n := atoiL a } d
      else if name = wM then guessGo k r { x with m := atoiL a } d
      else if name = wData then guessGo k ((a :: r).dropWhile (· ≠ wList)) x (d ++ (a :: r).takeWhile (· ≠ wList))
      else if name = wList then fin { x with list := x.list ++ (a :: r).map atoiL } d
      else fin x d
noncomputable def guessW (ws : List (List UInt8)) : Ans := guessGo (ws.length + 6) ws Ans.zero []

theorem gg_end (k : Nat) (x : Ans) (d : List (List UInt8)) : guessGo (k + 1) [] x d = fin x d := by simp only [guessGo]
theorem gg_one (k : Nat) (w : List UInt8) (x : Ans) (d : List (List UInt8)) : guessGo (k + 1) [w] x d = fin x d := by simp only [guessGo]
theorem gg_why (k : Nat) (a : List UInt8) (r : List (List UInt8)) (x : Ans) (d : List (List UInt8)) : guessGo (k + 1) (wWhy :: a :: r) x d = guessGo k r { x with why := atoiL a } d := by
  simp only [guessGo]; rw [if_pos trivial]
theorem gg_n (k : Nat) (a : List UInt8) (r : List (List UInt8)) (x : Ans) (d : List (List UInt8)) : guessGo (k + 1) (wN :: a :: r) x d = guessGo k r { x with n := atoiL a } d := by
  simp only [guessGo]; rw [if_neg (by decide), if_pos trivial]
theorem gg_m (k : Nat) (a : List UInt8) (r : List (List UInt8)) (x : Ans) (d : List (List UInt8)) : guessGo (k + 1) (wM :: a :: r) x d = guessGo k r { x with m := atoiL a } d := by
  simp only [guessGo]; rw [if_neg (by decide), if_neg (by decide), if_pos trivial]
theorem gg_data (k : Nat) (a : List UInt8) (r : List (List UInt8)) (x : Ans) (d : List (List UInt8)) :
    guessGo (k + 1) (wData :: a :: r) x d = guessGo k ((a :: r).dropWhile (· ≠ wList)) x (d ++ (a :: r).takeWhile (· ≠ wList)) := by
  simp only [guessGo]; rw [if_neg (by decide), if_neg (by decide), if_neg (by decide), if_pos trivial]
theorem gg_list (k : Nat) (a : List UInt8) (r : List (List UInt8)) (x : Ans) (d : List (List UInt8)) : guessGo (k + 1) (wList :: a :: r) x d = fin { x with list := x.list ++ (a :: r).map atoiL } d := by
  simp only [guessGo]; rw [if_neg (by decide), if_neg (by decide), if_neg (by decide), if_neg (by decide), if_pos trivial]
theorem gg_other (k : Nat) (name a : List UInt8) (r : List (List UInt8)) (x : Ans) (d : List (List UInt8)) (h1 : name ≠ wWhy) (h2 : name ≠ wN) (h3 : name ≠ wM) (h4 : name ≠ wData) (h5 : name ≠ wList) :
    guessGo (k + 1) (name :: a :: r) x d = fin x d := by
  simp only [guessGo]; rw [if_neg h1, if_neg h2, if_neg h3, if_neg h4, if_neg h5]

theorem run_not_list (y : UInt8 × Nat) : runWord y ≠ wList := fun e => by
  have h := congrArg (fun l : List UInt8 => l[0]?) e
  have a : ∀ k, k < 16 → hexDigit k ≠ 108 := by decide
  have := a (y.1.toNat / 16) (by have := y.1.toNat_lt; omega)
  simp [runWord, wList] at h
  exact this h
theorem takeWhile_app {α : Type} (p : α → Bool) : ∀ (a b : List α), (∀ x ∈ a, p x = true) → (∀ x, b.head? = some x → p x = false) → (a ++ b).takeWhile p = a ∧ (a ++ b).dropWhile p = b
  | [], [], _, _ => ⟨rfl, rfl⟩
  | [], y :: b, _, h => by
    have := h y rfl
    simp [this]
  | x :: a, b, ha, hb => by
    obtain ⟨h1, h2⟩ := takeWhile_app p a b (fun y hy => ha y (List.mem_cons_of_mem _ hy)) hb
    have := ha x (List.mem_cons_self ..)
    simp [this, h1, h2]
theorem map_atoi (l : List Int) (h : ∀ v ∈ l, I64 v) : (l.map itoa).map atoiL = l := by
  induction l with
  | nil => rfl
  | cons v l ih =>
    obtain ⟨a, b⟩ := h v (List.mem_cons_self ..)
    simp only [List.map_cons]
    rw [atoiL_itoa v a b, ih (fun u hu => h u (List.mem_cons_of_mem _ hu))]
/-- A line is read as the answer that it is of. -/
theorem guess_line (y : Ans) (hy : y.Valid) : guessW (splitL 32 (lineA y)) = y := by
  rw [line_split]
  unfold guessW
  generalize (wordsA y).length = K
  unfold wordsA
  rw [show K + 6 = (K + 5) + 1 from rfl]
  rw [show [wWhy, itoa y.why] ++ (secN y ++ (secM y ++ (secD y ++ secL y))) = wWhy :: itoa y.why :: (secN y ++ (secM y ++ (secD y ++ secL y))) from rfl, gg_why, atoiL_itoa _ hy.ok.why.1 hy.ok.why.2]
  have stepN : ∀ (k : Nat) (L : List (List UInt8)) (x : Ans), x.n = 0 → ∃ k', k ≤ k' ∧ guessGo (k + 1) (secN y ++ L) x [] = guessGo k' L { x with n := y.n } [] := by
    intro k L x hx
    unfold secN
    split
    · rename_i h
      exact ⟨k + 1, by omega, by rw [h, ← hx]; rfl⟩
    · exact ⟨k, Nat.le_refl _, by rw [show [wN, itoa y.n] ++ L = wN :: itoa y.n :: L from rfl, gg_n, atoiL_itoa _ hy.ok.n.1 hy.ok.n.2]⟩
  have stepM : ∀ (k : Nat) (L : List (List UInt8)) (x : Ans), x.m = 0 → ∃ k', k ≤ k' ∧ guessGo (k + 1) (secM y ++ L) x [] = guessGo k' L { x with m := y.m } [] := by
    intro k L x hx
    unfold secM
    split
    · rename_i h
      exact ⟨k + 1, by omega, by rw [h, ← hx]; rfl⟩
    · exact ⟨k, Nat.le_refl _, by rw [show [wM, itoa y.m] ++ L = wM :: itoa y.m :: L from rfl, gg_m, atoiL_itoa _ hy.ok.m.1 hy.ok.m.2]⟩
  have hfin : ∀ (d : List (List UInt8)), ((y.data = [] ∧ d = []) ∨ (y.data.length = 64 ∧ d = (rle y.data).map runWord)) → unshort (join d [32]) = y.data := by
    rintro d (⟨h, rfl⟩ | ⟨h, rfl⟩)
    · rw [h, join_nil]
      rcases unshort_is [] with ⟨_, h1, h2⟩ | ⟨_, h1, _⟩
      · exact absurd h2 (short_ne _ h1)
      · exact h1
    · rw [← short_join h]
      exact (unshort_short _ h).1
  have stepL : ∀ (k : Nat) (x : Ans) (d : List (List UInt8)), x.list = [] → ((y.data = [] ∧ d = []) ∨ (y.data.length = 64 ∧ d = (rle y.data).map runWord)) → guessGo (k + 1) (secL y) x d = { x with data := y.data, list := y.list } := by
    intro k x d hx hd
    unfold secL
    split
    · rename_i h
      rw [gg_end, h, ← hx]
      unfold fin
      rw [hfin d hd]
    · rename_i h
      cases hl : y.list with
      | nil => exact absurd hl h
      | cons v l =>
        rw [List.map_cons, gg_list, ← List.map_cons, map_atoi (v :: l) (by rw [← hl]; exact hy.ok.list), hx]
        unfold fin
        rw [hfin d hd, List.nil_append]
  obtain ⟨k1, hk1, e1⟩ := stepN (K + 4) (secM y ++ (secD y ++ secL y)) { Ans.zero with why := y.why } rfl
  rw [e1]
  obtain ⟨k1, rfl⟩ : ∃ j, k1 = j + 1 := ⟨k1 - 1, by omega⟩
  obtain ⟨k2, hk2, e2⟩ := stepM k1 (secD y ++ secL y) { Ans.zero with why := y.why, n := y.n } rfl
  rw [e2]
  obtain ⟨k2, rfl⟩ : ∃ j, k2 = j + 2 := ⟨k2 - 2, by omega⟩
  by_cases hd : y.data = []
  · have e : secD y = [] := by unfold secD; exact if_pos hd
    rw [e, List.nil_append, show k2 + 2 = (k2 + 1) + 1 from rfl, stepL _ _ _ rfl (.inl ⟨hd, rfl⟩)]
  · have h64 := hy.data.resolve_left hd
    have e : secD y = wData :: (rle y.data).map runWord := by unfold secD; exact if_neg hd
    rw [e]
    cases hr : (rle y.data).map runWord with
    | nil => exact absurd hr (runs_ne h64)
    | cons a r =>
      have hall : ∀ w ∈ a :: r, (decide (w ≠ wList)) = true := by
        intro w hw
        rw [← hr] at hw
        obtain ⟨z, _, rfl⟩ := List.mem_map.1 hw
        exact decide_eq_true (run_not_list z)
      obtain ⟨h1, h2⟩ := takeWhile_app (fun w => decide (w ≠ wList)) (a :: r) (secL y) hall (fun w hw => by
        unfold secL at hw
        split at hw
        · simp at hw
        · simp at hw; rw [← hw]; decide)
      rw [show (wData :: a :: r) ++ secL y = wData :: a :: (r ++ secL y) from rfl, show k2 + 2 = (k2 + 1) + 1 from rfl, gg_data]
      rw [← List.cons_append, h1, h2, List.nil_append, stepL _ _ _ rfl (.inr ⟨h64, hr.symm⟩)]

/-- What 'Parse' answers at a line. -/
def IsAns (t : List UInt8) (y : Ans) (e : Int) : Prop := (e = 0 ∧ y.Valid ∧ lineA y = t) ∨ (e = 6 ∧ y = Ans.zero ∧ ∀ x : Ans, x.Valid → lineA x ≠ t)
theorem line_inj {x y : Ans} (hx : x.Valid) (hy : y.Valid) (h : lineA x = lineA y) : x = y := by
  rw [← guess_line x hx, h, guess_line y hy]
theorem IsAns.unique {t : List UInt8} {x y : Ans} {e f : Int} (h : IsAns t x e) (k : IsAns t y f) : x = y ∧ e = f := by
  rcases h with ⟨rfl, hx, hs⟩ | ⟨rfl, rfl, hn⟩ <;> rcases k with ⟨rfl, hy, hs'⟩ | ⟨rfl, rfl, hn'⟩
  · exact ⟨line_inj hx hy (hs.trans hs'.symm), rfl⟩
  · exact absurd hs (hn' x hx)
  · exact absurd hs' (hn y hy)
  · exact ⟨rfl, rfl⟩
theorem isAns_ex (t : List UInt8) : ∃ y e, IsAns t y e := by
  by_cases h : ∃ x : Ans, x.Valid ∧ lineA x = t
  · obtain ⟨x, hx, hs⟩ := h
    exact ⟨x, 0, .inl ⟨rfl, hx, hs⟩⟩
  · exact ⟨_, 6, .inr ⟨rfl, rfl, fun x hx hs => h ⟨x, hx, hs⟩⟩⟩
/-- A reader that reads each answer's line as it is, and looks whether the line is told again. -/
theorem isAns_of_guess {t : List UInt8} {x : Ans} (hg : ∀ y : Ans, y.Valid → lineA y = t → x = y) : (x.Valid ∧ lineA x = t → IsAns t x 0) ∧ (¬ (x.Valid ∧ lineA x = t) → IsAns t Ans.zero 6) :=
  ⟨fun ⟨h1, h2⟩ => .inl ⟨rfl, h1, h2⟩, fun h => .inr ⟨rfl, rfl, fun y hy hs => h (by rw [hg y hy hs]; exact ⟨hy, hs⟩)⟩⟩

/-! ### the reference's reader -/
def listGo : Nat → List UInt8 → List Int → List Int × List UInt8
  | 0, r, acc => (acc, r)
  | k + 1, r, acc => if r = [] then (acc, []) else listGo k (wordL r).2 (acc ++ [numberL (wordL r).1])
noncomputable def secGo : Nat → List UInt8 → Ans → Ans
  | 0, _, x => x
  | k + 1, rest, x =>
    if rest = [] then x
    else if (wordL rest).1 = wN then secGo k (wordL (wordL rest).2).2 { x with n := numberL (wordL (wordL rest).2).1 }
    else if (wordL rest).1 = wM then secGo k (wordL (wordL rest).2).2 { x with m := numberL (wordL (wordL rest).2).1 }
    else if (wordL rest).1 = wData then
      secGo k (if (cut (wordL rest).2 sepL).2.1 = [] then [] else [108, 105, 115, 116, 32] ++ (cut (wordL rest).2 sepL).2.1) { x with data := unshort (cut (wordL rest).2 sepL).1 }
    else if (wordL rest).1 = wList then secGo k (listGo 61 (wordL rest).2 x.list).2 { x with list := (listGo 61 (wordL rest).2 x.list).1 }
    else x
noncomputable def refGuess (t : List UInt8) : Ans := secGo 4 (wordL (wordL t).2).2 { Ans.zero with why := numberL (wordL (wordL t).2).1 }

theorem sg_end (k : Nat) (x : Ans) : secGo k [] x = x := by cases k <;> simp [secGo]
theorem join_cons_ne (w : List UInt8) (ws : List (List UInt8)) (h : w ≠ []) : join (w :: ws) [32] ≠ [] := by
  rw [join_cons]; exact fun e => h (List.append_eq_nil_iff.1 e).1
theorem sg_n (k : Nat) (a : List UInt8) (r : List (List UInt8)) (x : Ans) (h : (32 : UInt8) ∉ a) : secGo (k + 1) (join (wN :: a :: r) [32]) x = secGo k (join r [32]) { x with n := numberL a } := by
  simp only [secGo]
  rw [if_neg (join_cons_ne _ _ (by decide)), wordL_join wN _ (by decide), if_pos (by rfl), wordL_join a _ h]
theorem sg_m (k : Nat) (a : List UInt8) (r : List (List UInt8)) (x : Ans) (h : (32 : UInt8) ∉ a) : secGo (k + 1) (join (wM :: a :: r) [32]) x = secGo k (join r [32]) { x with m := numberL a } := by
  simp only [secGo]
  rw [if_neg (join_cons_ne _ _ (by decide)), wordL_join wM _ (by decide)]
  dsimp only
  rw [if_neg (by decide), if_pos (by rfl), wordL_join a _ h]
theorem listGo_join (l : List Int) (hl : ∀ v ∈ l, I64 v) : ∀ (k : Nat) (acc : List Int), l.length ≤ k → listGo k (join (l.map itoa) [32]) acc = (acc ++ l, []) := by
  induction l with
  | nil =>
    intro k acc _
    rw [List.map_nil, join_nil, List.append_nil]
    cases k <;> simp [listGo]
  | cons v l ih =>
    intro k acc hk
    obtain ⟨k, rfl⟩ : ∃ j, k = j + 1 := ⟨k - 1, by simp at hk; omega⟩
    obtain ⟨a, b⟩ := hl v (List.mem_cons_self ..)
    simp only [listGo, List.map_cons]
    rw [if_neg (join_cons_ne _ _ (itoa_ne v)), wordL_join _ _ (itoa_free v 32 (by decide)), ih (fun u hu => hl u (List.mem_cons_of_mem _ hu)) k _ (by simp at hk; omega), numberL_itoa v a b, List.append_assoc]
    rfl
/-- Where " list " is first found behind a text in which no 'l' is. -/
theorem cut_list (a b : List UInt8) (ha : (108 : UInt8) ∉ a) : cut (a ++ sepL ++ b) sepL = (a, b, true) := by
  have hi : index (a ++ sepL ++ b) sepL = a.length := by
    refine index_first (by simp) ?_ ?_
    · unfold occAt
      rw [List.append_assoc, List.drop_left']
      · rw [List.isPrefixOf_iff_prefix]
        exact List.prefix_append _ _
      · rfl
    · intro j hj
      unfold occAt
      rw [Bool.eq_false_iff]
      intro h
      rw [List.isPrefixOf_iff_prefix] at h
      obtain ⟨t, ht⟩ := h
      have h1 := congrArg (fun l : List UInt8 => l[1]?) ht
      simp only [sepL, List.cons_append, List.getElem?_cons_succ, List.getElem?_cons_zero, List.getElem?_drop] at h1
      rw [List.append_assoc] at h1
      by_cases e : j + 1 < a.length
      · rw [List.getElem?_append_left e] at h1
        exact ha (List.mem_of_getElem? h1.symm)
      · have e2 : j + 1 = a.length := by omega
        rw [List.getElem?_append_right (by omega), e2, Nat.sub_self] at h1
        simp at h1
  unfold cut
  rw [hi, if_pos (by omega), Int.toNat_natCast]
  have e1 : (a ++ sepL ++ b).take a.length = a := by rw [List.append_assoc]; exact List.take_left' rfl
  have e2 : (a ++ sepL ++ b).drop (a.length + sepL.length) = b := List.drop_left' (by simp)
  rw [e1, e2]
theorem cut_nolist (a : List UInt8) (ha : (108 : UInt8) ∉ a) : cut a sepL = (a, [], false) := by
  have hi : index a sepL = -1 := by
    refine index_none fun j hj => ?_
    unfold occAt
    rw [Bool.eq_false_iff]
    intro h
    rw [List.isPrefixOf_iff_prefix] at h
    obtain ⟨t, ht⟩ := h
    have h1 := congrArg (fun l : List UInt8 => l[1]?) ht
    simp only [sepL, List.cons_append, List.getElem?_cons_succ, List.getElem?_cons_zero, List.getElem?_drop] at h1
    exact ha (List.mem_of_getElem? h1.symm)
  unfold cut
  rw [hi, if_neg (by omega)]
theorem join_free (ws : List (List UInt8)) (c : UInt8) (hc : c ≠ 32) (h : ∀ w ∈ ws, c ∉ w) : c ∉ join ws [32] := by
  induction ws with
  | nil => simp [join_nil]
  | cons w ws ih =>
    have h1 := h w (List.mem_cons_self ..)
    have h2 := ih (fun u hu => h u (List.mem_cons_of_mem _ hu))
    cases ws with
    | nil => rw [join_one]; exact h1
    | cons w' ws =>
      rw [join_two]
      simp only [List.mem_append, List.mem_cons, not_or]
      exact ⟨h1, hc, h2⟩
theorem run_no_l (y : UInt8 × Nat) : (108 : UInt8) ∉ runWord y := by
  have a : ∀ k, k < 16 → hexDigit k ≠ 108 := by decide
  have h1 := a (y.1.toNat / 16) (by have := y.1.toNat_lt; omega)
  have h2 := a (y.1.toNat % 16) (by omega)
  intro h
  simp only [runWord, List.mem_cons] at h
  rcases h with h | h | h
  · exact h1 h.symm
  · exact h2 h.symm
  · split at h
    · rcases List.mem_cons.1 h with h | h
      · exact absurd h (by decide)
      · have := itoa_nat_range y.2 108 h
        exact absurd this (by decide)
    · simp at h
/-- A line is read as the answer that it is of. -/
theorem ref_line (y : Ans) (hy : y.Valid) : refGuess (lineA y) = y := by
  have i := fun n => itoa_free n 32 (by decide)
  unfold refGuess lineA wordsA
  rw [show [wWhy, itoa y.why] ++ (secN y ++ (secM y ++ (secD y ++ secL y))) = wWhy :: itoa y.why :: (secN y ++ (secM y ++ (secD y ++ secL y))) from rfl, wordL_join wWhy _ (by decide)]
  dsimp only
  rw [wordL_join _ _ (i _)]
  dsimp only
  rw [numberL_itoa _ hy.ok.why.1 hy.ok.why.2]
  have stepN : ∀ (k : Nat) (L : List (List UInt8)) (x : Ans), x.n = 0 → ∃ k', k ≤ k' ∧ secGo (k + 1) (join (secN y ++ L) [32]) x = secGo k' (join L [32]) { x with n := y.n } := by
    intro k L x hx
    unfold secN
    split
    · rename_i h
      exact ⟨k + 1, by omega, by rw [h, ← hx]; rfl⟩
    · exact ⟨k, Nat.le_refl _, by rw [show [wN, itoa y.n] ++ L = wN :: itoa y.n :: L from rfl, sg_n _ _ _ _ (i _), numberL_itoa _ hy.ok.n.1 hy.ok.n.2]⟩
  have stepM : ∀ (k : Nat) (L : List (List UInt8)) (x : Ans), x.m = 0 → ∃ k', k ≤ k' ∧ secGo (k + 1) (join (secM y ++ L) [32]) x = secGo k' (join L [32]) { x with m := y.m } := by
    intro k L x hx
    unfold secM
    split
    · rename_i h
      exact ⟨k + 1, by omega, by rw [h, ← hx]; rfl⟩
    · exact ⟨k, Nat.le_refl _, by rw [show [wM, itoa y.m] ++ L = wM :: itoa y.m :: L from rfl, sg_m _ _ _ _ (i _), numberL_itoa _ hy.ok.m.1 hy.ok.m.2]⟩
  have stepL : ∀ (k : Nat) (x : Ans), x.list = [] → secGo (k + 1) (join (secL y) [32]) x = { x with list := y.list } := by
    intro k x hx
    unfold secL
    split
    · rename_i h
      rw [join_nil, sg_end, h, ← hx]
    · rename_i h
      simp only [secGo]
      rw [if_neg (join_cons_ne _ _ (by decide)), wordL_join wList _ (by decide)]
      dsimp only
      rw [if_neg (by decide), if_neg (by decide), if_neg (by decide), if_pos (by rfl)]
      rw [listGo_join y.list hy.ok.list 61 x.list (by have := hy.list; omega), hx, List.nil_append, sg_end]
  obtain ⟨k1, hk1, e1⟩ := stepN 3 (secM y ++ (secD y ++ secL y)) { Ans.zero with why := y.why } rfl
  rw [e1]
  obtain ⟨k1, rfl⟩ : ∃ j, k1 = j + 1 := ⟨k1 - 1, by omega⟩
  obtain ⟨k2, hk2, e2⟩ := stepM k1 (secD y ++ secL y) { Ans.zero with why := y.why, n := y.n } rfl
  rw [e2]
  obtain ⟨k2, rfl⟩ : ∃ j, k2 = j + 2 := ⟨k2 - 2, by omega⟩
  by_cases hd : y.data = []
  · have e : secD y = [] := by unfold secD; exact if_pos hd
    rw [e, List.nil_append, show k2 + 2 = (k2 + 1) + 1 from rfl, stepL _ _ rfl]
    obtain ⟨a, b, c, d, f⟩ := y
    simp only at hd
    subst hd
    rfl
  · have h64 := hy.data.resolve_left hd
    have e : secD y = wData :: (rle y.data).map runWord := by unfold secD; exact if_neg hd
    have hno : (108 : UInt8) ∉ join ((rle y.data).map runWord) [32] := join_free _ _ (by decide) (fun w hw => by
      obtain ⟨z, _, rfl⟩ := List.mem_map.1 hw
      exact run_no_l z)
    have hlong : unshort (join ((rle y.data).map runWord) [32]) = y.data := by rw [← short_join h64]; exact (unshort_short _ h64).1
    rw [e, show k2 + 2 = (k2 + 1) + 1 from rfl, List.cons_append]
    rw [show secGo (k2 + 1 + 1) (join (wData :: ((rle y.data).map runWord ++ secL y)) [32]) { Ans.zero with why := y.why, n := y.n, m := y.m } =
      secGo (k2 + 1) (if (cut (join ((rle y.data).map runWord ++ secL y) [32]) sepL).2.1 = [] then [] else [108, 105, 115, 116, 32] ++ (cut (join ((rle y.data).map runWord ++ secL y) [32]) sepL).2.1) { Ans.zero with why := y.why, n := y.n, m := y.m, data := unshort (cut (join ((rle y.data).map runWord ++ secL y) [32]) sepL).1 } from by
        rw [secGo]
        rw [if_neg (join_cons_ne _ _ (by decide)), wordL_join wData _ (by decide)]
        dsimp only
        rw [if_neg (by decide), if_neg (by decide), if_pos (by rfl)]]
    by_cases hl : y.list = []
    · have el : secL y = [] := by unfold secL; exact if_pos hl
      rw [el, List.append_nil, cut_nolist _ hno]
      dsimp only
      rw [if_pos (by rfl), sg_end, hlong]
      obtain ⟨a, b, c, d, f⟩ := y
      simp only at hl
      subst hl
      rfl
    · have el : secL y = wList :: y.list.map itoa := by unfold secL; exact if_neg hl
      have hne : y.list.map itoa ≠ [] := fun q => hl (List.map_eq_nil_iff.1 q)
      have hne2 : join (y.list.map itoa) [32] ≠ [] := join_ne _ (fun w hw => by
        obtain ⟨z, _, rfl⟩ := List.mem_map.1 hw
        exact itoa_ne z) hne
      have ej : join ((rle y.data).map runWord ++ secL y) [32] = join ((rle y.data).map runWord) [32] ++ sepL ++ join (y.list.map itoa) [32] := by
        rw [join_app _ _ _ (runs_ne h64) (by rw [el]; simp), el]
        cases hm : y.list.map itoa with
        | nil => exact absurd hm hne
        | cons u us =>
          rw [join_two]
          simp [wList, sepL]
      have eb : [108, 105, 115, 116, 32] ++ join (y.list.map itoa) [32] = join (secL y) [32] := by
        rw [el]
        cases hm : y.list.map itoa with
        | nil => exact absurd hm hne
        | cons u us =>
          rw [join_two]
          simp [wList]
      rw [ej, cut_list _ _ hno]
      dsimp only
      rw [if_neg hne2, eb, stepL _ _ rfl, hlong]
end Go.Proofs.YtmakpilfjopmeaaDoor
