/- Walks of the reference of law 05: Fill, Zero, Right, Digits; of the reference 04: Digits, digit, Undigits. -/
import Derived.Test.YtmakpilfjopmeaaDoorLong2
set_option linter.unusedVariables false
set_option linter.unusedSimpArgs false
namespace Go.Proofs.YtmakpilfjopmeaaDoor
open Go Go.RowKit Go.Lib Go.Shelf
attribute [local go_sem] Oper.semAt_some

theorem tByte : ElemT Tryd.prog 84 5 (.int .u8 0) 1 := ⟨Tryd.underlying84, by kernel_rfl, rfl⟩

set_option maxRecDepth 100000 in
set_option maxHeartbeats 400000 in
theorem ref05_Fill (c : UInt8) (w : World) :
    Calls Tryd.prog 82 #[.int .u8 c.toNat] w fun e w' => e = .returned (.string (Bs (List.replicate 64 c))) ∧ Below w.heap.size w w' := by
  go_enter Tryd.func82, Tryd.ntmps82
  go_wp2
  go_loopw [3, 4] (fun s i wr => ∃ k : Nat, k ≤ 64 ∧ i = .int .i64 k ∧ wr.ownsRow w.heap.size 5 1 s k (byts (List.replicate k c)) ∧ Below w.heap.size w wr) (fun _ i _ => 64 - (RowKit.intOf i).toNat)
  case atStart => exact ⟨0, by omega, rfl, World.ownsRow_nil _ _ _ _, Below.refl _ _⟩
  case round =>
    obtain ⟨k, hk, rfl, hown, hb⟩ := hrel
    obtain ⟨A, c', rfl, hcap⟩ := own_slice hown
    by_cases hlt : k < 64
    · go_wp2_with (first
        | (at_builtin
           refine wpList_app1 (w := w) tByte rfl (.tmp 9) (.tmp 11) rfl rfl hown rfl rfl ?_ ?_ hb ?_ ?_
           · omega
           · omega
           · exact hb.size
           intro v' w' h2 hb2 _ _))
      go_roundw
      case rel => exact ⟨k + 1, by omega, by go_num, by rw [List.replicate_succ', byts_append]; exact h2, hb2⟩
      case measure => simp [RowKit.intOf]; omega
    · obtain rfl : k = 64 := by omega
      have hcv := conv_str (W := wr) (l := List.replicate 64 c) c' (Rd.of_own hown)
      clear hown
      go_wp2
      go_ret
      exact ⟨rfl, hb⟩

theorem ref05_Zero (w : World) :
    Calls Tryd.prog 56 #[] w fun e w' => e = .returned (.string (Bs (List.replicate 64 0))) ∧ Below w.heap.size w w' := by
  go_enter Tryd.func56, Tryd.ntmps56
  go_wp2_with (go_at_call 82; refine (ref05_Fill 0 _).mono ?_; rintro e w1 ⟨rfl, hb⟩)
  go_ret
  exact ⟨rfl, hb⟩

theorem ref05_Right (l : List UInt8) (w : World) :
    Calls Tryd.prog 28 #[.string (Bs l)] w fun e w' => e = .returned (.bool (decide (l.length = 64))) ∧ w = w' := by
  have hs := Bs_size l
  by_cases h : l.length = 64
  · have h1 : (((l.length : Nat) : Int) == 64) = true := by simp [h]
    go_enter Tryd.func28, Tryd.ntmps28
    go_wp2
    go_ret
    exact ⟨by simp [h], rfl⟩
  · have h1 : (((l.length : Nat) : Int) == 64) = false := by simp; omega
    go_enter Tryd.func28, Tryd.ntmps28
    go_wp2
    go_ret
    exact ⟨by simp [h], rfl⟩

/-- The last digit. -/
def dch (n : Nat) : UInt8 := UInt8.ofNat (48 + n % 10)
/-- The digits of n, none for nought. -/
def digs (n : Nat) : List UInt8 := if n = 0 then [] else decDigits n
theorem digs_step (n : Nat) (h : n ≠ 0) (acc : List UInt8) : digs n ++ acc = digs (n / 10) ++ ([dch n] ++ acc) := by
  have e : digs n = decDigits n := if_neg h
  rw [e, decDigits]
  by_cases h10 : n < 10
  · rw [dif_pos h10, show n / 10 = 0 by omega]
    simp [digs, dch, Nat.mod_eq_of_lt h10]
  · rw [dif_neg h10]
    have : digs (n / 10) = decDigits (n / 10) := if_neg (by omega)
    rw [this]
    simp [dch]
theorem tenth_pow (n k : Nat) (h : n < 10 ^ (k + 1)) : n / 10 < 10 ^ k := by
  rw [Nat.div_lt_iff_lt_mul (by omega)]
  rwa [Nat.pow_succ] at h
theorem ten_slice' : ∀ r : Nat, r < 10 → (⟨#[48, 49, 50, 51, 52, 53, 54, 55, 56, 57]⟩ : ByteArray).extract r (r + 1) = Bs [UInt8.ofNat (48 + r)] := by decide
theorem ten_slice (m : Nat) : (⟨#[48, 49, 50, 51, 52, 53, 54, 55, 56, 57]⟩ : ByteArray).extract (m % 10) (m % 10 + 1) = Bs [dch m] := ten_slice' _ (by omega)

set_option maxRecDepth 100000 in
set_option maxHeartbeats 400000 in
theorem ref05_Digits (n : Nat) (hn : n < 9223372036854775808) (w : World) :
    Calls Tryd.prog 55 #[.int .i64 n] w fun e w' => e = .returned (.string (Bs (decDigits n))) ∧ Below w.heap.size w w' := by
  have hcat := Bs_append
  have hnil : (⟨#[]⟩ : ByteArray) = Bs [] := rfl
  have hsz := Bs_size
  have hp0 : Hid (n < 10 ^ 20) := Lib.hid (Nat.lt_trans hn (by decide))
  go_enter Tryd.func55, Tryd.ntmps55
  go_wp2
  go_loop [0, 3, 4] (fun t0 t3 t4 => ∃ k : Nat, k ≤ 20 ∧ t4 = .int .i64 k ∧ ∃ m : Nat, t0 = .int .i64 m ∧ ∃ acc : List UInt8, t3 = .string (Bs acc) ∧ m ≤ n ∧ acc.length ≤ k ∧ Hid (m < 10 ^ (20 - k)) ∧ Hid ((k = 0 ∧ m = n ∧ acc = []) ∨ (0 < k ∧ digs m ++ acc = decDigits n))) (fun _ _ i => 20 - (RowKit.intOf i).toNat)
  case atStart => exact ⟨0, by omega, rfl, n, rfl, [], rfl, Nat.le_refl _, by simp, hp0, Lib.hid (.inl ⟨rfl, rfl, rfl⟩)⟩
  case round =>
    obtain ⟨k, hk, rfl, m, rfl, acc, rfl, hmn, hal, hp, hd⟩ := hrel
    rcases (by omega : (k < 20 ∧ (k = 0 ∨ 0 < m)) ∨ (0 < k ∧ m = 0) ∨ (k = 20 ∧ 0 < m)) with ⟨h20, hkm⟩ | ⟨hk0, rfl⟩ | ⟨rfl, hm⟩
    · have c0 : 0 ≤ (m : Int) % 10 := by omega
      have c1 : (m : Int) % 10 < 10 := by omega
      have hm0 : m < 9223372036854775808 := by omega
      have hsl := ten_slice m
      have hnext : Hid (m / 10 < 10 ^ (20 - (k + 1)) ∧ digs (m / 10) ++ ([dch m] ++ acc) = decDigits n) := by
        refine ⟨tenth_pow m (20 - (k + 1)) ?_, ?_⟩
        · rw [show 20 - (k + 1) + 1 = 20 - k by omega]
          exact hp
        · rcases hd.out with ⟨rfl, rfl, rfl⟩ | ⟨h1, h2⟩
          · by_cases h0 : m = 0
            · subst h0
              rw [decDigits]
              rfl
            · rw [← digs_step m h0 [], List.append_nil]
              exact if_neg h0
          · rw [← h2, digs_step m (by omega) acc]
      rcases (by omega : k = 0 ∨ (0 < k ∧ 0 < m)) with rfl | ⟨hk0, hm⟩
      · clear hd hp hkm
        have c2 := hnext.out.1
        go_wp2
        all_goals go_round
        case rel => exact ⟨1, by omega, rfl, m / 10, rfl, [dch m] ++ acc, rfl, by omega, by rw [List.length_append, List.length_singleton]; omega, hnext.out.1, Lib.hid (.inr ⟨by omega, hnext.out.2⟩)⟩
        case measure => simp [RowKit.intOf]
      · have hd1 : decide ((m : Int) > 0) = true := by simpa using hm
        have hd2 : ((k : Int) == 0) = false := by rw [beq_eq_false_iff_ne]; omega
        clear hd hp hkm
        go_wp2
        all_goals go_round
        case rel => exact ⟨_, _, _, ⟨k + 1, by omega, by go_num, m / 10, rfl, [dch m] ++ acc, rfl, by omega, by rw [List.length_append, List.length_singleton]; omega, hnext.out.1, Lib.hid (.inr ⟨by omega, hnext.out.2⟩)⟩, rfl, rfl, rfl⟩
        case measure => simp [RowKit.intOf]; omega
    · have hacc : acc = decDigits n := by
        rcases hd.out with ⟨h, _⟩ | ⟨_, h⟩
        · omega
        · exact h
      subst hacc
      clear hd hp
      by_cases h20 : k < 20
      · have hd2 : ((k : Int) == 0) = false := by rw [beq_eq_false_iff_ne]; omega
        go_wp2
        go_ret
        exact ⟨rfl, Below.refl _ _⟩
      · go_wp2
        go_ret
        exact ⟨rfl, Below.refl _ _⟩
    · have := hp.out
      omega

def hexL (l : List UInt8) : List UInt8 := l.flatMap fun c => [hexDigit (c.toNat / 16), hexDigit (c.toNat % 16)]
theorem hexL_append (a b : List UInt8) : hexL (a ++ b) = hexL a ++ hexL b := by simp [hexL]
theorem hexL_length (l : List UInt8) : (hexL l).length = 2 * l.length := by
  induction l with
  | nil => rfl
  | cons x l ih => rw [← List.singleton_append, hexL_append, List.length_append, ih, List.length_append]; simp [hexL]; omega
theorem hex_slice : ∀ r : Nat, r < 16 → (⟨#[48, 49, 50, 51, 52, 53, 54, 55, 56, 57, 97, 98, 99, 100, 101, 102]⟩ : ByteArray).extract r (r + 1) = Bs [hexDigit r] := by decide

set_option maxRecDepth 100000 in
set_option maxHeartbeats 1000000 in
theorem ref04_Digits (l : List UInt8) (hl : l.length ≤ 1000000) (w : World) :
    Calls Tryd.prog 54 #[.string (Bs l)] w fun e w' => e = .returned (.string (Bs (hexL l))) ∧ Below w.heap.size w w' := by
  have hcat := Bs_append
  have hnil : (⟨#[]⟩ : ByteArray) = Bs [] := rfl
  have hsz := Bs_size
  go_enter Tryd.func54, Tryd.ntmps54
  go_wp2
  go_loopw [4, 5] (fun t4 t5 wr => ∃ k : Nat, k ≤ l.length ∧ t5 = .int .i64 k ∧ t4 = .string (Bs (hexL (l.take k))) ∧ Below w.heap.size w wr) (fun _ i _ => l.length - (RowKit.intOf i).toNat)
  case atStart => exact ⟨0, by omega, rfl, rfl, Below.refl _ _⟩
  case round =>
    obtain ⟨k, hk, rfl, rfl, hb⟩ := hrel
    by_cases hlt : k < l.length
    · obtain ⟨c, hc⟩ : ∃ c, l[k]? = some c := ⟨_, List.getElem?_eq_getElem hlt⟩
      have hidx := fun W => index_Bs hc W
      have hst := Lib.hid (show hexL (l.take (k + 1)) = hexL (l.take k) ++ [hexDigit (c.toNat / 16), hexDigit (c.toNat % 16)] by rw [take_snoc_of hc, hexL_append]; rfl)
      have hal : (hexL (l.take k)).length ≤ 2000000 := by rw [hexL_length, List.length_take]; omega
      clear hc
      generalize hexL (l.take k) = acc at *
      have cl := c.toNat_lt
      have c0 : 0 ≤ (c.toNat : Int) / 16 := by omega
      have c1 : (c.toNat : Int) / 16 < 16 := by omega
      have m0 : 0 ≤ (c.toNat : Int) % 16 := by omega
      have m1 : (c.toNat : Int) % 16 < 16 := by omega
      have hs1 := hex_slice (c.toNat / 16) (by omega)
      have hs2 := hex_slice (c.toNat % 16) (by omega)
      go_wp2
      go_quiet (fail)
      all_goals go_wp2
      go_roundw
      case rel => exact ⟨k + 1, by omega, by go_num, by rw [hst.out], bnext hb (bdrewN _ _)⟩
      case measure => simp [RowKit.intOf]; omega
    · obtain rfl : k = l.length := by omega
      rw [List.take_length]
      go_wp2
      go_ret
      exact ⟨rfl, hb⟩

/-- The worth of a hexadecimal digit, -1 for no digit. -/
def digOf (n : Int) : Int := if 48 ≤ n ∧ n ≤ 57 then n - 48 else if 97 ≤ n ∧ n ≤ 102 then n - 97 + 10 else -1
theorem digOf_hex (x : UInt8) : digOf x.toNat = hexIdx x := by
  have e : ∀ n : Nat, n < 256 → digOf n = hexIdx (UInt8.ofNat n) := by decide +kernel
  rw [e x.toNat x.toNat_lt, UInt8.ofNat_toNat]
theorem ref04_digit (n : Int) (h0 : 0 ≤ n) (h1 : n ≤ 255) (w : World) :
    Calls Tryd.prog 81 #[.int .u8 n] w fun e w' => e = .returned (.int .i64 (digOf n)) ∧ w = w' := by
  rcases (by omega : n < 48 ∨ (48 ≤ n ∧ n ≤ 57) ∨ (57 < n ∧ n < 97) ∨ (97 ≤ n ∧ n ≤ 102) ∨ 102 < n) with h | ⟨h, h'⟩ | ⟨h, h'⟩ | ⟨h, h'⟩ | h
  all_goals
    go_enter Tryd.func81, Tryd.ntmps81
    go_wp2
    all_goals go_ret
    all_goals
      refine ⟨?_, rfl⟩
      congr 2
      unfold digOf
      first
      | (rw [if_pos (by omega)]; rfl)
      | (rw [if_neg (by omega), if_pos (by omega)]; rfl)
      | (rw [if_neg (by omega), if_neg (by omega)]; rfl)
theorem ref04_digit_u8 (x : UInt8) (w : World) :
    Calls Tryd.prog 81 #[.int .u8 x.toNat] w fun e w' => e = .returned (.int .i64 (hexIdx x)) ∧ w = w' := by
  rw [← digOf_hex]
  exact ref04_digit _ (by omega) (by have := x.toNat_lt; omega) w

def und (a b : Int) : UInt8 := UInt8.ofNat ((16 * a + b) % 256).toNat
theorem und_of (c : UInt8) : und ((c.toNat / 16 : Nat) : Int) ((c.toNat % 16 : Nat) : Int) = c := by
  have e : ∀ n : Nat, n < 256 → und ((n / 16 : Nat) : Int) ((n % 16 : Nat) : Int) = UInt8.ofNat n := by decide +kernel
  rw [e c.toNat c.toNat_lt, UInt8.ofNat_toNat]
theorem und_nat (a b : Int) : ((und a b).toNat : Int) = (16 * a + b) % 256 := by
  unfold und
  rw [UInt8.toNat_ofNat']
  omega
/-- What 'Undigits' answers at two bytes. -/
def UndPost (x y : UInt8) (W : World) (e : Ending) (W' : World) : Prop :=
  (∃ (p : List UInt8) (ok : Bool), e = .returned (.tuple #[.string (Bs p), .bool ok]) ∧ (0 ≤ hexIdx x → 0 ≤ hexIdx y → ok = true ∧ p = [und (hexIdx x) (hexIdx y)]) ∧ (¬ (0 ≤ hexIdx x ∧ 0 ≤ hexIdx y) → ok = false ∧ p = [])) ∧ Below W.heap.size W W'

set_option maxRecDepth 100000 in
set_option maxHeartbeats 1000000 in
theorem ref04_Undigits (x y : UInt8) (w : World) :
    Calls Tryd.prog 52 #[.string (Bs [x, y])] w (UndPost x y w) := by
  have hi0 := fun W => index_Bs0 (l := [x, y]) (q := x) rfl W
  have hi1 := fun W => index_Bs1 (l := [x, y]) (q := y) rfl W
  have hsz : (Bs [x, y]).size = 2 := rfl
  obtain ⟨hx0, hx1⟩ := hexIdx_range x
  obtain ⟨hy0, hy1⟩ := hexIdx_range y
  have hD := fun q W => ref04_digit_u8 q W
  obtain ⟨P, hPe⟩ : ∃ P, P = UndPost x y w := ⟨_, rfl⟩
  rw [← hPe]
  replace hPe := Lib.hid hPe
  go_enter Tryd.func52, Tryd.ntmps52
  go_wp2
  go_loopw [4, 5] (fun s i wr => (i = .int .i64 0 ∧ s = .slice none 0 0 ∧ wr = w) ∨ (i = .int .i64 2 ∧ 0 ≤ hexIdx x ∧ 0 ≤ hexIdx y ∧ wr.ownsRow w.heap.size 5 1 s 1 (byts [und (hexIdx x) (hexIdx y)]) ∧ Below w.heap.size w wr)) (fun _ i _ => 2 - (RowKit.intOf i).toNat)
  case atStart => exact .inl ⟨rfl, rfl, rfl⟩
  case round =>
    rcases hrel with ⟨rfl, rfl, rfl⟩ | ⟨rfl, hx2, hy2, hown, hb⟩
    · have hown : wr.ownsRow wr.heap.size 5 1 (.slice none 0 0) 0 [] := World.ownsRow_nil _ _ _ _
      have hb := Below.refl wr.heap.size wr
      go_wp2_with (first
        | (go_at_call 81; refine (hD _ _).mono ?_; rintro e w1 ⟨rfl, rfl⟩)
        | (at_builtin
           refine wpList_app1 (w := wr) tByte rfl (.tmp 30) (.tmp 36) rfl rfl hown rfl rfl ?_ ?_ hb ?_ ?_
           · omega
           · omega
           · exact hb.size
           intro v' w' h2 hb2 _ _))
      · rename_i h
        rw [hPe.out]
        exact ⟨⟨[], false, rfl, fun h1 h2 => by omega, fun _ => ⟨rfl, rfl⟩⟩, Below.refl _ _⟩
      · have h : 0 ≤ hexIdx x ∧ 0 ≤ hexIdx y := by assumption
        have e := und_nat (hexIdx x) (hexIdx y)
        rw [Int.emod_eq_of_lt (by omega) (by omega)] at e
        refine ⟨.inr ⟨rfl, h.1, h.2, ?_, hb2⟩, by simp [RowKit.intOf]⟩
        simp only [byts, List.map_cons, List.map_nil, e]
        exact h2
      · rw [hPe.out]
        exact ⟨⟨[], false, rfl, fun h1 h2 => by omega, fun _ => ⟨rfl, rfl⟩⟩, Below.refl _ _⟩
    · obtain ⟨A, c', rfl, hcap⟩ := own_slice hown
      have hcv := conv_str (W := wr) (l := [und (hexIdx x) (hexIdx y)]) c' (Rd.of_own hown)
      clear hown
      go_wp2
      rw [hPe.out]
      exact ⟨⟨_, _, rfl, fun _ _ => ⟨rfl, rfl⟩, fun h => (h ⟨hx2, hy2⟩).elim⟩, hb⟩
end Go.Proofs.YtmakpilfjopmeaaDoor
