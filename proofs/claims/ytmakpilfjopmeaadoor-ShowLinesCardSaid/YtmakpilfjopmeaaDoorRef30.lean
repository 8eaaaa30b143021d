/- Walks of pentimentoref30 (digits, Num, Number, Word) and pentimentoref31.until. -/
import Derived.Test.YtmakpilfjopmeaaDoorRef5
import Derived.Test.YtmakpilfjopmeaaDoorNum
set_option linter.unusedVariables false
set_option linter.unusedSimpArgs false
namespace Go.Proofs.YtmakpilfjopmeaaDoor
open Go Go.RowKit Go.Lib Go.Shelf

theorem Bs_eq (a b : List UInt8) : ((Bs a).toList = (Bs b).toList) = (a = b) := by
  rw [ByteArray.toList_eq, ByteArray.toList_eq]
  rfl
theorem Bs_eqb (a b : List UInt8) : ((Bs a).toList == (Bs b).toList) = (a == b) := by
  rw [ByteArray.toList_eq, ByteArray.toList_eq]
  rfl
theorem Bs_neb (a b : List UInt8) : ((Bs a).toList != (Bs b).toList) = (a != b) := by
  rw [ByteArray.toList_eq, ByteArray.toList_eq]
  rfl

set_option maxRecDepth 100000 in
set_option maxHeartbeats 400000 in
theorem ref30_digits (n : Nat) (hn : n < 18446744073709551616) (w : World) :
    Calls Tryd.prog 75 #[.int .u64 n] w fun e w' => e = .returned (.string (Bs (decDigits n))) ∧ w = w' := by
  have hcat := Bs_append
  have hnil : (⟨#[]⟩ : ByteArray) = Bs [] := rfl
  have hsz := Bs_size
  have hp0 : Hid (n < 10 ^ 20) := Lib.hid (Nat.lt_trans hn (by decide))
  go_enter Tryd.func75, Tryd.ntmps75
  go_wp2
  go_loop [0, 3, 4] (fun t0 t3 t4 => ∃ k : Nat, k ≤ 20 ∧ t4 = .int .i64 k ∧ ∃ m : Nat, t0 = .int .u64 m ∧ ∃ acc : List UInt8, t3 = .string (Bs acc) ∧ m ≤ n ∧ acc.length ≤ k ∧ Hid (m < 10 ^ (20 - k)) ∧ Hid ((k = 0 ∧ m = n ∧ acc = []) ∨ (0 < k ∧ digs m ++ acc = decDigits n))) (fun _ _ i => 20 - (RowKit.intOf i).toNat)
  case atStart => exact ⟨0, by omega, rfl, n, rfl, [], rfl, Nat.le_refl _, by simp, hp0, Lib.hid (.inl ⟨rfl, rfl, rfl⟩)⟩
  case round =>
    obtain ⟨k, hk, rfl, m, rfl, acc, rfl, hmn, hal, hp, hd⟩ := hrel
    rcases (by omega : (k < 20 ∧ (k = 0 ∨ 0 < m)) ∨ (0 < k ∧ m = 0) ∨ (k = 20 ∧ 0 < m)) with ⟨h20, hkm⟩ | ⟨hk0, rfl⟩ | ⟨rfl, hm⟩
    · have c0 : 0 ≤ (m : Int) % 10 := by omega
      have c1 : (m : Int) % 10 < 10 := by omega
      have hm0 : m < 18446744073709551616 := by omega
      have hsl := ten_slice m
      have hnext : Hid (m / 10 < 10 ^ (20 - (k + 1)) ∧ digs (m / 10) ++ ([dch m] ++ acc) = decDigits n) := by
        refine ⟨tenth_pow m (20 - (k + 1)) ?_, ?_⟩
        · rw [show 20 - (k + 1) + 1 = 20 - k by omega]
          exact hp
        · rcases hd.out with ⟨rfl, rfl, rfl⟩ | ⟨h1, h2⟩
          · by_cases h0 : m = 0
            · subst h0
              rw [decDigits]
              rfl
            · rw [← digs_step m h0 [], List.append_nil]
              exact if_neg h0
          · rw [← h2, digs_step m (by omega) acc]
      rcases (by omega : k = 0 ∨ (0 < k ∧ 0 < m)) with rfl | ⟨hk0, hm⟩
      · clear hd hp hkm
        have c2 := hnext.out.1
        go_wp2
        all_goals go_round
        case rel => exact ⟨1, by omega, rfl, m / 10, rfl, [dch m] ++ acc, rfl, by omega, by rw [List.length_append, List.length_singleton]; omega, hnext.out.1, Lib.hid (.inr ⟨by omega, hnext.out.2⟩)⟩
        case measure => simp [RowKit.intOf]
      · have hd1 : decide ((m : Int) > 0) = true := by simpa using hm
        have hd2 : ((k : Int) == 0) = false := by rw [beq_eq_false_iff_ne]; omega
        clear hd hp hkm
        go_wp2
        all_goals go_round
        case rel => exact ⟨_, _, _, ⟨k + 1, by omega, by go_num, m / 10, rfl, [dch m] ++ acc, rfl, by omega, by rw [List.length_append, List.length_singleton]; omega, hnext.out.1, Lib.hid (.inr ⟨by omega, hnext.out.2⟩)⟩, rfl, rfl, rfl⟩
        case measure => simp [RowKit.intOf]; omega
    · have hacc : acc = decDigits n := by
        rcases hd.out with ⟨h, _⟩ | ⟨_, h⟩
        · omega
        · exact h
      subst hacc
      clear hd hp
      by_cases h20 : k < 20
      · have hd2 : ((k : Int) == 0) = false := by rw [beq_eq_false_iff_ne]; omega
        go_wp2
        go_ret
        exact ⟨rfl, rfl⟩
      · go_wp2
        go_ret
        exact ⟨rfl, rfl⟩
    · have := hp.out
      omega

theorem ref30_Num (n : Int) (h0 : -9223372036854775808 ≤ n) (h1 : n ≤ 9223372036854775807) (w : World) :
    Calls Tryd.prog 45 #[.int .i64 n] w fun e w' => e = .returned (.string (Bs (itoa n))) ∧ w = w' := by
  have hcat := Bs_append
  have h45 : (⟨#[45]⟩ : ByteArray) = Bs [45] := rfl
  by_cases hn : 0 ≤ n
  · obtain ⟨m, rfl⟩ := Int.eq_ofNat_of_zero_le hn
    have hi : itoa (m : Int) = decDigits m := by unfold itoa; rw [if_neg (by omega), Int.toNat_natCast]
    rw [hi]
    have hm : m < 18446744073709551616 := by omega
    clear hi
    go_enter Tryd.func45, Tryd.ntmps45
    go_wp2_with (go_at_call 75; refine (ref30_digits m hm _).mono ?_; rintro e w1 ⟨rfl, rfl⟩)
    go_ret
    exact ⟨rfl, rfl⟩
  · obtain ⟨m, hm⟩ : ∃ m : Nat, n = -(m : Int) := ⟨n.natAbs, by omega⟩
    subst hm
    have hi : itoa (-(m : Int)) = 45 :: decDigits m := by unfold itoa; rw [if_pos (by omega), Int.natAbs_neg, Int.natAbs_natCast]
    rw [hi]
    have hm : m < 18446744073709551616 := by omega
    clear hi
    go_enter Tryd.func45, Tryd.ntmps45
    have he : IntKind.u64.wrap (-IntKind.u64.wrap (-(m : Int))) = m := by simp only [IntKind.wrap_u64]; omega
    have He := Lib.hid he
    clear he
    have hsz := Bs_size
    have hd : (decDigits m).length ≤ 19 := dec_len19 m (by omega)
    go_wp2_with (go_at_call 75; rw [He.out]; refine (ref30_digits m hm _).mono ?_; rintro e w1 ⟨rfl, rfl⟩)
    go_ret
    exact ⟨rfl, rfl⟩

theorem ret_i64 {a b : Int} (h : a = b) : Ending.returned (.int .i64 a) = .returned (.int .i64 b) := by rw [h]
theorem numStep_eq (N : Int) (c : UInt8) : IntKind.u64.wrap (IntKind.u64.wrap (N * 10) + IntKind.u8.wrap ((c.toNat : Int) - 48)) = numStep N c := by
  simp only [IntKind.wrap_u64, IntKind.wrap_u8, numStep]
  omega
theorem numRaw_next {l : List UInt8} {k f : Nat} {q : UInt8} (hq : l[k]? = some q) (hf : f ≤ k) : numRaw ((l.take (k + 1)).drop f) = numStep (numRaw ((l.take k).drop f)) q := by
  rw [take_snoc_of hq, List.drop_append_of_le_length (by
    have := (List.getElem?_eq_some_iff.1 hq).1
    rw [List.length_take]
    omega), numRaw_snoc]

set_option maxRecDepth 100000 in
set_option maxHeartbeats 800000 in
theorem ref30_Number (l : List UInt8) (hl : l.length ≤ 1000000) (w : World) :
    Calls Tryd.prog 61 #[.string (Bs l)] w fun e w' => e = .returned (.int .i64 (numberL l)) ∧ w = w' := by
  have hsz := Bs_size
  have hem := Bs_isEmpty
  cases l with
  | nil =>
    have h0 : (Bs []).toList.isEmpty = true := Bs_isEmpty []
    have hs0 : (Bs []).size = 0 := rfl
    clear hsz hem
    go_enter Tryd.func61, Tryd.ntmps61
    go_wp2
    go_loop [3, 5] (fun n i => n = .int .u64 0 ∧ i = .int .i64 0) (fun _ _ => 0)
    case atStart => exact ⟨rfl, rfl⟩
    case round =>
      obtain ⟨rfl, rfl⟩ := hrel
      go_wp2
      go_ret
      exact ⟨ret_i64 (by unfold numberL wrap64; rw [if_neg (by simp)]; rfl), rfl⟩
  | cons c r =>
    have hem0 := Bs_isEmpty (c :: r)
    have h0 : (Bs (c :: r)).toList.isEmpty = false := hem0
    have hi0 := fun W => index_Bs0 (l := c :: r) (q := c) rfl W
    have hp : 1 ≤ (c :: r).length := by simp
    clear hem hem0
    by_cases h45 : c = 45
    · have ht : ((c.toNat : Int) == 45) = true := by rw [h45]; rfl
      have hL : Hid (numberL (c :: r) = wrap64 ((-(numRaw (((c :: r).take 20).drop 1))) % 18446744073709551616)) := by
        unfold numberL
        exact if_pos (by rw [h45]; rfl)
      clear h45
      generalize (c :: r) = l at *
      go_enter Tryd.func61, Tryd.ntmps61
      go_wp2
      clear h0 hi0 ht
      go_loop [3, 5] (fun n i => ∃ k : Nat, 1 ≤ k ∧ k ≤ 20 ∧ k ≤ l.length ∧ i = .int .i64 k ∧ ∃ N : Int, Hid (N = numRaw ((l.take k).drop 1)) ∧ n = .int .u64 N) (fun _ i => 20 - (RowKit.intOf i).toNat)
      case atStart => exact ⟨1, by omega, by omega, hp, rfl, 0, by rw [List.drop_eq_nil_of_le (by rw [List.length_take]; omega)]; rfl, rfl⟩
      case round =>
        obtain ⟨k, h1, h20, hk, rfl, N, hN, rfl⟩ := hrel
        by_cases hlt : k < 20 ∧ k < l.length
        · obtain ⟨hl20, hll⟩ := hlt
          obtain ⟨q, hq⟩ : ∃ q, l[k]? = some q := ⟨_, List.getElem?_eq_getElem hll⟩
          have hi := fun W => index_Bs hq W
          have hn := numRaw_next hq h1
          rw [← hN.out] at hn
          have hn' := Lib.hid (hn.trans (numStep_eq N q).symm)
          clear hn hN hq
          go_wp2
          go_round
          case rel => exact ⟨k + 1, by omega, by omega, by omega, by go_num, _, hn'.out.symm, rfl⟩
          case measure => simp [RowKit.intOf]; omega
        · have hN2 : N = numRaw ((l.take 20).drop 1) := by
            rw [hN.out]
            by_cases h : k = 20
            · rw [h]
            · rw [List.take_of_length_le (show l.length ≤ k by omega), List.take_of_length_le (show l.length ≤ 20 by omega)]
          have hN3 := Lib.hid hN2
          clear hN2 hN
          have hfin : Hid (wrap64 (IntKind.u64.wrap (-N)) = numberL l) := by
            rw [hL.out, ← hN3.out, IntKind.wrap_u64]
            rfl
          clear hN3 hL
          by_cases hl20 : k < l.length
          · obtain rfl : k = 20 := by omega
            go_wp2
            go_ret
            exact ⟨ret_i64 hfin.out, rfl⟩
          · go_wp2
            go_ret
            exact ⟨ret_i64 hfin.out, rfl⟩
    · have ht : ((c.toNat : Int) == 45) = false := by
        rw [beq_eq_false_iff_ne]
        intro e
        exact h45 (UInt8.toNat_inj.1 (by simpa using (by omega : c.toNat = 45)))
      have hL : Hid (numberL (c :: r) = wrap64 (numRaw ((c :: r).take 20))) := by
        unfold numberL
        exact if_neg (by simpa using h45)
      clear h45
      generalize (c :: r) = l at *
      go_enter Tryd.func61, Tryd.ntmps61
      go_wp2
      clear h0 hi0 ht
      go_loop [3, 5] (fun n i => ∃ k : Nat, k ≤ 20 ∧ k ≤ l.length ∧ i = .int .i64 k ∧ ∃ N : Int, Hid (N = numRaw (l.take k)) ∧ n = .int .u64 N) (fun _ i => 20 - (RowKit.intOf i).toNat)
      case atStart => exact ⟨0, by omega, by omega, rfl, 0, rfl, rfl⟩
      case round =>
        obtain ⟨k, h20, hk, rfl, N, hN, rfl⟩ := hrel
        by_cases hlt : k < 20 ∧ k < l.length
        · obtain ⟨hl20, hll⟩ := hlt
          obtain ⟨q, hq⟩ : ∃ q, l[k]? = some q := ⟨_, List.getElem?_eq_getElem hll⟩
          have hi := fun W => index_Bs hq W
          have hn := numRaw_next (f := 0) hq (Nat.zero_le _)
          simp only [List.drop_zero] at hn
          rw [← hN.out] at hn
          have hn' := Lib.hid (hn.trans (numStep_eq N q).symm)
          clear hn hN hq
          go_wp2
          go_round
          case rel => exact ⟨k + 1, by omega, by omega, by go_num, _, hn'.out.symm, rfl⟩
          case measure => simp [RowKit.intOf]; omega
        · have hN2 : N = numRaw (l.take 20) := by
            rw [hN.out]
            by_cases h : k = 20
            · rw [h]
            · rw [List.take_of_length_le (show l.length ≤ k by omega), List.take_of_length_le (show l.length ≤ 20 by omega)]
          have hfin : Hid (wrap64 N = numberL l) := by rw [hL.out, hN2]; rfl
          clear hN2 hN hL
          by_cases hl20 : k < l.length
          · obtain rfl : k = 20 := by omega
            go_wp2
            go_ret
            exact ⟨ret_i64 hfin.out, rfl⟩
          · go_wp2
            go_ret
            exact ⟨ret_i64 hfin.out, rfl⟩

set_option maxRecDepth 100000 in
theorem ref30_Word (l : List UInt8) (hl : l.length ≤ 1000000) (w : World) :
    Calls Tryd.prog 60 #[.string (Bs l)] w fun e w' => e = .returned (.tuple #[.string (Bs (wordL l).1), .string (Bs (wordL l).2)]) ∧ Below w.heap.size w w' := by
  have hsz := Bs_size l
  have hex := Bs_extract l
  go_enter Tryd.func60, Tryd.ntmps60
  go_wp2
  go_loop [4] (fun i => ∃ k : Nat, k ≤ l.length ∧ i = .int .i64 k ∧ Hid (∀ j, j < k → l[j]? ≠ some 32)) (fun i => l.length - (RowKit.intOf i).toNat)
  case atStart => exact ⟨0, by omega, rfl, Lib.hid (fun j h => by omega)⟩
  case round =>
    obtain ⟨k, hk, rfl, hn⟩ := hrel
    by_cases hlt : k < l.length
    · obtain ⟨q, hq⟩ : ∃ q, l[k]? = some q := ⟨_, List.getElem?_eq_getElem hlt⟩
      have hi := fun W => index_Bs hq W
      by_cases h32 : q = 32
      · have ht : ((q.toNat : Int) == 32) = true := by rw [h32]; rfl
        have hw := Lib.hid (wordL_at (by rw [← h32]; exact hq) hn.out)
        have e1 : (l.drop 0).take (k - 0) = l.take k := by simp
        have e2 : (l.drop (k + 1)).take (l.length - (k + 1)) = l.drop (k + 1) := List.take_of_length_le (by simp)
        clear hn hq h32
        go_wp2
        go_quiet (fail)
        all_goals go_wp2
        go_ret2
        exact ⟨by rw [hw.out]; rfl, bdrewN _ _⟩
      · have ht : ((q.toNat : Int) == 32) = false := by
          rw [beq_eq_false_iff_ne]
          intro e
          exact h32 (UInt8.toNat_inj.1 (by simpa using (by omega : q.toNat = 32)))
        have hn' : Hid (∀ j, j < k + 1 → l[j]? ≠ some 32) := Lib.hid fun j hj => by
          by_cases h : j < k
          · exact hn.out j h
          · obtain rfl : j = k := by omega
            rw [hq]
            intro e
            exact h32 (by simpa using e)
        clear hn hq h32
        go_wp2
        go_round
        case rel => exact ⟨k + 1, by omega, by go_num, hn'⟩
        case measure => simp [RowKit.intOf]; omega
    · obtain rfl : k = l.length := by omega
      have hw := Lib.hid (wordL_none hn.out)
      clear hn
      go_wp2
      go_ret2
      exact ⟨by rw [hw.out]; rfl, Below.refl _ _⟩

theorem cut_at {l sep : List UInt8} {i : Nat} (hi : i + sep.length ≤ l.length) (h : occAt l sep i = true) (hn : ∀ j, j < i → occAt l sep j = false) : cut l sep = (l.take i, l.drop (i + sep.length), true) := by
  have e : index l sep = i := index_first (by omega) h hn
  unfold cut
  rw [e, if_pos (by omega), Int.toNat_natCast]
theorem cut_none {l sep : List UInt8} (h0 : sep ≠ []) {k : Nat} (hk : l.length < k + sep.length) (hn : ∀ j, j < k → occAt l sep j = false) : cut l sep = (l, [], false) := by
  have e : index l sep = -1 := index_none fun j hj => by
    by_cases h : j < k
    · exact hn j h
    · rw [Bool.eq_false_iff]
      intro ho
      rcases occAt_room ho with h1 | h1
      · omega
      · exact h0 h1
  unfold cut
  rw [e, if_neg (by omega)]

set_option maxRecDepth 100000 in
theorem ref31_until (l sep : List UInt8) (hl : l.length ≤ 1000000) (hs : sep.length ≤ 1000) (hs0 : 1 ≤ sep.length) (w : World) :
    Calls Tryd.prog 62 #[.string (Bs l), .string (Bs sep)] w fun e w' => e = .returned (.tuple #[.string (Bs (cut l sep).1), .string (Bs (cut l sep).2.1)]) ∧ Below w.heap.size w w' := by
  have hsz := Bs_size l
  have hsz2 := Bs_size sep
  have hex := Bs_extract l
  have heqb := Bs_eqb
  go_enter Tryd.func62, Tryd.ntmps62
  go_wp2
  go_loop [6] (fun i => ∃ k : Nat, k ≤ l.length ∧ i = .int .i64 k ∧ Hid (∀ j, j < k → occAt l sep j = false)) (fun i => l.length - (RowKit.intOf i).toNat)
  case atStart => exact ⟨0, by omega, rfl, Lib.hid (fun j h => by omega)⟩
  case round =>
    obtain ⟨k, hk, rfl, hn⟩ := hrel
    by_cases hlt : k + sep.length ≤ l.length
    · have e0 : k + sep.length - k = sep.length := by omega
      have hocc := Lib.hid (occAt_iff_take l sep k hlt)
      by_cases h : occAt l sep k = true
      · have ht : ((l.drop k).take sep.length == sep) = true := by rw [← hocc.out]; exact h
        have hw := Lib.hid (cut_at hlt h hn.out)
        have e2 : (l.drop (k + sep.length)).take (l.length - (k + sep.length)) = l.drop (k + sep.length) := List.take_of_length_le (by simp)
        clear hn h hocc
        go_wp2
        go_quiet (fail)
        all_goals go_wp2
        go_ret2
        exact ⟨by
          rw [hw.out]
          show Ending.returned (.tuple #[.string (Bs (l.take k)), .string (Bs ((l.drop (k + sep.length)).take (l.length - (k + sep.length))))]) = _
          rw [e2], bdrewN _ _⟩
      · have hf : occAt l sep k = false := by simpa using h
        have ht : ((l.drop k).take sep.length == sep) = false := by rw [← hocc.out]; exact hf
        have hn' : Hid (∀ j, j < k + 1 → occAt l sep j = false) := Lib.hid fun j hj => by
          by_cases h : j < k
          · exact hn.out j h
          · obtain rfl : j = k := by omega
            exact hf
        clear hn h hf hocc
        go_wp2
        go_round
        case rel => exact ⟨k + 1, by omega, by go_num, hn'⟩
        case measure => simp [RowKit.intOf]; omega
    · have hw := Lib.hid (cut_none (l := l) (sep := sep) (fun e => by rw [e] at hs0; simp at hs0) (k := k) (by omega) hn.out)
      clear hn
      go_wp2
      go_ret2
      exact ⟨by rw [hw.out]; rfl, Below.refl _ _⟩
end Go.Proofs.YtmakpilfjopmeaaDoor
