/- Walk of pentimentoref31.Line. -/
import Derived.Test.YtmakpilfjopmeaaDoorShow1
import Derived.Deep.DeepCutAuto
import Derived.Outline
set_option linter.unusedVariables false
set_option linter.unusedSimpArgs false
namespace Go.Proofs.YtmakpilfjopmeaaDoor
open Go Go.RowKit Go.Lib Go.Shelf

theorem joinTail_len21 (l : List Int) (h : ∀ v ∈ l, I64 v) : (joinTail [32] (l.map itoa)).length ≤ 21 * l.length := by
  induction l with
  | nil => simp [joinTail]
  | cons v l ih =>
    obtain ⟨a, b⟩ := h v (List.mem_cons_self ..)
    have h1 := itoa_len20 v a b
    have h2 := ih (fun u hu => h u (List.mem_cons_of_mem _ hu))
    have e : joinTail [32] ((v :: l).map itoa) = 32 :: itoa v ++ joinTail [32] (l.map itoa) := by simp [joinTail]
    rw [e]
    simp
    omega

set_option maxRecDepth 100000 in
set_option maxHeartbeats 400000 in
theorem ref31_Line_ok (x : Ans) (hv : x.Valid) (A : Option Addr) (c : Nat) (hc : x.list.length ≤ c) (w : World) (hr : Rd w A x.list.length (nums .i64 x.list)) :
    Calls Tryd.prog 31 #[ansV x A c] w fun e w' => e = .returned (.tuple #[.string (Bs (lineA x)), .int .i64 0]) ∧ Below w.heap.size w w' := by
  rw [← line_ref x hv.data]
  obtain ⟨why, n, m, data, list⟩ := x
  obtain ⟨⟨hwhy, hn, hm, hlist⟩, hw0, hw1, hd, hll⟩ := hv
  unfold ansV
  simp only at *
  obtain ⟨h1, h2⟩ := hn
  obtain ⟨h3, h4⟩ := hm
  have hcat := Bs_append
  have hsz := Bs_size
  have k1 : (⟨#[119, 104, 121, 32]⟩ : ByteArray) = Bs [119, 104, 121, 32] := rfl
  have k2 : (⟨#[32, 110, 32]⟩ : ByteArray) = Bs [32, 110, 32] := rfl
  have k3 : (⟨#[32, 109, 32]⟩ : ByteArray) = Bs [32, 109, 32] := rfl
  have k4 : (⟨#[32, 100, 97, 116, 97, 32]⟩ : ByteArray) = Bs [32, 100, 97, 116, 97, 32] := rfl
  have k5 : (⟨#[32, 108, 105, 115, 116]⟩ : ByteArray) = Bs [32, 108, 105, 115, 116] := rfl
  have k6 : (⟨#[32]⟩ : ByteArray) = Bs [32] := rfl
  have hem := Bs_isEmpty data
  have hR := ref05_Right data
  have hlw := itoa_len20 why (by omega) (by omega)
  have hd2 : (data = [] ∨ data.length = 64) := hd
  have hcond : (data = [] ∧ (Bs data).toList.isEmpty = true) ∨ (data.length = 64 ∧ (Bs data).toList.isEmpty = false) := by
    rcases hd with h | h
    · exact .inl ⟨h, by rw [hem, h]; rfl⟩
    · exact .inr ⟨h, by rw [hem]; cases data with | nil => simp at h | cons _ _ => rfl⟩
  clear hem hd
  have hjl := joinTail_len21 list hlist
  rcases hcond with ⟨hd, hem⟩ | ⟨hd, hem⟩
  · clear hR
    subst hd
    go_enter Tryd.func31, Tryd.ntmps31
    go_upto_if 37 with (first
      | (go_at_call 45; refine (ref30_Num why hwhy.1 hwhy.2 _).mono ?_; rintro e w1 ⟨rfl, rfl⟩))
    go_cut [4] (fun s wc => ∃ acc : List UInt8, s = .string (Bs acc) ∧ Hid (acc = [119, 104, 121, 32] ++ itoa why ++ (if n = 0 then [] else [32, 110, 32] ++ itoa n)) ∧ acc.length ≤ 47 ∧ wc = w.alloc (.cells #[.int .i64 why, .int .i64 n, .int .i64 m, .string (Bs []), .slice A list.length c] 57))
    case first =>
      by_cases h0 : n = 0
      · subst h0
        go_wp2
        go_meet
        case rel => exact ⟨_, rfl, Lib.hid (by simp), by simp; omega, rfl⟩
      · have ht : (n != 0) = true := by rw [bne_iff_ne]; exact h0
        have hln := itoa_len20 n h1 h2
        have h0 := Lib.hid h0
        go_wp2_with (go_at_call 45; refine (ref30_Num n h1 h2 _).mono ?_; rintro e w1 ⟨rfl, rfl⟩)
        go_meet
        case rel => exact ⟨_, rfl, Lib.hid (by rw [if_neg h0.out]; simp), by simp; omega, rfl⟩
    case rest =>
      obtain ⟨acc1, rfl, ha1, hl1, rfl⟩ := hcut
      go_upto_if 46 with fail
      go_cut [4] (fun s wc => ∃ acc : List UInt8, s = .string (Bs acc) ∧ Hid (acc = acc1 ++ (if m = 0 then [] else [32, 109, 32] ++ itoa m)) ∧ acc.length ≤ 70 ∧ wc = w.alloc (.cells #[.int .i64 why, .int .i64 n, .int .i64 m, .string (Bs []), .slice A list.length c] 57))
      case first =>
        by_cases h0 : m = 0
        · subst h0
          go_wp2
          go_meet
          case rel => exact ⟨_, rfl, Lib.hid (by simp), by omega, rfl⟩
        · have ht : (m != 0) = true := by rw [bne_iff_ne]; exact h0
          have hln := itoa_len20 m h3 h4
          have h0 := Lib.hid h0
          go_wp2_with (go_at_call 45; refine (ref30_Num m h3 h4 _).mono ?_; rintro e w1 ⟨rfl, rfl⟩)
          go_meet
          case rel => exact ⟨_, rfl, Lib.hid (by rw [if_neg h0.out]; simp), by simp; omega, rfl⟩
      case rest =>
        obtain ⟨acc2, rfl, ha2, hl2, rfl⟩ := hcut
        go_upto_if 55 with fail
        go_cut [4] (fun s wc => ∃ acc : List UInt8, s = .string (Bs acc) ∧ Hid (acc = acc2 ++ (if ([] : List UInt8) = [] then [] else [32, 100, 97, 116, 97, 32] ++ shortL [])) ∧ acc.length ≤ 270 ∧ Blk wc w.heap.size 57 #[.int .i64 why, .int .i64 n, .int .i64 m, .string (Bs []), .slice A list.length c] ∧ Below w.heap.size w wc)
        case first =>
          go_wp2
          go_meet
          case rel => exact ⟨_, rfl, Lib.hid (by simp), by omega, Blk.new _ _ _, balloc _ _⟩
        case rest =>
          obtain ⟨acc3, rfl, ha3, hl3, hblk, hB⟩ := hcut
          have hc4 : wc.cell? ⟨w.heap.size, 4, none⟩ = some (.slice A list.length c) := hblk.cell 4
          have hrc := hr.below hB
          clear hr
          go_upto_if 65 with fail
          go_cut [4] (fun s wd => ∃ acc : List UInt8, s = .string (Bs acc) ∧ Hid (acc = acc3 ++ (if list = [] then [] else [32, 108, 105, 115, 116])) ∧ acc.length ≤ 275 ∧ wd = wc)
          case first =>
            by_cases h0 : list = []
            · subst h0
              go_wp2
              go_meet
              case rel => exact ⟨_, rfl, Lib.hid (by simp), by omega, rfl⟩
            · have hp : 0 < list.length := List.length_pos_iff.2 h0
              have ht : decide (0 < (list.length : Int)) = true := by simp; omega
              have h0 := Lib.hid h0
              go_wp2
              go_meet
              case rel => exact ⟨_, rfl, Lib.hid (by rw [if_neg h0.out]), by simp; omega, rfl⟩
          case rest =>
            obtain ⟨acc4, rfl, ha4, hl4, rfl⟩ := hcut
            go_wp2
            go_loop [4, 5] (fun s i => ∃ k : Nat, k ≤ list.length ∧ i = .int .i64 k ∧ ∃ acc : List UInt8, s = .string (Bs acc) ∧ Hid (acc = acc4 ++ joinTail [32] ((list.take k).map itoa)) ∧ acc.length ≤ 275 + 21 * k) (fun _ i => list.length - (RowKit.intOf i).toNat)
            case atStart => exact ⟨0, by omega, rfl, acc4, rfl, Lib.hid (by simp [joinTail]), by omega⟩
            case round =>
              obtain ⟨k, hk, rfl, acc5, rfl, ha5, hl5⟩ := hrel
              by_cases hlt : k < list.length
              · obtain ⟨b, o, u, rfl, hu, hcell⟩ := hrc.at_ hlt
                obtain ⟨q, hq, rfl⟩ := nums_at hu
                have hqr := hlist q (List.mem_of_getElem? hq)
                have hlq := itoa_len20 q hqr.1 hqr.2
                have hst : Hid (acc5 ++ ([32] ++ itoa q) = acc4 ++ joinTail [32] ((list.take (k + 1)).map itoa)) := Lib.hid (by
                  rw [ha5.out, take_snoc_of hq, List.map_append, joinTail_app]
                  simp [joinTail])
                clear hq hu ha5 hlist
                go_wp2_with (go_at_call 45; refine (ref30_Num q hqr.1 hqr.2 _).mono ?_; rintro e w1 ⟨rfl, rfl⟩)
                go_round
                case rel => exact ⟨k + 1, by omega, by go_num, _, rfl, Lib.hid (by rw [← hst.out]; simp), by simp; omega⟩
                case measure => simp [RowKit.intOf]; omega
              · obtain rfl : k = list.length := by omega
                rw [List.take_length] at ha5
                have hfin : Hid (acc5 = lineR ⟨why, n, m, [], list⟩) := Lib.hid (by rw [ha5.out, ha4.out, ha3.out, ha2.out, ha1.out]; rfl)
                go_wp2
                go_ret2
                exact ⟨by rw [← hfin.out]; rfl, hB⟩
  · simp only [hd, decide_true] at hR
    have hdne : data ≠ [] := fun e => by rw [e] at hd; simp at hd
    have hsl := short_le data hd
    have hS := ref05_Short data
    have hdne := Lib.hid hdne
    clear hd
    go_enter Tryd.func31, Tryd.ntmps31
    go_upto_if 37 with (first
      | (go_at_call 45; refine (ref30_Num why hwhy.1 hwhy.2 _).mono ?_; rintro e w1 ⟨rfl, rfl⟩)
      | (go_at_call 28; refine (hR _).mono ?_; rintro e w1 ⟨rfl, rfl⟩))
    go_cut [4] (fun s wc => ∃ acc : List UInt8, s = .string (Bs acc) ∧ Hid (acc = [119, 104, 121, 32] ++ itoa why ++ (if n = 0 then [] else [32, 110, 32] ++ itoa n)) ∧ acc.length ≤ 47 ∧ wc = w.alloc (.cells #[.int .i64 why, .int .i64 n, .int .i64 m, .string (Bs data), .slice A list.length c] 57))
    case first =>
      by_cases h0 : n = 0
      · subst h0
        go_wp2
        go_meet
        case rel => exact ⟨_, rfl, Lib.hid (by simp), by simp; omega, rfl⟩
      · have ht : (n != 0) = true := by rw [bne_iff_ne]; exact h0
        have hln := itoa_len20 n h1 h2
        have h0 := Lib.hid h0
        go_wp2_with (go_at_call 45; refine (ref30_Num n h1 h2 _).mono ?_; rintro e w1 ⟨rfl, rfl⟩)
        go_meet
        case rel => exact ⟨_, rfl, Lib.hid (by rw [if_neg h0.out]; simp), by simp; omega, rfl⟩
    case rest =>
      obtain ⟨acc1, rfl, ha1, hl1, rfl⟩ := hcut
      go_upto_if 46 with fail
      go_cut [4] (fun s wc => ∃ acc : List UInt8, s = .string (Bs acc) ∧ Hid (acc = acc1 ++ (if m = 0 then [] else [32, 109, 32] ++ itoa m)) ∧ acc.length ≤ 70 ∧ wc = w.alloc (.cells #[.int .i64 why, .int .i64 n, .int .i64 m, .string (Bs data), .slice A list.length c] 57))
      case first =>
        by_cases h0 : m = 0
        · subst h0
          go_wp2
          go_meet
          case rel => exact ⟨_, rfl, Lib.hid (by simp), by omega, rfl⟩
        · have ht : (m != 0) = true := by rw [bne_iff_ne]; exact h0
          have hln := itoa_len20 m h3 h4
          have h0 := Lib.hid h0
          go_wp2_with (go_at_call 45; refine (ref30_Num m h3 h4 _).mono ?_; rintro e w1 ⟨rfl, rfl⟩)
          go_meet
          case rel => exact ⟨_, rfl, Lib.hid (by rw [if_neg h0.out]; simp), by simp; omega, rfl⟩
      case rest =>
        obtain ⟨acc2, rfl, ha2, hl2, rfl⟩ := hcut
        go_upto_if 55 with fail
        go_cut [4] (fun s wc => ∃ acc : List UInt8, s = .string (Bs acc) ∧ Hid (acc = acc2 ++ (if data = [] then [] else [32, 100, 97, 116, 97, 32] ++ shortL data)) ∧ acc.length ≤ 270 ∧ Blk wc w.heap.size 57 #[.int .i64 why, .int .i64 n, .int .i64 m, .string (Bs data), .slice A list.length c] ∧ Below w.heap.size w wc)
        case first =>
          go_wp2_with (go_at_call 27; refine (hS _).mono ?_; rintro e w1 ⟨rfl, hb⟩)
          go_meet
          case rel => exact ⟨_, rfl, Lib.hid (by rw [if_neg hdne.out]; simp), by simp; omega, (Blk.new _ _ _).below hb (by simp), (balloc _ _).trans (hb.mono (by simp))⟩
        case rest =>
          obtain ⟨acc3, rfl, ha3, hl3, hblk, hB⟩ := hcut
          have hc4 : wc.cell? ⟨w.heap.size, 4, none⟩ = some (.slice A list.length c) := hblk.cell 4
          have hrc := hr.below hB
          clear hr
          go_upto_if 65 with fail
          go_cut [4] (fun s wd => ∃ acc : List UInt8, s = .string (Bs acc) ∧ Hid (acc = acc3 ++ (if list = [] then [] else [32, 108, 105, 115, 116])) ∧ acc.length ≤ 275 ∧ wd = wc)
          case first =>
            by_cases h0 : list = []
            · subst h0
              go_wp2
              go_meet
              case rel => exact ⟨_, rfl, Lib.hid (by simp), by omega, rfl⟩
            · have hp : 0 < list.length := List.length_pos_iff.2 h0
              have ht : decide (0 < (list.length : Int)) = true := by simp; omega
              have h0 := Lib.hid h0
              go_wp2
              go_meet
              case rel => exact ⟨_, rfl, Lib.hid (by rw [if_neg h0.out]), by simp; omega, rfl⟩
          case rest =>
            obtain ⟨acc4, rfl, ha4, hl4, rfl⟩ := hcut
            go_wp2
            go_loop [4, 5] (fun s i => ∃ k : Nat, k ≤ list.length ∧ i = .int .i64 k ∧ ∃ acc : List UInt8, s = .string (Bs acc) ∧ Hid (acc = acc4 ++ joinTail [32] ((list.take k).map itoa)) ∧ acc.length ≤ 275 + 21 * k) (fun _ i => list.length - (RowKit.intOf i).toNat)
            case atStart => exact ⟨0, by omega, rfl, acc4, rfl, Lib.hid (by simp [joinTail]), by omega⟩
            case round =>
              obtain ⟨k, hk, rfl, acc5, rfl, ha5, hl5⟩ := hrel
              by_cases hlt : k < list.length
              · obtain ⟨b, o, u, rfl, hu, hcell⟩ := hrc.at_ hlt
                obtain ⟨q, hq, rfl⟩ := nums_at hu
                have hqr := hlist q (List.mem_of_getElem? hq)
                have hlq := itoa_len20 q hqr.1 hqr.2
                have hst : Hid (acc5 ++ ([32] ++ itoa q) = acc4 ++ joinTail [32] ((list.take (k + 1)).map itoa)) := Lib.hid (by
                  rw [ha5.out, take_snoc_of hq, List.map_append, joinTail_app]
                  simp [joinTail])
                clear hq hu ha5 hlist
                go_wp2_with (go_at_call 45; refine (ref30_Num q hqr.1 hqr.2 _).mono ?_; rintro e w1 ⟨rfl, rfl⟩)
                go_round
                case rel => exact ⟨k + 1, by omega, by go_num, _, rfl, Lib.hid (by rw [← hst.out]; simp), by simp; omega⟩
                case measure => simp [RowKit.intOf]; omega
              · obtain rfl : k = list.length := by omega
                rw [List.take_length] at ha5
                have hfin : Hid (acc5 = lineR ⟨why, n, m, data, list⟩) := Lib.hid (by rw [ha5.out, ha4.out, ha3.out, ha2.out, ha1.out]; rfl)
                go_wp2
                go_ret2
                exact ⟨by rw [← hfin.out]; rfl, hB⟩
end Go.Proofs.YtmakpilfjopmeaaDoor
