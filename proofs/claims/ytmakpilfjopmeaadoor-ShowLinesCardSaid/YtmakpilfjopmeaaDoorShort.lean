/- sector.Short. -/
import Derived.Test.YtmakpilfjopmeaaDoorSector
import Derived.BigQuiet
import Derived.Deep.QuietTactic
import Derived.RegionTactic
import Derived.RegionIn
import Derived.Sort.CutIn
import Derived.Lib.ConvBytes
import Derived.Lib.ItoaLen
set_option linter.unusedVariables false
set_option linter.unusedSimpArgs false
namespace Go.Proofs.YtmakpilfjopmeaaDoor
open Go Go.RowKit Go.Lib Go.Shelf
attribute [local go_sem] Oper.semAt_some

theorem and15 (n : Nat) (h : n < 256) : bits BinOp.and IntKind.u8 (n : Int) 15 = (n : Int) % 16 := by
  have e : ∀ n : Nat, n < 256 → bits BinOp.and IntKind.u8 (n : Int) 15 = (n : Int) % 16 := by decide +kernel
  exact e n h
theorem hexAt (n : Nat) (h : n < 16) : (⟨#[48, 49, 50, 51, 52, 53, 54, 55, 56, 57, 97, 98, 99, 100, 101, 102]⟩ : ByteArray)[n]'h = hexDigit n := by
  have e : ∀ n : Nat, ∀ h : n < 16, (⟨#[48, 49, 50, 51, 52, 53, 54, 55, 56, 57, 97, 98, 99, 100, 101, 102]⟩ : ByteArray)[n]'h = hexDigit n := by decide
  exact e n h
theorem index_hex (n : Nat) (h : n < 16) (W : World) :
    (Instr.index 9 (.string ⟨#[48, 49, 50, 51, 52, 53, 54, 55, 56, 57, 97, 98, 99, 100, 101, 102]⟩) (.int .u8 (n : Int))).run Tryd.prog W = .ok (.int .u8 (hexDigit n).toNat) W := by
  have e : ∀ n : Nat, n < 16 → (⟨#[48, 49, 50, 51, 52, 53, 54, 55, 56, 57, 97, 98, 99, 100, 101, 102]⟩ : ByteArray)[n]? = some (hexDigit n) := by decide
  simp only [Instr.index, asIntOf, Sem.run_bind, Sem.run_pure, Result.andThen_ok, run_underlying Tryd.underlying9]
  rw [if_pos (by omega), Int.toNat_natCast, e n h]
  rfl
theorem strs_take_snoc {l : List UInt8} {k : Nat} {x : UInt8 × Nat} (h : (rle l)[k]? = some x) : strs (((rle l).take (k + 1)).map runWord) = strs (((rle l).take k).map runWord) ++ [.string (Bs (runWord x))] := by
  rw [take_snoc_of h]
  simp [strs]

theorem tStr : ElemT Tryd.prog 66 9 (.string ⟨#[]⟩) 16 := ⟨Tryd.underlying66, by kernel_rfl, rfl⟩
set_option maxRecDepth 100000 in
set_option maxHeartbeats 2000000 in
theorem sector_Short_right (l : List UInt8) (h64 : l.length = 64) (w : World) (hE : Env w) :
    Calls Tryd.prog 24 #[.string (Bs l)] w fun e w' => e = .returned (.string (Bs (shortL l))) ∧ Below w.heap.size w w' := by
  have hR := sector_Right l
  simp only [h64, decide_true] at hR
  refine callsIn_wide.1 (callsIn_of_wp_marks (n := 9) Tryd.func24 rfl trivial ?_ rfl)
  simp only [Tryd.ntmps24, List.size_toArray, List.length_cons, List.length_nil, Nat.reduceAdd, Nat.reduceSub, Array.replicate_succ, Array.replicate_zero, List.push_toArray, List.append_toArray, List.nil_append, List.cons_append]
  gi_wp2_with (first
    | (refine ⟨trivial, ?_⟩; gi_at_call 48; refine (callsIn_wide.2 (hR _)).mono ?_; rintro e w1 ⟨rfl, rfl⟩)
    | (refine ⟨trivial, ?_⟩; gi_at_call 49; refine (callsIn_wide.2 (sector_runs l _)).mono ?_; rintro e w1 ⟨rfl, rfl⟩))
  have bO := Boxed.new w 66 (.slice none 0 0)
  have bS := Boxed.new (w.alloc (.cells #[.slice none 0 0] 66)) 9 (.string (Bs l))
  rw [World.size_alloc] at bS
  have hB0 : Below w.heap.size w ((w.alloc (.cells #[.slice none 0 0] 66)).alloc (.cells #[.string (Bs l)] 9)) := ((Below.refl _ w).alloc (Nat.le_refl _) _).alloc (by simp) _
  refine range_law (gf := 78) (lb := #[.pointer (some ⟨w.heap.size + 1, 0, none⟩)]) rfl (enters_of Tryd.func78 (by kernel_rfl) rfl)
    (runs_iter l (by omega) _ _ bS) (fun i hi => by subst hi; simp) (fun _ => rfl)
    (fun Z k W => Coll w w.heap.size 66 9 Z k (strs (((rle l).take k).map runWord)) W)
    (fun _ _ _ => False) (fun _ _ _ _ _ h hg hz => h.step hg hz) (fun _ _ _ _ _ h _ => h) ?h0
    (fun x => { tmps := #[.string (Bs l), undef, .string ⟨#[]⟩, .pointer (some ⟨w.heap.size, 0, none⟩), .int .u8 x.1.toNat, .int .i64 x.2, undef, .string (Bs l), .bool true, .bool false, .string (Bs l), .func (.func 78) #[] #[.pointer (some ⟨w.heap.size + 1, 0, none⟩)], .int .u8 x.1.toNat, .int .i64 x.2, undef, undef, undef, undef, undef, undef, undef, undef, undef, undef, undef, undef, undef, undef, undef, undef, undef, undef, undef, undef, undef], defers := [] }) ?assign ?body ?done ?stop
  case h0 => exact ⟨_, bO.alloc _, World.ownsRow_nil _ _ _ _, fun g h => by simp [Value.ownBlock] at h, by simp, fun i h => by subst h; simp, hB0⟩
  case assign =>
    intro lp x W K hK
    dsimp only [runEnc]
    gi_wp2
    exact hK
  case body =>
    rintro lp Z k ⟨c, n⟩ W ⟨v, hv, hrow, hvz, hxz, hZ, hB⟩ hx
    have hc := hv.cell
    have hA := fun W => index_hex (c.toNat / 16) (by have := c.toNat_lt; omega) W
    have hA2 := fun W => index_hex (c.toNat % 16) (by omega) W
    rw [Int.natCast_ediv] at hA
    rw [Int.natCast_emod] at hA2
    have c0 : 0 ≤ (c.toNat : Int) := by omega
    have c1 : (c.toNat : Int) ≤ 255 := by have := c.toNat_lt; omega
    have d0 : 0 ≤ (c.toNat : Int) / 16 := by omega
    have d1 : (c.toNat : Int) / 16 < 16 := by omega
    have m0 : 0 ≤ (c.toNat : Int) % 16 := by omega
    have m1 : (c.toNat : Int) % 16 < 16 := by omega
    have hand : bits BinOp.and IntKind.u8 (c.toNat : Int) 15 = (c.toNat : Int) % 16 := and15 c.toNat c.toNat_lt
    have hcv : ∀ q1 q2 : UInt8, (convert 84 9 (.slice (some ⟨W.heap.size, 0, none⟩) 2 2)).run Tryd.prog (W.alloc (.cells #[.int .u8 q1.toNat, .int .u8 q2.toNat] 5)).drew = .ok (.string (Bs [q1, q2])) (W.alloc (.cells #[.int .u8 q1.toNat, .int .u8 q2.toNat] 5)).drew :=
      fun q1 q2 => conv_str (l := [q1, q2]) 2 (Rd.two W (.int .u8 q1.toNat) (.int .u8 q2.toNat) 5).drew
    gi_wp2_with fail
    gi_cut [6] from 14 (fun s6 wc => s6 = .string (Bs [hexDigit (c.toNat / 16), hexDigit (c.toNat % 16)]) ∧ ∃ o, wc = (W.alloc o).drew)
    case first =>
      gi_region
      all_goals
        gi_wp2_with fail
        gi_meet
        case rel =>
          exact ⟨by rw [← hexAt _ (by omega), ← hexAt _ (by omega)]; rfl, _, rfl⟩
    case rest =>
      obtain ⟨rfl, o, rfl⟩ := hcut
      have hb2 : Below W.heap.size W (W.alloc o).drew := ((Below.refl _ _).alloc (Nat.le_refl _) _).drew
      obtain ⟨W2, hW2⟩ : ∃ W2, W2 = (W.alloc o).drew := ⟨_, rfl⟩
      rw [← hW2] at hb2 ⊢
      clear hcv hand hW2 hA hA2 c0 c1 d0 d1 m0 m1 hc
      have hk := (List.getElem?_eq_some_iff.1 hx).1
      have hrl := rle_length_le l
      have hn := rle_sum l k _ hx
      have hE2 := hE.below (hB.trans (hb2.mono hB.size))
      have hsz := Bs_size
      have hcat : ∀ a b, Bs a ++ Bs b = Bs (a ++ b) := Bs_append
      have h42 : (⟨#[42]⟩ : ByteArray) = Bs [42] := rfl
      have hsn := Lib.hid (strs_take_snoc hx)
      have hk64 : k < 64 := by omega
      have hn64 : n ≤ 64 := by simp only [h64] at hn; exact hn
      clear hx hk hrl hn bO bS hB0 hR h64
      have hcell := (hb2.cell (p := ⟨w.heap.size, 0, none⟩) hv.lt).trans hv.cell
      have hrow2 : W2.ownsRow w.heap.size 9 1 v k (strs (((rle l).take k).map runWord)) := hrow.kept (own_grown_below hb2) (by rcases v.ownBlock with _ | _ <;> simp)
      have hB2 := hB.trans (hb2.mono hB.size)
      by_cases h1 : 1 < n
      · have d1 : decide (1 < (n : Int)) = true := by simp; omega
        have hw : runWord (c, n) = [hexDigit (c.toNat / 16), hexDigit (c.toNat % 16)] ++ ([42] ++ itoa n) := by simp [runWord, h1]
        have hil : (itoa (n : Int)).length ≤ 21 := itoa_length_le n (by omega) (by omega)
        gi_wp2_with (first
          | (refine ⟨trivial, ?_⟩
             gi_at_call 42
             refine (CallsIn.inRound lp (callsIn_wide.2 (itoa_any n (by omega) (by omega) _ hE2))).mono ?_
             rintro e w1 ⟨rfl, hb3⟩
             have hb13 := hb2.trans (hb3.mono hb2.size)
             have hB1 := hB2.trans (hb3.mono hB2.size)
             have hcell1 := (hb3.cell (p := ⟨w.heap.size, 0, none⟩) (World.block_lt_of_cell? W2 _ hcell)).trans hcell
             have hrow1 := hrow2.kept (own_grown_below hb3) (by rcases v.ownBlock with _ | _ <;> simp)
             clear hcell hrow2 hB2)
          | (gi_at_builtin
             refine wpListIn_app1 (w := w) tStr rfl (.tmp 29) (.tmp 31) rfl rfl hrow1 rfl rfl ?_ ?_ hB1 ?_ ?_
             · omega
             · omega
             · exact hB1.size
             intro v4 W4 hown4 hB4 hg4 hat4
             obtain ⟨g', cap', rfl⟩ := ownsRow_succ hown4
             obtain ⟨hbx4, hkz, hcoll⟩ := Coll.appended (by decide) hv hrow hvz hxz hZ hB (Nat.le_refl _) hb13 hown4 hB4 hg4 hat4
             have hc4 := hbx4.cell
             have hf4 := hbx4.frozen
             clear hcell1 hrow1))
        exact ⟨hkz, by dsimp only; rw [hsn.out, hw]; exact hcoll⟩
      · have d1 : decide (1 < (n : Int)) = false := by simp; omega
        have hw : runWord (c, n) = [hexDigit (c.toNat / 16), hexDigit (c.toNat % 16)] := by simp [runWord, h1]
        gi_wp2_with (gi_at_builtin
                     refine wpListIn_app1 (w := w) tStr rfl (.tmp 29) (.tmp 31) rfl rfl hrow2 rfl rfl ?_ ?_ hB2 ?_ ?_
                     · omega
                     · omega
                     · exact hB2.size
                     intro v4 W4 hown4 hB4 hg4 hat4
                     obtain ⟨g', cap', rfl⟩ := ownsRow_succ hown4
                     obtain ⟨hbx4, hkz, hcoll⟩ := Coll.appended (by decide) hv hrow hvz hxz hZ hB (Nat.le_refl _) hb2 hown4 hB4 hg4 hat4
                     have hc4 := hbx4.cell
                     have hf4 := hbx4.frozen
                     clear hcell hrow2)
        exact ⟨hkz, by dsimp only; rw [hsn.out, hw]; exact hcoll⟩
  case done =>
    rintro D Z W hD _ ⟨v, hv, hrow, _, _, _, hB⟩ hK
    have hc := hv.cell
    rw [List.take_length] at hrow
    obtain ⟨A, c, rfl, hcap⟩ := own_slice hrow
    have hr := Rd.of_own hrow
    have hrl := rle_length_le l
    have hjl : (join ((rle l).map runWord) [32]).length ≤ 1000000000 := by
      have := join_len ((rle l).map runWord) 30 (fun x hx => by
        simp only [List.mem_map] at hx
        obtain ⟨y, hy, rfl⟩ := hx
        obtain ⟨k, hk⟩ := List.mem_iff_getElem?.1 hy
        have hy2 := rle_sum l k y hk
        have := itoa_length_le (y.2 : Int) (by omega) (by omega)
        simp only [runWord]
        split <;> simp <;> omega)
      simp only [List.length_map] at this
      have h2 : (rle l).length * 31 ≤ 64 * 31 := Nat.mul_le_mul_right _ (by omega)
      omega
    have hn64 : (rle l).length ≤ 1000000 := by omega
    clear hrl
    have hsL : Hid (shortL l = join ((rle l).map runWord) [32]) := by unfold shortL; exact if_pos h64
    have hj := fun W => join_any A (rle l).length c ((rle l).map runWord) [32] W
    clear h64 hR
    gi_wp2_with (refine ⟨trivial, ?_⟩
                 gi_at_call 43
                 refine (callsIn_wide.2 (hj _ hr hcap hn64 hjl)).mono ?_
                 rintro e w5 ⟨rfl, hb5⟩)
    have hK5 := (hb5.block D (Array.getElem?_eq_some_iff.1 hK).1).trans hK
    refine ⟨by simp, .inl ⟨_, _, rfl, run_takeDeferred hK5, ?_⟩⟩
    refine ⟨_, results_tmp rfl _ _ _, ?_, ?_⟩
    · rw [hsL.out]; rfl
    · have hB5 := hB.trans (hb5.mono hB.size)
      exact hB5.trans (belowK_b (w := w) (Nat.le_refl _) w5 D _ _ (by simp at hD; omega) hK5 rfl rfl)
  case stop =>
    rintro D c Z W _ _ h _
    exact h.elim

theorem sector_Short (l : List UInt8) (w : World) (hE : Env w) :
    Calls Tryd.prog 24 #[.string (Bs l)] w fun e w' => e = .returned (.string (Bs (shortL l))) ∧ Below w.heap.size w w' := by
  by_cases h : l.length = 64
  · exact sector_Short_right l h w hE
  · have hR := sector_Right l
    simp only [h, decide_false] at hR
    have e : shortL l = [] := by unfold shortL; exact if_neg h
    rw [e]
    go_enter Tryd.func24, Tryd.ntmps24
    go_wp2_with (go_at_call 48; refine (hR _).mono ?_; rintro e w1 ⟨rfl, rfl⟩)
    go_ret
    exact ⟨rfl, Below.refl _ _⟩
end Go.Proofs.YtmakpilfjopmeaaDoor
