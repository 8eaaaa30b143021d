/- Walks of package sector (Fill, Zero, Right, long, runs, Short). -/
import Derived.Test.YtmakpilfjopmeaaDoorEnv
import Derived.Test.YtmakpilfjopmeaaDoorRange
import Derived.Test.YtmakpilfjopmeaaDoorText
import Derived.BigQuiet
import Derived.Deep.QuietTactic
import Derived.RegionTactic
import Derived.RegionIn
import Derived.Sort.CutIn
import Derived.Lib.ConvBytes
set_option linter.unusedVariables false
set_option linter.unusedSimpArgs false
namespace Go.Proofs.YtmakpilfjopmeaaDoor
open Go Go.RowKit Go.Lib Go.Shelf
attribute [local go_sem] Oper.semAt_some

theorem sector_Right (l : List UInt8) (w : World) :
    Calls Tryd.prog 48 #[.string (Bs l)] w fun e w' => e = .returned (.bool (decide (l.length = 64))) ∧ w = w' := by
  have hs := Bs_size l
  by_cases h : l.length = 64
  · have h1 : (((l.length : Nat) : Int) == 64) = true := by simp [h]
    go_enter Tryd.func48, Tryd.ntmps48
    go_wp2
    go_ret
    exact ⟨by simp [h], rfl⟩
  · have h1 : (((l.length : Nat) : Int) == 64) = false := by simp; omega
    go_enter Tryd.func48, Tryd.ntmps48
    go_wp2
    go_ret
    exact ⟨by simp [h], rfl⟩

set_option maxRecDepth 100000 in
theorem sector_Fill (c : UInt8) (w : World) :
    Calls Tryd.prog 47 #[.int .u8 c.toNat] w fun e w' => e = .returned (.string (Bs (List.replicate 64 c))) ∧ Below w.heap.size w w' := by
  have hcv := conv_str (l := [c]) 1 (Rd.one w (.int .u8 c.toNat) 5)
  go_enter Tryd.func47, Tryd.ntmps47
  go_wp2_with (go_at_call 77; refine (repeat_any [c] 64 _ (by omega) (by simp)).mono ?_; rintro e w1 ⟨rfl, hb⟩)
  go_ret
  exact ⟨by rw [repeatL_one]; rfl, ((Below.refl _ _).alloc (Nat.le_refl _) _).trans (hb.mono (by simp))⟩

theorem sector_Zero (w : World) :
    Calls Tryd.prog 76 #[] w fun e w' => e = .returned (.string (Bs (List.replicate 64 0))) ∧ Below w.heap.size w w' := by
  go_enter Tryd.func76, Tryd.ntmps76
  go_wp2_with (go_at_call 47; refine (sector_Fill 0 _).mono ?_; rintro e w1 ⟨rfl, hb⟩)
  go_ret
  exact ⟨rfl, hb⟩

set_option maxRecDepth 100000 in
set_option maxHeartbeats 400000 in
theorem sector_long (c : UInt8) (l : List UInt8) (hl : (c :: l).length ≤ 1000000) (w : World) :
    Calls Tryd.prog 79 #[.string (Bs (c :: l))] w fun e w' => e = .returned (.int .i64 (longL (c :: l))) ∧ ∃ m, w' = w.drewN m := by
  have hs := Bs_size (c :: l)
  have hi0 := fun W => index_Bs0 (l := c :: l) (q := c) rfl W
  have hle := longL_le c l
  have hin := @longL_in c l
  have hout := @longL_out c l
  have hn1 : 1 ≤ longL (c :: l) := by simp [longL]
  generalize (c :: l) = s at *
  generalize longL s = n at *
  go_enter Tryd.func79, Tryd.ntmps79
  go_wp2
  go_loopw [3] (fun i wr => ∃ k : Nat, 1 ≤ k ∧ k ≤ n ∧ i = .int .i64 k ∧ ∃ m, wr = w.drewN m) (fun i _ => n - (RowKit.intOf i).toNat)
  case atStart => exact ⟨1, by omega, hn1, rfl, 0, rfl⟩
  case round =>
    obtain ⟨k, hk1, hk, rfl, m, rfl⟩ := hrel
    by_cases hlt : k < s.length
    · have d1 : decide (k < s.length) = true := by simpa using hlt
      by_cases hkn : k < n
      · have hik := fun W => index_Bs (hin hk1 hkn) W
        clear hin hout
        go_wp2
        go_quiet (fail)
        all_goals go_wp2
        go_roundw
        case rel => exact ⟨k + 1, by omega, by omega, by go_num, _, rfl⟩
        case measure => simp [RowKit.intOf]; omega
      · obtain rfl : k = n := by omega
        obtain ⟨q, hq⟩ : ∃ q, s[k]? = some q := ⟨_, List.getElem?_eq_getElem hlt⟩
        have hne : ((q.toNat : Int) == c.toNat) = false := by
          have := hout hq
          rw [beq_eq_false_iff_ne]
          intro e
          exact this (UInt8.toNat_inj.1 (by omega))
        have hik := fun W => index_Bs hq W
        clear hin hout hq
        go_wp2
        go_quiet (fail)
        all_goals go_wp2
        go_ret
        exact ⟨rfl, _, World.drewN_drewN ..⟩
    · have d1 : decide (k < s.length) = false := by simpa using hlt
      obtain rfl : k = n := by omega
      clear hin hout
      go_wp2
      go_quiet (fail)
      all_goals go_wp2
      go_ret
      exact ⟨rfl, _, World.drewN_drewN ..⟩

theorem sector_runs (l : List UInt8) (w : World) :
    Calls Tryd.prog 49 #[.string (Bs l)] w fun e w' => e = .returned (.func (.func 78) #[] #[.pointer (some ⟨w.heap.size, 0, none⟩)]) ∧ w' = w.alloc (.cells #[.string (Bs l)] 9) := by
  go_enter Tryd.func49, Tryd.ntmps49
  go_wp2
  go_ret
  exact ⟨rfl, rfl⟩

def boxLen (W : World) (b : Nat) : Nat := match W.cell? ⟨b, 0, none⟩ with | some (.string s) => s.size | _ => 0
def runEnc (x : UInt8 × Nat) : Array Value := #[.int .u8 x.1.toNat, .int .i64 x.2]

set_option maxRecDepth 100000 in
set_option maxHeartbeats 1000000 in
theorem runs_iter (l : List UInt8) (hl : l.length ≤ 1000000) (b : Nat) (W0 : World) (hb : Boxed W0 b 9 (.string (Bs l))) :
    Iter Tryd.prog 78 #[.pointer (some ⟨b, 0, none⟩)] runEnc (rle l) (fun i => i = b) W0 := by
  intro lp J Jx hJ hY Z W hZ hW h0
  have hbW : Boxed W b 9 (.string (Bs l)) := (hW.block b hb.lt).trans hb
  refine callsIn_wide.1 (callsIn_of_wp (n := 8) Tryd.func78 rfl trivial ?_ rfl)
  simp only [Tryd.ntmps78, List.size_toArray, List.length_cons, List.length_nil, Nat.reduceAdd, Nat.reduceSub, Array.replicate_succ, Array.replicate_zero, List.push_toArray, List.append_toArray, List.nil_append, List.cons_append]
  gi_wp2
  gi_loopw [3] (fun _ wr => ∃ (k : Nat) (rest : List UInt8) (Z : Nat → Prop), Boxed wr b 9 (.string (Bs rest)) ∧ rest.length ≤ l.length ∧ k ≤ (rle l).length ∧ (rle l).drop k = rle rest ∧ Z b ∧ J Z k wr) (fun _ wr => boxLen wr b)
  case atStart => exact ⟨0, l, Z, hbW, Nat.le_refl _, Nat.zero_le _, rfl, hZ b rfl, h0⟩
  case round =>
    obtain ⟨k, rest, Z, hbx, hrl, hkl, hk, hZb, hJs⟩ := hrel
    have hc := hbx.cell
    have hf := hbx.frozen
    cases rest with
    | nil =>
      have he : (Bs []).toList.isEmpty = true := Bs_isEmpty []
      gi_wp2
      go_end0
      have hlen : (rle l).length ≤ k := by
        rw [rle] at hk
        exact List.drop_eq_nil_iff.1 hk
      obtain rfl : k = (rle l).length := by omega
      exact ⟨⟨_, rfl⟩, .inl ⟨Z, hJs⟩⟩
    | cons c rest =>
      have he : (Bs (c :: rest)).toList.isEmpty = false := Bs_isEmpty (c :: rest)
      have hk' : (rle l)[k]? = some (c, longL (c :: rest)) := by
        have : ((rle l).drop k)[0]? = some (c, longL (c :: rest)) := by rw [hk, rle_cons]; rfl
        simpa using this
      have hi0 := fun W => index_Bs0 (l := c :: rest) (q := c) rfl W
      have hle := longL_le c rest
      have hL := sector_long c rest (by omega)
      have hex := Bs_extract (c :: rest)
      have hsz := Bs_size (c :: rest)
      gi_wp2_with fail
      refine ⟨trivial, callsIn_wide.2 ((hL _).mono ?_)⟩
      rintro e w1 ⟨rfl, m, rfl⟩
      obtain ⟨fn, tmps, assign, body, hy, hR⟩ := hY Z k (wr.drewN m) _ (hJ _ _ _ _ _ hJs (GrowsIn.drewN _ _ m) (fun _ h => h) (fun _ h => .inl h)) hk'
      dsimp only [runEnc] at hy
      gi_wp2
      refine hR.mono ?_
      clear hy hR hY
      rintro e W3 (⟨rfl, hJ3, hk3⟩ | ⟨rfl, hJx3⟩)
      · have hb3 : Boxed W3 b 9 (.string (Bs (c :: rest))) := (hk3.block b hbx.lt hZb).trans hbx
        have hc3 := hb3.cell
        have hf3 := hb3.frozen
        have HJ := Lib.hid hJ
        clear hc hf hi0 hJ hL
        obtain ⟨n, hn⟩ : ∃ n, n = longL (c :: rest) := ⟨_, rfl⟩
        have hk3' := congrArg List.tail hk
        rw [rle_cons, List.tail_drop, List.tail_cons] at hk3'
        rw [← hn] at hle hk3' ⊢
        have hkl' : k < (rle l).length := (List.getElem?_eq_some_iff.1 hk').1
        have hn1 : 1 ≤ n := by rw [hn]; simp [longL]
        clear hk hk' hn
        generalize hs : c :: rest = s at *
        have hrl' : (s.drop n).length < s.length := by simp; omega
        have hrl2 : (s.drop n).length ≤ l.length := by omega
        have hdl : (s.drop n).take (s.length - n) = s.drop n := List.take_of_length_le (by simp)
        clear hs
        gi_wp2
        go_roundw
        case rel =>
          exact ⟨k + 1, s.drop n, Z, hb3.set _, hrl2, hkl', hk3', hZb, HJ.out _ _ _ _ _ hJ3 (GrowsIn.set_ (Z := fun i => i = b) (GrowsIn.refl _ W3) (p := ⟨b, 0, none⟩) (.inl rfl) _) (fun _ h => h) (fun _ h => .inl h)⟩
        case measure =>
          have e1 := (hb3.set (.string (Bs (s.drop n)))).cell
          have e2 := hbx.cell
          simp only [boxLen, e1, e2]
          rw [Bs_size, Bs_size]
          exact hrl'
      · gi_wp2
        refine bodyPost_ret (results_none rfl _ _ _) rfl ?_
        exact ⟨⟨_, rfl⟩, .inr hJx3⟩

end Go.Proofs.YtmakpilfjopmeaaDoor
