/- sector.part and sector.Long. -/
import Derived.Test.YtmakpilfjopmeaaDoorShort
import Derived.Test.YtmakpilfjopmeaaDoorText2
set_option linter.unusedVariables false
set_option linter.unusedSimpArgs false
namespace Go.Proofs.YtmakpilfjopmeaaDoor
open Go Go.RowKit Go.Lib Go.Shelf

theorem atoi_bad (l : List UInt8) (h : ∀ v, atoiAll l ≠ .ok v) (w : World) (hE : Env w) (hl : l.length ≤ 1000000) :
    Calls Tryd.prog 68 #[.string (Bs l)] w fun e w' => (∃ (v : Int) (N : Nat), e = .returned (.tuple #[.int .i64 v, .iface 135 (.pointer (some ⟨N, 0, none⟩))])) ∧ Below w.heap.size w w' := by
  have hs : (Bs l).size ≤ 281474976710656 := by rw [Bs_size]; omega
  rcases hc : atoiAll l with v | _ | _
  · exact absurd hc (h v)
  · obtain ⟨te, pe, hv⟩ := hE.syn
    exact (Tryd.strconv_Atoi_syntax (Bs l) hs hc _ w hv (.inr ⟨te, pe, rfl⟩)).mono fun e w' ⟨N, he, _, _, hb⟩ => ⟨⟨_, N, he⟩, hb⟩
  · obtain ⟨te, pe, hv⟩ := hE.ran
    exact (Tryd.strconv_Atoi_range (Bs l) hs hc _ w hv (.inr ⟨te, pe, rfl⟩)).mono fun e w' ⟨N, he, _, _, hb⟩ => ⟨⟨_, N, he⟩, hb⟩

theorem split_any (l : List UInt8) (c : UInt8) (w : World) (hE : Env w) (hl : l.length ≤ 1000000) :
    Calls Tryd.prog 38 #[.string (Bs l), .string (Bs [c])] w fun e w' => e = .returned (.slice (some ⟨w.heap.size, 0, none⟩) (splitL c l).length (splitL c l).length) ∧ Rd w' (some ⟨w.heap.size, 0, none⟩) (splitL c l).length (strs (splitL c l)) ∧ Below w.heap.size w w' := by
  obtain ⟨m, hm⟩ := hE.maxl
  have hB : splitB (Bs [c]) 0 (countB (Bs l) (Bs [c])) (Bs l) = (splitL c l).map Bs := by
    have h1 := splitB_data (Bs [c]) 0 (countB (Bs l) (Bs [c])) (Bs l)
    rw [show countB (Bs l) (Bs [c]) = count l [c] from rfl, show (Bs [c]).data.toList = [c] from rfl, show (Bs l).data.toList = l from rfl, splitK_eq c (l.length + 1) l (by omega)] at h1
    rw [← h1, List.map_map]
    exact ((List.map_congr_left (fun s _ => Bs_of s)).trans (List.map_id _)).symm
  have hlen : countB (Bs l) (Bs [c]) + 1 = (splitL c l).length := by
    have := splitB_all (Bs [c]) (by rw [Bs_size]; exact Nat.le_refl _) 0 _ (Bs l) rfl
    rw [hB, List.length_map] at this
    exact this.symm
  refine (Tryd.strings_Split (Bs l) (Bs [c]) m w (by rw [Bs_size]; omega) hm (by rw [Bs_size]; exact Nat.le_refl _)).mono ?_
  rintro e w' ⟨he, hw⟩
  rw [hlen] at he
  rw [hB] at hw
  refine ⟨he, ⟨by rw [strs_length], fun _ => ⟨_, _, rfl, fun j u hu => ?_⟩⟩, by rw [hw]; exact (Below.refl _ _).alloc (Nat.le_refl _) _⟩
  rw [hw, cell_of_row _ _ _ _ _ _ (heap_alloc_new w _), Nat.zero_add, List.map_map]
  simpa [strs, Function.comp_def] using hu

def hexes : List UInt8 := [48, 49, 50, 51, 52, 53, 54, 55, 56, 57, 97, 98, 99, 100, 101, 102]
def hexIdx (x : UInt8) : Int := indexByte hexes x
theorem hexIdx_range (x : UInt8) : -1 ≤ hexIdx x ∧ hexIdx x ≤ 15 := by
  have e : ∀ n : Nat, n < 256 → -1 ≤ indexByte hexes (UInt8.ofNat n) ∧ indexByte hexes (UInt8.ofNat n) ≤ 15 := by decide +kernel
  have := e x.toNat x.toNat_lt
  rwa [UInt8.ofNat_toNat] at this
theorem hexIdx_call (x : UInt8) (W : World) :
    Calls Tryd.prog 80 #[.string ⟨#[48, 49, 50, 51, 52, 53, 54, 55, 56, 57, 97, 98, 99, 100, 101, 102]⟩, .int .u8 x.toNat] W fun e w' => e = .returned (.int .i64 (hexIdx x)) ∧ w' = W :=
  (Tryd.strings_IndexByte _ _ W).mono fun e w' ⟨he, hw⟩ => ⟨by rw [he]; simp [hexIdx, hexes], hw⟩

/-- What 'part' answers at a word. -/
def PartPost (w : List UInt8) (W : World) (e : Ending) (W' : World) : Prop :=
  ∃ (p : List UInt8) (ok : Bool), e = .returned (.tuple #[.string (Bs p), .bool ok]) ∧ p.length ≤ 64 ∧ (∀ c n, 1 ≤ n → n ≤ 64 → w = runWord (c, n) → ok = true ∧ p = List.replicate n c) ∧ Below W.heap.size W W'

def joinHex (a b : Int) : UInt8 := UInt8.ofNat (bits BinOp.or IntKind.i64 (a * 16) b % 256).toNat
theorem joinHex_of (c : UInt8) : joinHex ((c.toNat / 16 : Nat) : Int) ((c.toNat % 16 : Nat) : Int) = c := by
  have e : ∀ n : Nat, n < 256 → joinHex ((n / 16 : Nat) : Int) ((n % 16 : Nat) : Int) = UInt8.ofNat n := by decide +kernel
  rw [e c.toNat c.toNat_lt, UInt8.ofNat_toNat]
theorem conv_mod (W : World) (n : Nat) (z : Int) : (convert 84 9 (.slice (some ⟨W.heap.size, 0, none⟩) 1 1)).run Tryd.prog ((W.drewN n).alloc (.cells #[.int .u8 (z % 256)] 5)) = .ok (.string (Bs [UInt8.ofNat (z % 256).toNat])) ((W.drewN n).alloc (.cells #[.int .u8 (z % 256)] 5)) := by
  have h := conv_str (l := [UInt8.ofNat (z % 256).toNat]) 1 (Rd.one (W.drewN n) (.int .u8 ((UInt8.ofNat (z % 256).toNat).toNat : Nat)) 5)
  have e : ((UInt8.ofNat (z % 256).toNat).toNat : Int) = z % 256 := by rw [UInt8.toNat_ofNat']; omega
  rw [e] at h
  exact h
theorem conv_mod0 (W : World) (z : Int) : (convert 84 9 (.slice (some ⟨W.heap.size, 0, none⟩) 1 1)).run Tryd.prog (W.alloc (.cells #[.int .u8 (z % 256)] 5)) = .ok (.string (Bs [UInt8.ofNat (z % 256).toNat])) (W.alloc (.cells #[.int .u8 (z % 256)] 5)) := conv_mod W 0 z
theorem part_facts {w b : List UInt8} {x y c : UInt8} {n : Nat} {star : Bool} (hcut : cut w [42] = ([x, y], b, star)) (hw : w = runWord (c, n)) :
    hexIdx x = ((c.toNat / 16 : Nat) : Int) ∧ hexIdx y = ((c.toNat % 16 : Nat) : Int) ∧ star = decide (1 < n) ∧ (1 < n → b = itoa n) := by
  subst hw
  rw [cut_run] at hcut
  simp only [Prod.mk.injEq, List.cons.injEq, and_true] at hcut
  obtain ⟨⟨ha, hb⟩, hn, hd⟩ := hcut
  have cl := c.toNat_lt
  refine ⟨by rw [← ha]; exact hexDigit_index _ (by omega), by rw [← hb]; exact hexDigit_index _ (by omega), hd.symm, fun h => ?_⟩
  rw [if_pos h] at hn
  exact hn.symm
theorem repeat_one (q : UInt8) (n : Nat) : repeatL [q] n = List.replicate n q := repeatL_one q n

set_option maxRecDepth 100000 in
set_option maxHeartbeats 1000000 in
theorem part_two (w b : List UInt8) (x y : UInt8) (star : Bool) (hcut : cut w [42] = ([x, y], b, star)) (hw : w.length ≤ 1000000) (hbl : b.length ≤ 1000000) (W : World) (hE : Env W) :
    Calls Tryd.prog 50 #[.string (Bs w)] W (PartPost w W) := by
  have hi0 := fun W => index_Bs0 (l := [x, y]) (q := x) rfl W
  have hi1 := fun W => index_Bs1 (l := [x, y]) (q := y) rfl W
  have hC := fun W => cut_any w [42] W
  rw [hcut] at hC
  have h42 : (⟨#[42]⟩ : ByteArray) = Bs [42] := rfl
  have hsz := Bs_size
  have hcv := conv_mod
  have hcv0 := conv_mod0
  have hf := Lib.hid (fun (c : UInt8) (n : Nat) => part_facts (c := c) (n := n) hcut)
  obtain ⟨hx0, hx1⟩ := hexIdx_range x
  obtain ⟨hy0, hy1⟩ := hexIdx_range y
  clear hcut
  cases star
  · go_enter Tryd.func50, Tryd.ntmps50
    go_wp2_with (go_at_call 67; refine (hC _ hE hw).mono ?_; rintro e w1 ⟨rfl, hb1⟩)
    go_quiet ((go_at_call 80; exact Calls.quiet_of_same (hexIdx_call _ _)))
    generalize hexIdx x = hx at *
    generalize hexIdx y = hy at *
    all_goals go_wp2_with (go_at_call 77; refine (repeat_any _ 1 _ (by omega) (by simp)).mono ?_; rintro e w2 ⟨rfl, hb2⟩)
    all_goals go_ret2
    · refine ⟨_, true, rfl, by rw [repeat_one]; simp, fun c n h1 h2 h => ⟨rfl, ?_⟩, ?_⟩
      · obtain ⟨ha, hb, hs, _⟩ := hf.out c n h
        rw [repeat_one]
        have hn : n = 1 := by have : ¬ 1 < n := by simpa using hs.symm
                              omega
        subst hn
        rw [ha, hb]
        have := joinHex_of c
        unfold joinHex at this
        rw [this]
      · exact bnext hb1 (bnext (bdrewN _ _) (bnext (balloc _ _) hb2))
    · exact ⟨[], false, rfl, by simp, fun c n h1 h2 h => by obtain ⟨ha, hb, _⟩ := hf.out c n h; omega, bnext hb1 (bdrewN _ _)⟩
    · exact ⟨[], false, rfl, by simp, fun c n h1 h2 h => by obtain ⟨ha, hb, _⟩ := hf.out c n h; omega, bnext hb1 (bdrewN _ _)⟩
  · have hbad : (∀ v, atoiAll b ≠ .ok v) ∨ ∃ v, atoiAll b = .ok v := by
      rcases h : atoiAll b with v | _ | _
      · exact .inr ⟨v, rfl⟩
      · exact .inl fun v q => by cases q
      · exact .inl fun v q => by cases q
    rcases hbad with hbad | ⟨v, hv⟩
    · have hnot := Lib.hid (fun (c : UInt8) (n : Nat) (h2 : n ≤ 64) (h : w = runWord (c, n)) => by
        obtain ⟨_, _, hs, hb⟩ := hf.out c n h
        have h1 : 1 < n := by simpa using hs.symm
        have := atoiAll_itoa (n : Int) (by omega) (by omega)
        rw [← hb h1] at this
        exact hbad _ this)
      have hAt := fun W => atoi_bad b hbad W
      clear hbad hf
      go_enter Tryd.func50, Tryd.ntmps50
      go_wp2_with (go_at_call 67; refine (hC _ hE hw).mono ?_; rintro e w1 ⟨rfl, hb1⟩)
      go_quiet ((go_at_call 80; exact Calls.quiet_of_same (hexIdx_call _ _)))
      generalize hexIdx x = hx at *
      generalize hexIdx y = hy at *
      have hE2 := hE.below (bnext hb1 (bdrewN _ nq))
      all_goals go_wp2_with (go_at_call 68; refine (hAt _ hE2 hbl).mono ?_; rintro e w2 ⟨⟨v, N, rfl⟩, hb2⟩)
      all_goals go_ret2
      all_goals exact ⟨[], false, rfl, by simp, fun c n h1 h2 h => (hnot.out c n h2 h).elim, bnext hb1 (bnext (bdrewN _ _) hb2)⟩
    · have hfv := Lib.hid (fun (c : UInt8) (n : Nat) (h2 : n ≤ 64) (h : w = runWord (c, n)) => show v = n ∧ hexIdx x = ((c.toNat / 16 : Nat) : Int) ∧ hexIdx y = ((c.toNat % 16 : Nat) : Int) by
        obtain ⟨ha, hb', hs, hb⟩ := hf.out c n h
        have h1 : 1 < n := by simpa using hs.symm
        have := atoiAll_itoa (n : Int) (by omega) (by omega)
        rw [← hb h1, hv] at this
        injection this with this
        exact ⟨this, ha, hb'⟩)
      have hAt := fun W => atoi_ok b v hv W hbl
      have hvb := atoiAll_bounds hv
      clear hv hf
      by_cases hin : 1 ≤ v ∧ v ≤ 64
      · obtain ⟨m, rfl⟩ : ∃ m : Nat, v = m := ⟨v.toNat, by omega⟩
        obtain ⟨h1m, h2m⟩ := hin
        clear hvb
        go_enter Tryd.func50, Tryd.ntmps50
        go_wp2_with (go_at_call 67; refine (hC _ hE hw).mono ?_; rintro e w1 ⟨rfl, hb1⟩)
        go_quiet ((go_at_call 80; exact Calls.quiet_of_same (hexIdx_call _ _)))
        generalize hexIdx x = hx at *
        generalize hexIdx y = hy at *
        all_goals go_wp2_with (first
          | (go_at_call 68; refine (hAt _).mono ?_; rintro e w2 ⟨rfl, hb2⟩)
          | (go_at_call 77; refine (repeat_any _ m _ (by omega) (by simp)).mono ?_; rintro e w3 ⟨rfl, hb3⟩))
        all_goals go_ret2
        · refine ⟨_, true, rfl, by rw [repeat_one]; simp; omega, fun c n h1 h2 h => ⟨rfl, ?_⟩, ?_⟩
          · obtain ⟨hn, ha, hb⟩ := hfv.out c n h2 h
            rw [repeat_one]
            have hn : m = n := by omega
            subst hn
            rw [ha, hb]
            have := joinHex_of c
            unfold joinHex at this
            rw [this]
          · exact bnext hb1 (bnext (bdrewN _ _) (bnext hb2 (bnext (balloc _ _) hb3)))
        all_goals exact ⟨[], false, rfl, by simp, fun c n h1 h2 h => by obtain ⟨hn, ha, hb⟩ := hfv.out c n h2 h; omega, bnext hb1 (bnext (bdrewN _ _) hb2)⟩
      · have hnot := Lib.hid (fun (c : UInt8) (n : Nat) (h1 : 1 ≤ n) (h2 : n ≤ 64) (h : w = runWord (c, n)) => by
          obtain ⟨hn, _⟩ := hfv.out c n h2 h
          exact hin (by omega))
        clear hfv
        rcases (by omega : v < 1 ∨ 64 < v) with hv1 | hv1
        all_goals
          clear hin
          go_enter Tryd.func50, Tryd.ntmps50
          go_wp2_with (go_at_call 67; refine (hC _ hE hw).mono ?_; rintro e w1 ⟨rfl, hb1⟩)
          go_quiet ((go_at_call 80; exact Calls.quiet_of_same (hexIdx_call _ _)))
          generalize hexIdx x = hx at *
          generalize hexIdx y = hy at *
          all_goals go_wp2_with (go_at_call 68; refine (hAt _).mono ?_; rintro e w2 ⟨rfl, hb2⟩)
          all_goals go_ret2
          all_goals exact ⟨[], false, rfl, by simp, fun c n h1 h2 h => (hnot.out c n h1 h2 h).elim, bnext hb1 (bnext (bdrewN _ _) hb2)⟩

set_option maxRecDepth 100000 in
set_option maxHeartbeats 1000000 in
theorem sector_part (w : List UInt8) (hw : w.length ≤ 1000000) (W : World) (hE : Env W) :
    Calls Tryd.prog 50 #[.string (Bs w)] W (PartPost w W) := by
  obtain ⟨a, b, star, hcut⟩ : ∃ a b star, cut w [42] = (a, b, star) := ⟨_, _, _, rfl⟩
  have hbl : b.length ≤ 1000000 := by
    have h : (cut w [42]).2.1.length ≤ w.length := by
      unfold cut
      split
      · simp
      · simp
    rw [hcut] at h
    simp at h
    omega
  by_cases h2 : a.length = 2
  · match a, h2 with
    | [x, y], _ => exact part_two w b x y star hcut hw hbl W hE
  · have hC := cut_any w [42] W hE hw
    rw [hcut] at hC
    have hnot := Lib.hid (fun (c : UInt8) (n : Nat) (h : w = runWord (c, n)) => by
      subst h
      rw [cut_run] at hcut
      simp only [Prod.mk.injEq] at hcut
      rw [← hcut.1] at h2
      exact h2 rfl)
    have h42 : (⟨#[42]⟩ : ByteArray) = Bs [42] := rfl
    have hsz := Bs_size
    have h2' : (((a.length : Nat) : Int) != 2) = true := by simp; omega
    clear hcut h2
    go_enter Tryd.func50, Tryd.ntmps50
    go_wp2_with (go_at_call 67; refine hC.mono ?_; rintro e w1 ⟨rfl, hb1⟩)
    go_ret2
    exact ⟨[], false, rfl, by simp, fun c n h1 h2 h => (hnot.out c n h).elim, hb1⟩
end Go.Proofs.YtmakpilfjopmeaaDoor
