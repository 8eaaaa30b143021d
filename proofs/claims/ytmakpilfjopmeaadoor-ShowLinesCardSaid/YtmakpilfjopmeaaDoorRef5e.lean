/- Walks of the reference of law 05: Long. -/
import Derived.Test.YtmakpilfjopmeaaDoorRef5d
set_option linter.unusedVariables false
set_option linter.unusedSimpArgs false
namespace Go.Proofs.YtmakpilfjopmeaaDoor
open Go Go.RowKit Go.Lib Go.Shelf
attribute [local go_sem] Oper.semAt_some

theorem itoa_ten : ∀ n : Nat, n < 65 → (itoa (n : Int)).length ≤ 2 ∧ (n < 10 → (itoa (n : Int)).length ≤ 1) := by decide +kernel
theorem runWord_three (c : UInt8) (n : Nat) (h1 : 1 ≤ n) (h : n ≤ 64) : (runWord (c, n)).length + 1 ≤ 3 * n := by
  unfold runWord
  simp only [List.length_cons]
  split
  · simp only [List.length_cons]
    obtain ⟨a, b⟩ := itoa_ten n (by omega)
    by_cases h10 : n < 10
    · have := b h10; omega
    · omega
  · simp only [List.length_nil]
    omega
theorem joinTail_three (xs : List (UInt8 × Nat)) (h : ∀ x ∈ xs, 1 ≤ x.2 ∧ x.2 ≤ 64) : (joinTail [32] (xs.map runWord)).length ≤ 3 * (expand xs).length := by
  induction xs with
  | nil => simp [joinTail]
  | cons x xs ih =>
    have e : joinTail [32] ((x :: xs).map runWord) = 32 :: runWord x ++ joinTail [32] (xs.map runWord) := by simp [joinTail]
    have h1 := ih (fun y hy => h y (List.mem_cons_of_mem _ hy))
    obtain ⟨g1, g2⟩ := h x (List.mem_cons_self ..)
    have h2 : (runWord x).length + 1 ≤ 3 * x.2 := runWord_three x.1 x.2 g1 g2
    rw [e, expand_cons]
    simp only [List.length_append, List.length_replicate, List.length_cons]
    omega
theorem short_le (x : List UInt8) (h : x.length = 64) : (shortL x).length ≤ 191 := by
  have hS : shortL x = join ((rle x).map runWord) [32] := if_pos h
  obtain ⟨he, hpos⟩ := rle_expand _ x (Nat.le_refl _)
  have h3 := joinTail_three (rle x) (fun y hy => ⟨hpos y hy, by
    obtain ⟨k, hk⟩ := List.getElem?_of_mem hy
    have := rle_sum x k y hk
    omega⟩)
  rw [he, h] at h3
  rw [hS]
  cases hr : rle x with
  | nil => simp [join_nil]
  | cons a tl =>
    rw [hr] at h3
    rw [List.map_cons, join_cons, List.length_append]
    have e : joinTail [32] ((a :: tl).map runWord) = 32 :: runWord a ++ joinTail [32] (tl.map runWord) := by simp [joinTail]
    rw [e] at h3
    simp only [List.length_append, List.length_cons] at h3
    omega

set_option maxRecDepth 100000 in
set_option maxHeartbeats 2000000 in
theorem ref05_Long_in (t : List UInt8) (ht : t.length ≤ 200) (w : World) :
    Calls Tryd.prog 26 #[.string (Bs t)] w fun e w' => (∃ y v, IsLong t y v ∧ e = .returned (.tuple #[.string (Bs y), .int .i64 v])) ∧ Below w.heap.size w w' := by
  have hwd := fun W => ref05_words t (by omega) W
  have hwl : ∀ (k : Nat) (u : List UInt8), (splitL 32 t)[k]? = some u → u.length ≤ 200 := fun k u h => Nat.le_trans (splitL_le 32 t u (List.mem_of_getElem? h)) ht
  have hW := Lib.hid fun (k : Nat) (u x : List UInt8) (h : (splitL 32 t)[k]? = some u) (h1 : x.length = 64) (h2 : shortL x = t) => short_word h h1 h2
  have hfin := Lib.hid fun (x : List UInt8) (h1 : x.length = 64) (h2 : shortL x = t) => show (rle x).length = (splitL 32 t).length ∧ expand (rle x) = x by
    subst h2
    rw [short_split x h1]
    exact ⟨by simp, (rle_expand _ x (Nat.le_refl _)).1⟩
  obtain ⟨m, hm⟩ : ∃ m, m = (splitL 32 t).length := ⟨_, rfl⟩
  have hm0 := Lib.hid hm
  have hmB : m ≤ 201 := by have := splitL_len 32 t; omega
  rw [← hm] at hwd
  clear hm
  obtain ⟨ws, hws⟩ : ∃ ws, ws = splitL 32 t := ⟨_, rfl⟩
  rw [← hws] at hwd hwl hW hfin hm0
  clear hws
  have hnil : (⟨#[]⟩ : ByteArray) = Bs [] := rfl
  have hsz := Bs_size
  have hcat := Bs_append
  have heq : ∀ a b : List UInt8, ((Bs a).toList = (Bs b).toList) = (a = b) := fun a b => by
    rw [ByteArray.toList_eq, ByteArray.toList_eq]
    rfl
  have heqb : ∀ a b : List UInt8, ((Bs a).toList == (Bs b).toList) = (a == b) := fun a b => by
    rw [ByteArray.toList_eq, ByteArray.toList_eq]
    rfl
  go_enter Tryd.func26, Tryd.ntmps26
  go_wp2_with (go_at_call 51; refine (hwd _).mono ?_; rintro e w1 ⟨⟨v, rfl, hown⟩, hb1⟩)
  obtain ⟨A, cp, rfl, hcp⟩ := own_slice hown
  have hrd := Rd.of_own hown
  clear hown hwd
  go_loopw [4, 6] (fun o i wr => ∃ k : Nat, k ≤ m ∧ i = .int .i64 k ∧ ∃ ol : List UInt8, o = .string (Bs ol) ∧ ol.length ≤ 100 * k ∧ Hid (∀ x : List UInt8, x.length = 64 → shortL x = t → ol = expand ((rle x).take k)) ∧ Below w1.heap.size w1 wr) (fun _ i _ => m - (RowKit.intOf i).toNat)
  case atStart => exact ⟨0, by omega, rfl, [], rfl, by simp, Lib.hid (fun x _ _ => by simp [expand]), Below.refl _ _⟩
  case round =>
    obtain ⟨k, hk, rfl, ol, rfl, hl, hgood, hB⟩ := hrel
    by_cases hlt : k < m
    · obtain ⟨bA, oA, q, rfl, hu, hc⟩ := (hrd.below hB).at_ hlt
      obtain ⟨u, hq, rfl⟩ := strs_at hu
      have hql := hwl k u hq
      have hWq := Lib.hid fun (x : List UInt8) => hW.out k u x hq
      clear hq hu hwl hW hrd
      rcases u with _ | ⟨x0, _ | ⟨y0, tl⟩⟩
      · go_wp2
        go_ret2
        refine ⟨⟨[], 6, .inr ⟨rfl, rfl, fun x h1 h2 => ?_⟩, rfl⟩, bnext hb1 hB⟩
        obtain ⟨c, n, _, hq, g1, g2, _⟩ := hWq.out x h1 h2
        cases hq
      · go_wp2
        go_ret2
        refine ⟨⟨[], 6, .inr ⟨rfl, rfl, fun x h1 h2 => ?_⟩, rfl⟩, bnext hb1 hB⟩
        obtain ⟨c, n, _, hq, g1, g2, _⟩ := hWq.out x h1 h2
        cases hq
      · have hex : (Bs (x0 :: y0 :: tl)).extract 0 2 = Bs [x0, y0] := Bs_extract (x0 :: y0 :: tl) 0 2
        have hU := fun W => ref04_Undigits x0 y0 W
        have hhex := Lib.hid fun (c : UInt8) (n : Nat) (h : x0 :: y0 :: tl = runWord (c, n)) => show hexIdx x0 = ((c.toNat / 16 : Nat) : Int) ∧ hexIdx y0 = ((c.toNat % 16 : Nat) : Int) by
          unfold runWord at h
          simp only [List.cons.injEq] at h
          have cl := c.toNat_lt
          exact ⟨by rw [h.1]; exact hexDigit_index _ (by omega), by rw [h.2.1]; exact hexDigit_index _ (by omega)⟩
        by_cases hxy : 0 ≤ hexIdx x0 ∧ 0 ≤ hexIdx y0
        · obtain ⟨g1, g2⟩ := hxy
          have hU2 : ∀ W, Calls Tryd.prog 52 #[.string (Bs [x0, y0])] W fun e W' => e = .returned (.tuple #[.string (Bs [und (hexIdx x0) (hexIdx y0)]), .bool true]) ∧ Below W.heap.size W W' := fun W => (hU W).mono fun e W' ⟨⟨p, ok, he, h1, _⟩, hb⟩ => by
            obtain ⟨rfl, rfl⟩ := h1 g1 g2
            exact ⟨he, hb⟩
          have hRn := fun W => ref05_run (x0 :: y0 :: tl) (by omega) W
          clear hU
          generalize hcc : und (hexIdx x0) (hexIdx y0) = cc at *
          have hccs := Lib.hid fun (c : UInt8) (n : Nat) (h : x0 :: y0 :: tl = runWord (c, n)) => show cc = c by
            obtain ⟨a, b⟩ := hhex.out c n h
            rw [← hcc, a, b]
            exact und_of c
          clear hcc hhex
          generalize hu : x0 :: y0 :: tl = u at *
          have hul : 2 ≤ u.length := by rw [← hu]; simp
          clear hu
          go_wp2_with (first
            | (go_at_call 52; refine (hU2 _).mono ?_; rintro e w2 ⟨rfl, hb2⟩; have hc2 := (hb2.cell (World.block_lt_of_cell? _ _ hc)).trans hc)
            | (go_at_call 53; refine (hRn _).mono ?_; rintro e w3 ⟨⟨r, hr', rfl⟩, hb3⟩; have hr := Lib.hid hr'; clear hr'))
          have hr2 := hr.out
          obtain ⟨r0, r9, _⟩ := hr2
          obtain ⟨rn, rfl⟩ : ∃ rn : Nat, r = rn := ⟨r.toNat, by omega⟩
          have hb13 := bnext (bnext (bnext hb1 hB) hb2) hb3
          go_loopw [4, 9] (fun o i wq => ∃ j : Nat, j ≤ rn ∧ i = .int .i64 ((rn - j : Nat) : Int) ∧ o = .string (Bs (ol ++ List.replicate j cc)) ∧ Below w.heap.size w wq ∧ Below w1.heap.size w1 wq) (fun _ i _ => (RowKit.intOf i).toNat)
          case atStart => exact ⟨0, by omega, by simp, by simp, hb13, bnext (bnext hB hb2) hb3⟩
          case round =>
            obtain ⟨j, hj, rfl, rfl, hbq, hbq1⟩ := hrel
            by_cases hjr : j < rn
            · have hx : (ol ++ List.replicate j cc).length ≤ 100000 := by rw [List.length_append, List.length_replicate]; omega
              have hst := Lib.hid (show (ol ++ List.replicate j cc) ++ [cc] = ol ++ List.replicate (j + 1) cc by rw [List.append_assoc, ← List.replicate_succ'])
              generalize ol ++ List.replicate j cc = z at *
              go_wp2
              go_roundw
              case rel => exact ⟨j + 1, by omega, by congr 1; omega, by rw [hst.out], hbq, hbq1⟩
              case measure => simp [RowKit.intOf]; omega
            · obtain rfl : j = rn := by omega
              rw [Nat.sub_self]
              go_wp2
              go_roundw
              case rel =>
                refine ⟨k + 1, by omega, by go_num, _, rfl, by rw [List.length_append, List.length_replicate]; omega, Lib.hid fun x h1 h2 => ?_, hbq1⟩
                obtain ⟨c, n, _, hq, g1, g2, g3, g4⟩ := hWq.out x h1 h2
                have := hr.out.2.2 c n g1 g2 hq
                obtain rfl : j = n := by omega
                rw [g3, ← hgood.out x h1 h2, hccs.out c j hq]
              case measure => simp [RowKit.intOf]; omega
        · have hU2 : ∀ W, Calls Tryd.prog 52 #[.string (Bs [x0, y0])] W fun e W' => e = .returned (.tuple #[.string (Bs []), .bool false]) ∧ Below W.heap.size W W' := fun W => (hU W).mono fun e W' ⟨⟨p, ok, he, _, h1⟩, hb⟩ => by
            obtain ⟨rfl, rfl⟩ := h1 hxy
            exact ⟨he, hb⟩
          have hbad := Lib.hid fun (c : UInt8) (n : Nat) (h : x0 :: y0 :: tl = runWord (c, n)) => show False by
            obtain ⟨a, b⟩ := hhex.out c n h
            omega
          clear hU hxy hhex
          generalize hu : x0 :: y0 :: tl = u at *
          have hul : 2 ≤ u.length := by rw [← hu]; simp
          clear hu
          go_wp2_with (go_at_call 52; refine (hU2 _).mono ?_; rintro e w2 ⟨rfl, hb2⟩)
          go_ret2
          refine ⟨⟨[], 6, .inr ⟨rfl, rfl, fun x h1 h2 => ?_⟩, rfl⟩, bnext (bnext hb1 hB) hb2⟩
          obtain ⟨c, n, _, hq, _⟩ := hWq.out x h1 h2
          exact hbad.out c n hq
    · obtain rfl : k = m := by omega
      go_wp2_with (go_at_call 27; refine (ref05_Short ol _).mono ?_; rintro e w2 ⟨rfl, hb2⟩)
      · go_ret2
        rename_i h0
        exact ⟨⟨[], 6, .inr ⟨rfl, rfl, fun x h1 h2 => short_ne x h1 (h2.trans (by simpa using h0))⟩, rfl⟩, bnext (bnext hb1 hB) hb2⟩
      · go_ret2
        rename_i h h0
        refine ⟨⟨ol, 0, .inl ⟨rfl, ?_, h⟩, rfl⟩, bnext (bnext hb1 hB) hb2⟩
        by_cases h64 : ol.length = 64
        · exact h64
        · exfalso
          have e : shortL ol = [] := by unfold shortL; exact if_neg h64
          rw [h] at e
          rw [e] at h0
          cases h0
      · go_ret2
        rename_i hne
        refine ⟨⟨[], 6, .inr ⟨rfl, rfl, fun x h1 h2 => ?_⟩, rfl⟩, bnext (bnext hb1 hB) hb2⟩
        have hx := hgood.out x h1 h2
        obtain ⟨e1, e2⟩ := hfin.out x h1 h2
        rw [List.take_of_length_le (by rw [e1, ← hm0.out]; exact Nat.le_refl _), e2] at hx
        subst hx
        exact hne h2

theorem ref05_Long (t : List UInt8) (ht : t.length ≤ 1000000) (w : World) :
    Calls Tryd.prog 26 #[.string (Bs t)] w fun e w' => (∃ y v, IsLong t y v ∧ e = .returned (.tuple #[.string (Bs y), .int .i64 v])) ∧ Below w.heap.size w w' := by
  by_cases h : t.length ≤ 200
  · exact ref05_Long_in t h w
  · have hl : IsLong t [] 6 := .inr ⟨rfl, rfl, fun x h1 h2 => by
      have := short_le x h1
      rw [h2] at this
      omega⟩
    have hsz := Bs_size
    go_enter Tryd.func26, Tryd.ntmps26
    go_wp2
    go_ret2
    exact ⟨⟨[], 6, hl, rfl⟩, Below.refl _ _⟩
end Go.Proofs.YtmakpilfjopmeaaDoor
