/- sector.Long. -/
import Derived.Test.YtmakpilfjopmeaaDoorLong
set_option linter.unusedVariables false
set_option linter.unusedSimpArgs false
namespace Go.Proofs.YtmakpilfjopmeaaDoor
open Go Go.RowKit Go.Lib Go.Shelf

theorem expand_len_take (xs : List (UInt8 × Nat)) (k : Nat) : (expand (xs.take k)).length ≤ (expand xs).length := by
  conv => rhs; rw [← List.take_append_drop k xs, expand_append, List.length_append]
  omega
theorem short_word {t : List UInt8} {k : Nat} {w x : List UInt8} (hw : (splitL 32 t)[k]? = some w) (hx : x.length = 64) (hs : shortL x = t) :
    ∃ c n, (rle x)[k]? = some (c, n) ∧ w = runWord (c, n) ∧ 1 ≤ n ∧ n ≤ 64 ∧ expand ((rle x).take (k + 1)) = expand ((rle x).take k) ++ List.replicate n c ∧ (expand ((rle x).take (k + 1))).length ≤ 64 := by
  subst hs
  rw [short_split x hx, List.getElem?_map, Option.map_eq_some_iff] at hw
  obtain ⟨⟨c, n⟩, hg, rfl⟩ := hw
  obtain ⟨he, hpos⟩ := rle_expand _ x (Nat.le_refl _)
  have h1 := hpos _ (List.mem_of_getElem? hg)
  have hl := expand_len_take (rle x) (k + 1)
  rw [he, hx] at hl
  have hst : expand ((rle x).take (k + 1)) = expand ((rle x).take k) ++ List.replicate n c := by
    rw [take_snoc_of hg, expand_append]
    simp [expand]
  refine ⟨c, n, hg, rfl, h1, ?_, hst, hl⟩
  rw [hst, List.length_append, List.length_replicate] at hl
  omega

theorem splitL_le (c : UInt8) (l : List UInt8) : ∀ u ∈ splitL c l, u.length ≤ l.length := by
  induction l with
  | nil => simp [splitL]
  | cons x l ih =>
    simp only [splitL]
    split
    · intro u hu
      rcases List.mem_cons.1 hu with rfl | hu
      · simp
      · have := ih u hu
        simp; omega
    · split
      · simp
      · rename_i w ws e
        rw [e] at ih
        intro u hu
        rcases List.mem_cons.1 hu with rfl | hu
        · have := ih w (by simp)
          simp; omega
        · have := ih u (by simp [hu])
          simp; omega

theorem splitL_len (c : UInt8) (l : List UInt8) : (splitL c l).length ≤ l.length + 1 := by
  induction l with
  | nil => simp [splitL]
  | cons x l ih =>
    simp only [splitL]
    split
    · simp; omega
    · split
      · simp
      · rename_i w ws e
        rw [e] at ih
        simp at ih ⊢
        omega

/-- What holds at a round's head. -/
structure LongAt (t : List UInt8) (k : Nat) (o : List UInt8) : Prop where
  len : o.length ≤ 64
  good : ∀ x, x.length = 64 → shortL x = t → o = expand ((rle x).take k)

set_option maxRecDepth 100000 in
set_option maxHeartbeats 2000000 in
theorem sector_Long (t : List UInt8) (ht : t.length ≤ 1000000) (w : World) (hE : Env w) :
    Calls Tryd.prog 25 #[.string (Bs t)] w fun e w' => (∃ y v, IsLong t y v ∧ e = .returned (.tuple #[.string (Bs y), .int .i64 v])) ∧ Below w.heap.size w w' := by
  have hsp := fun W hE => split_any t 32 W hE ht
  have hwl : ∀ (k : Nat) (u : List UInt8), (splitL 32 t)[k]? = some u → u.length ≤ 1000000 := fun k u h => Nat.le_trans (splitL_le 32 t u (List.mem_of_getElem? h)) ht
  have hW := Lib.hid fun (k : Nat) (u x : List UInt8) (h : (splitL 32 t)[k]? = some u) (h1 : x.length = 64) (h2 : shortL x = t) => short_word h h1 h2
  have hfin := Lib.hid fun (x : List UInt8) (h1 : x.length = 64) (h2 : shortL x = t) => show (rle x).length = (splitL 32 t).length ∧ expand (rle x) = x by
    subst h2
    rw [short_split x h1]
    exact ⟨by simp, (rle_expand _ x (Nat.le_refl _)).1⟩
  obtain ⟨m, hm⟩ : ∃ m, m = (splitL 32 t).length := ⟨_, rfl⟩
  have hm0 := Lib.hid hm
  have hmB : m ≤ 1000001 := by have := splitL_len 32 t; omega
  rw [← hm] at hsp
  clear hm
  obtain ⟨ws, hws⟩ : ∃ ws, ws = splitL 32 t := ⟨_, rfl⟩
  rw [← hws] at hsp hwl hW hfin hm0
  clear hws
  have hnil : (⟨#[]⟩ : ByteArray) = Bs [] := rfl
  have h32 : (⟨#[32]⟩ : ByteArray) = Bs [32] := rfl
  have hsz := Bs_size
  have hcat := Bs_append
  have heq : ∀ a b : List UInt8, ((Bs a).toList = (Bs b).toList) = (a = b) := fun a b => by
    rw [ByteArray.toList_eq, ByteArray.toList_eq]
    rfl
  have heqb : ∀ a b : List UInt8, ((Bs a).toList == (Bs b).toList) = (a == b) := fun a b => by
    rw [ByteArray.toList_eq, ByteArray.toList_eq]
    rfl
  go_enter Tryd.func25, Tryd.ntmps25
  go_wp2_with (go_at_call 38; refine (hsp _ hE).mono ?_; rintro e w1 ⟨rfl, hrd, hb1⟩)
  have hE1 := hE.below hb1
  go_loopw [4, 12] (fun o i wr => ∃ (k : Nat) (ol : List UInt8), k ≤ m ∧ i = .int .i64 k ∧ o = .string (Bs ol) ∧ ol.length ≤ 64 ∧ Hid (∀ x : List UInt8, x.length = 64 → shortL x = t → ol = expand ((rle x).take k)) ∧ Below w1.heap.size w1 wr) (fun _ i _ => m - (RowKit.intOf i).toNat)
  case atStart => exact ⟨0, [], by omega, rfl, rfl, by simp, Lib.hid (fun x _ _ => by simp [expand]), Below.refl _ _⟩
  case round =>
    obtain ⟨k, ol, hk, rfl, rfl, hl, hgood, hB⟩ := hrel
    by_cases hlt : k < m
    · obtain ⟨bA, oA, u, hA, hu, hc⟩ := (hrd.below hB).at_ hlt
      obtain ⟨q, hq, rfl⟩ := strs_at hu
      injection hA with hA
      injection hA with h1 h2
      subst h1
      subst h2
      have hql := hwl k q hq
      have hWq := Lib.hid fun (x : List UInt8) => hW.out k q x hq
      have hEr := hE1.below hB
      clear hq hu hwl hW hrd
      rw [Nat.zero_add] at hc
      go_wp2_with (go_at_call 50; refine (sector_part q hql _ hEr).mono ?_; rintro e w2 ⟨p, ok, rfl, hp, hgp', hb2⟩; have hgp := Lib.hid hgp'; clear hgp')
      · go_ret2
        refine ⟨⟨[], 6, .inr ⟨rfl, rfl, fun x h1 h2 => ?_⟩, rfl⟩, bnext (bnext hb1 hB) hb2⟩
        obtain ⟨c, n, _, hq, g1, g2, g3, g4⟩ := hWq.out x h1 h2
        have hpe := (hgp.out c n g1 g2 hq).2
        rw [g3, ← hgood.out x h1 h2, ← hpe, List.length_append] at g4
        omega
      · go_roundw
        case rel =>
          refine ⟨k + 1, ol ++ p, by omega, by go_num, rfl, by rw [List.length_append]; omega, Lib.hid fun x h1 h2 => ?_, bnext hB hb2⟩
          obtain ⟨c, n, _, hq, g1, g2, g3, g4⟩ := hWq.out x h1 h2
          rw [g3, ← hgood.out x h1 h2, ← (hgp.out c n g1 g2 hq).2]
        case measure => simp [RowKit.intOf]; omega
      · go_ret2
        refine ⟨⟨[], 6, .inr ⟨rfl, rfl, fun x h1 h2 => ?_⟩, rfl⟩, bnext (bnext hb1 hB) hb2⟩
        obtain ⟨c, n, _, hq, g1, g2, _⟩ := hWq.out x h1 h2
        have := (hgp.out c n g1 g2 hq).1
        contradiction
    · obtain rfl : k = m := by omega
      have hEr := hE1.below hB
      go_wp2_with (go_at_call 24; refine (sector_Short ol _ hEr).mono ?_; rintro e w2 ⟨rfl, hb2⟩)
      · go_ret2
        rename_i h0
        exact ⟨⟨[], 6, .inr ⟨rfl, rfl, fun x h1 h2 => short_ne x h1 (h2.trans h0)⟩, rfl⟩, bnext hb1 hB⟩
      · go_ret2
        rename_i h0 hne
        refine ⟨⟨[], 6, .inr ⟨rfl, rfl, fun x h1 h2 => ?_⟩, rfl⟩, bnext (bnext hb1 hB) hb2⟩
        have hx := hgood.out x h1 h2
        obtain ⟨e1, e2⟩ := hfin.out x h1 h2
        rw [List.take_of_length_le (by rw [e1, ← hm0.out]; exact Nat.le_refl _), e2] at hx
        subst hx
        rcases hne with h | h
        · exact h0 (by simpa using h)
        · exact absurd h2 (by simpa using h)
      · go_ret2
        rename_i h0 hne
        refine ⟨⟨ol, 0, .inl ⟨rfl, ?_, by simpa using hne.2⟩, rfl⟩, bnext (bnext hb1 hB) hb2⟩
        have h : shortL ol = t := by simpa using hne.2
        by_cases h64 : ol.length = 64
        · exact h64
        · exfalso
          apply h0
          rw [← h]
          unfold shortL
          exact if_neg h64
end Go.Proofs.YtmakpilfjopmeaaDoor
