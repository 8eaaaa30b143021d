/- What the library's functions ask of the world (variables of the library as they were laid), and their contracts in one form: what comes back, and 'Below'. -/
import Derived.Test.YtmakpilfjopmeaaDoorProg
import Derived.Test.YtmakpilfjopmeaaDoorShelf
import Derived.Test.YtmakpilfjopmeaaDoorLib
import Derived.Lib.SmallJoins
import Derived.Lib.AppendIntMem
import Derived.Laws.BytesArg
set_option linter.unusedVariables false
set_option linter.unusedSimpArgs false
namespace Go.Proofs.YtmakpilfjopmeaaDoor
open Go Go.RowKit Go.Lib

/-- A list of bytes as a string's bytes. -/
def Bs (l : List UInt8) : ByteArray := ⟨l.toArray⟩
theorem Bs_data (l : List UInt8) : (Bs l).data.toList = l := rfl
theorem Bs_size (l : List UInt8) : (Bs l).size = l.length := by simp [Bs, ByteArray.size]
theorem Bs_of (s : ByteArray) : Bs s.data.toList = s := rfl
theorem Bs_append (a b : List UInt8) : Bs a ++ Bs b = Bs (a ++ b) := by
  apply ByteArray.ext
  simp [Bs]
theorem Bs_inj {a b : List UInt8} (h : Bs a = Bs b) : a = b := by
  have := congrArg (fun x : ByteArray => x.data.toList) h
  simpa [Bs] using this
theorem Bs_extract (l : List UInt8) (a b : Nat) : (Bs l).extract a b = Bs ((l.drop a).take (b - a)) := by
  apply ByteArray.ext
  simp [Bs]
theorem size_data (s : ByteArray) : s.data.toList.length = s.size := by rw [Array.length_toList]; rfl

/-- The cells of bytes. -/
def byts (l : List UInt8) : List Value := l.map fun b => .int .u8 b.toNat
theorem byts_length (l : List UInt8) : (byts l).length = l.length := by simp [byts]
theorem byts_append (a b : List UInt8) : byts (a ++ b) = byts a ++ byts b := by simp [byts]
theorem byts_one (l : List UInt8) : ∀ u ∈ byts l, u.oneCell' = true := by
  intro u hu
  simp only [byts, List.mem_map] at hu
  obtain ⟨x, _, rfl⟩ := hu
  rfl
theorem byts_at {l : List UInt8} {j : Nat} {u : Value} (h : (byts l)[j]? = some u) : ∃ q, l[j]? = some q ∧ u = .int .u8 q.toNat := by
  simp only [byts, List.getElem?_map, Option.map_eq_some_iff] at h
  obtain ⟨q, h1, h2⟩ := h
  exact ⟨q, h1, h2.symm⟩
theorem conv_str {W : World} {A : Option Addr} {n : Nat} {l : List UInt8} (c : Nat) (h : Rd W A n (byts l)) : (convert 84 9 (.slice A n c)).run Tryd.prog W = .ok (.string (Bs l)) W := by
  have hn : l.length = n := by have := h.1; rwa [byts_length] at this
  have e : strOfNums (l.map fun b => (b.toNat : Int)) = Bs l := by
    unfold strOfNums Bs
    congr 2
    rw [List.map_map]
    exact (List.map_congr_left (fun b _ => by simp)).trans (List.map_id _)
  rcases Nat.eq_zero_or_pos n with h0 | h0
  · subst h0
    obtain rfl : l = [] := List.eq_nil_of_length_eq_zero hn
    rcases A with _ | ad
    · exact run_convert_bytes_nil W 84 5 Tryd.underlying84 Tryd.underlying5 0 c 9 Tryd.underlying9
    · have hl : (loadCells ad 0).run Tryd.prog W = .ok (([] : List Int).map (Value.int .u8)).toArray W := by
        have := run_loadCells_list (P := Tryd.prog) W ad [] (fun j v hj => by simp at hj)
        simpa using this
      rw [run_convert_bytes_string W 84 9 5 _ 0 c Tryd.underlying84 Tryd.underlying5 Tryd.underlying9, run_bytesToString W ad 0 c [] hl]
      rfl
  · obtain ⟨b, o, rfl, hc⟩ := h.2 h0
    rw [← e]
    refine run_convert_bytes_arg W 84 5 Tryd.underlying84 Tryd.underlying5 b o n c _ (by simpa using hn) (fun i hi => ?_) 9 Tryd.underlying9
    have := hc i (.int .u8 ((l.map fun b => (b.toNat : Int)).getD i 0)) (by simp [byts, List.getD_eq_getElem?_getD, show i < l.length by omega])
    exact this

theorem index_Bs {l : List UInt8} {k : Nat} {q : UInt8} (h : l[k]? = some q) (W : World) : (Instr.index 9 (.string (Bs l)) (.int .i64 (k : Int))).run Tryd.prog W = .ok (.int .u8 q.toNat) W := by
  have hk : k < l.length := (List.getElem?_eq_some_iff.1 h).1
  have hs : k < (Bs l).size := by rw [Bs_size]; exact hk
  have e : (Bs l)[k]? = some q := by
    rw [show (Bs l)[k]? = l.toArray[k]? from rfl]
    simpa using h
  simp only [Instr.index, asIntOf, Sem.run_bind, Sem.run_pure, Result.andThen_ok, run_underlying Tryd.underlying9]
  rw [if_pos (by omega), Int.toNat_natCast, e]
  rfl

theorem index_Bs0 {l : List UInt8} {q : UInt8} (h : l[0]? = some q) (W : World) : (Instr.index 9 (.string (Bs l)) (.int .i64 0)).run Tryd.prog W = .ok (.int .u8 q.toNat) W := index_Bs (k := 0) h W

theorem Bs_isEmpty (l : List UInt8) : (Bs l).toList.isEmpty = l.isEmpty := by
  rw [ByteArray.toList_eq]
  rfl

theorem index_Bs1 {l : List UInt8} {q : UInt8} (h : l[1]? = some q) (W : World) : (Instr.index 9 (.string (Bs l)) (.int .i64 1)).run Tryd.prog W = .ok (.int .u8 q.toNat) W := index_Bs (k := 1) h W

structure Env (w : World) : Prop where
  tab : TabIs Tryd.prog w "internal/strconv.uint64pow10" .u64 pow10Tab
  maxl : ∃ m : Int, w.cell? ⟨2, 0, none⟩ = some (.int .i64 m)
  syn : ∃ te pe, w.cell? ⟨3, 0, none⟩ = some (.iface te pe)
  ran : ∃ te pe, w.cell? ⟨4, 0, none⟩ = some (.iface te pe)
theorem Env.below {w w' : World} (h : Env w) (hb : Below w.heap.size w w') : Env w' := by
  have keep : ∀ {a : Addr} {v : Value}, w.cell? a = some v → w'.cell? a = some v := fun hc => (hb.cell (World.block_lt_of_cell? w _ hc)).trans hc
  obtain ⟨ht, ⟨m, hm⟩, ⟨a, b, hs⟩, ⟨c, d, hr⟩⟩ := h
  exact ⟨tabBelow_of_tabIs ht w' hb, ⟨m, keep hm⟩, ⟨a, b, keep hs⟩, ⟨c, d, keep hr⟩⟩

theorem itoa_any (n : Int) (h0 : -9223372036854775808 ≤ n) (h1 : n ≤ 9223372036854775807) (w : World) (hE : Env w) :
    Calls Tryd.prog 42 #[.int .i64 n] w fun e w' => e = .returned (.string (Bs (itoa n))) ∧ Below w.heap.size w w' :=
  (Tryd.strconv_Itoa n h0 h1 w hE.tab).mono fun e w' ⟨he, k, os, hw⟩ => ⟨he, by subst hw; exact below_grow _ w (Nat.le_refl _) k os⟩
theorem formatInt_any (n : Int) (h0 : -9223372036854775808 ≤ n) (h1 : n ≤ 9223372036854775807) (w : World) (hE : Env w) :
    Calls Tryd.prog 57 #[.int .i64 n, .int .i64 10] w fun e w' => e = .returned (.string (Bs (itoa n))) ∧ Below w.heap.size w w' :=
  (Tryd.strconv_FormatInt_10 n h0 h1 w hE.tab).mono fun e w' ⟨he, k, os, hw⟩ => ⟨he, by subst hw; exact below_grow _ w (Nat.le_refl _) k os⟩

def strs (xs : List (List UInt8)) : List Value := xs.map fun l => .string (Bs l)
theorem strs_length (xs : List (List UInt8)) : (strs xs).length = xs.length := by simp [strs]
theorem strs_append (xs ys : List (List UInt8)) : strs (xs ++ ys) = strs xs ++ strs ys := by simp [strs]
theorem strs_at {xs : List (List UInt8)} {j : Nat} {u : Value} (h : (strs xs)[j]? = some u) : ∃ q, xs[j]? = some q ∧ u = .string (Bs q) := by
  simp only [strs, List.getElem?_map, Option.map_eq_some_iff] at h
  obtain ⟨q, h1, h2⟩ := h
  exact ⟨q, h1, h2.symm⟩

theorem repeat_any (l : List UInt8) (c : Nat) (w : World) (hc : c ≤ 1000000) (hlen : l.length ≤ 1000000) :
    Calls Tryd.prog 77 #[.string (Bs l), .int .i64 c] w fun e w' => e = .returned (.string (Bs (repeatL l c))) ∧ Below w.heap.size w w' := by
  have h : (Bs l).size * c ≤ 140737488355328 := by
    rw [Bs_size]
    exact Nat.le_trans (Nat.mul_le_mul hlen hc) (by decide)
  exact Tryd.strings_Repeat (Bs l) c w (by omega) h

theorem join_any (A : Option Addr) (n c : Nat) (xs : List (List UInt8)) (sep : List UInt8) (w : World) (hr : Rd w A n (strs xs)) (hc : n ≤ c) (hn : n ≤ 1000000) (hlen : (join xs sep).length ≤ 1000000000) :
    Calls Tryd.prog 43 #[.slice A n c, .string (Bs sep)] w fun e w' => e = .returned (.string (Bs (join xs sep))) ∧ Below w.heap.size w w' := by
  have hl : xs.length = n := by have := hr.1; rwa [strs_length] at this
  rcases Nat.eq_zero_or_pos n with h0 | h0
  · subst h0
    obtain rfl : xs = [] := List.eq_nil_of_length_eq_zero hl
    exact (Tryd.strings_Join_none A c (Bs sep) w).mono fun e w' ⟨he, hw⟩ => ⟨by rw [he]; simp [join, Bs], by subst hw; exact Below.refl _ _⟩
  · obtain ⟨b, o, rfl, hcell⟩ := hr.2 h0
    have hm : (xs.map Bs).map (·.data.toList) = xs := by rw [List.map_map]; exact (List.map_congr_left (fun l _ => Bs_data l)).trans (List.map_id _)
    have h := Tryd.strings_Join b o c (xs.map Bs) (Bs sep) w (fun j x hx => by
      refine hcell j _ ?_
      simp only [List.getElem?_map, Option.map_eq_some_iff] at hx
      obtain ⟨q, h1, h2⟩ := hx
      simp [strs, h1, ← h2]) (by
        have hp : 0 < xs.length := by omega
        have := hcell 0 (.string (Bs (xs[0]'hp))) (by simp [strs, hp])
        exact World.block_lt_of_cell? w _ this) (by simp; omega) (by simp; omega) (by rw [hm, Bs_data]; omega)
    rw [hm, Bs_data, List.length_map, hl] at h
    exact h

theorem cut_any (l sep : List UInt8) (w : World) (hE : Env w) (hl : l.length ≤ 1000000) :
    Calls Tryd.prog 67 #[.string (Bs l), .string (Bs sep)] w fun e w' => e = .returned (.tuple #[.string (Bs (cut l sep).1), .string (Bs (cut l sep).2.1), .bool (cut l sep).2.2]) ∧ Below w.heap.size w w' := by
  obtain ⟨m, hm⟩ := hE.maxl
  exact (Tryd.strings_Cut (Bs l) (Bs sep) m w (by rw [Bs_size]; omega) hm).mono fun e w' ⟨he, n, hw⟩ => ⟨he, by subst hw; exact ⟨rfl, rfl, rfl, Nat.le_refl _, fun _ _ => rfl⟩⟩

theorem indexByte_any (l : List UInt8) (c : Int) (w : World) :
    Calls Tryd.prog 80 #[.string (Bs l), .int .u8 c] w fun e w' => e = .returned (.int .i64 (indexByte l c.toNat.toUInt8)) ∧ w = w' :=
  (Tryd.strings_IndexByte (Bs l) c w).mono fun e w' ⟨he, hw⟩ => ⟨he, hw.symm⟩

theorem atoi_ok (l : List UInt8) (v : Int) (h : atoiAll l = .ok v) (w : World) (hl : l.length ≤ 1000000) :
    Calls Tryd.prog 68 #[.string (Bs l)] w fun e w' => e = .returned (.tuple #[.int .i64 v, .nilIface]) ∧ Below w.heap.size w w' :=
  (Tryd.strconv_Atoi_ok (Bs l) (by rw [Bs_size]; omega) v h w).mono fun e w' ⟨he, hw⟩ => ⟨he, by
    rcases hw with rfl | ⟨t, rfl⟩
    · exact Below.refl _ _
    · exact bytesWorld_below _ _ _⟩
end Go.Proofs.YtmakpilfjopmeaaDoor
