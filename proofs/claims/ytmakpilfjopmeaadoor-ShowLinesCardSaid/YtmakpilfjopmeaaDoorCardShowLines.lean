/- The law ShowLines of package pentimentolaw31 is true at every answer: its tied card, with no condition on the input. -/
import Derived.Test.YtmakpilfjopmeaaDoorLaw31
import Derived.Test.YtmakpilfjopmeaaDoorRow
import Derived.Carry
import Derived.DataShut
import Derived.Lib.SmallJoins
set_option linter.unusedVariables false
set_option linter.unusedSimpArgs false
namespace Go.Proofs.YtmakpilfjopmeaaDoor
open Go Go.RowKit Go.Lib Go.ChangeShapes Go.WideShapes Go.ChangeAt Go.ChangeMaps Go.Joins Go.Deep

section
variable {H : Type} {enc : TypeId × Value → H} {P : Program} {w : World} {base : Nat} {spare : Nat → Bool} {held : Bool}
/-- A struct of fields of one cell each, by value: its parts, and each part's reading. -/
theorem open_fields {r : Reach} {b0 : Nat} {t : TypeId} {fs : Array Field} {v : Value} {d : DataW H} {p : List MemPlace} (hs : P.underlying t = some (.struct fs)) (hone : oneCellFields P fs = true) (hC : P.cellsOf t = fs.size)
    (hv : Value.okWide P w r b0 t v) (h : DataW.Trod enc P w base spare held t v d p) :
    ∃ cs : Array Value, v = .agg cs ∧ cs.size = fs.size ∧ ∃ n, ∀ (j : Nat) (f : Field), fs[j]? = some f → ∃ (c : Value) (y : DataW H × List MemPlace), cs[j]? = some c ∧ DataW.trod enc P w base spare held n f.type [c] = some y := by
  obtain ⟨cs, rfl, hsz⟩ := okWide_struct hs hv
  obtain ⟨fuel, hf⟩ := h
  obtain ⟨xs, n, _, _, _, hlen, hg⟩ := DataW.trod_struct hs hf
  refine ⟨cs, rfl, hsz.trans hC, n, fun j f hj => ?_⟩
  obtain ⟨ho, hk⟩ := hone_of hone j f hj
  have hjl : j < fs.size := (Array.getElem?_eq_some_iff.1 hj).1
  have hjc : j < cs.size := by rw [hsz.trans hC]; exact hjl
  have hjx : j < xs.length := by omega
  have h1 := hg j f hj
  rw [ho, hk] at h1
  have e1 : ((Value.agg cs).cells.toList.drop j).take 1 = [cs[j]] := by
    show (cs.toList.drop j).take 1 = [cs[j]]
    rw [List.take_one, List.head?_drop, List.getElem?_eq_getElem (by simpa using hjc)]
    simp
  rw [e1, List.getElem?_eq_getElem hjx] at h1
  exact ⟨_, _, Array.getElem?_eq_getElem hjc, h1⟩
theorem five_of {cs : Array Value} {a b c d e : Value} (h : cs.size = 5) (h0 : cs[0]? = some a) (h1 : cs[1]? = some b) (h2 : cs[2]? = some c) (h3 : cs[3]? = some d) (h4 : cs[4]? = some e) : cs = #[a, b, c, d, e] := by
  apply Array.ext_getElem?
  intro i
  rcases (by omega : i = 0 ∨ i = 1 ∨ i = 2 ∨ i = 3 ∨ i = 4 ∨ 5 ≤ i) with rfl | rfl | rfl | rfl | rfl | hi
  · exact h0
  · exact h1
  · exact h2
  · exact h3
  · exact h4
  · rw [Array.getElem?_eq_none (by omega), Array.getElem?_eq_none (by simpa using hi)]
end
theorem cellsInt : Tryd.prog.cellsOf 3 = 1 := by kernel_rfl
theorem laidOutA : laidOutB Tryd.prog = true := by kernel_rfl
theorem bounds_of_wf {x : Int} (h : (Lit.int .i64 x).wf = true) : I64 x := by
  have := (Lit.wf_int_iff .i64 x).1 h
  exact ⟨by simpa [IntKind.min, IntKind.signed, IntKind.bits] using this.1, by simpa [IntKind.max, IntKind.signed, IntKind.bits] using this.2⟩

set_option maxRecDepth 100000 in
theorem showLines_contract (H : Type) (enc : TypeId × Value → H) (W : World) (base : Nat) (args : Array Value) (ds gs : List (DataW H)) (before : List MemPlace)
    (hval : ∀ (j : Nat) t v, Tryd.f7.params[j]? = some t → args[j]? = some v → Value.okWide Tryd.prog W .any base t v)
    (hW : DataW.Whole enc Tryd.prog Tryd.f7.params.toList Rows.showLinesSpec.vars false W args.toList ds gs before) (hL : laidMetH Tryd.prog Rows.showLinesRow.laid W) (hS : W.ShapedOpen Tryd.prog) :
    Calls Tryd.prog 7 args W fun e W' => ∃ v, e = .returned v ∧ Rows.showLinesSpec.post enc Tryd.prog Tryd.f7 false true false false W args v W' := by
  have hE : Env W := env_of hL (by kernel_rfl) (by kernel_rfl) ⟨[105, 110, 118, 97, 108, 105, 100, 32, 115, 121, 110, 116, 97, 120], by kernel_rfl⟩ ⟨[118, 97, 108, 117, 101, 32, 111, 117, 116, 32, 111, 102, 32, 114, 97, 110, 103, 101], by kernel_rfl⟩ hS
  have hW' := hW
  obtain ⟨p, q, hA0, hV, rfl, hfz, hnd⟩ := hW
  have hA : DataW.TrodAll enc Tryd.prog W 0 (fun _ => true) true Tryd.f7.params.toList args.toList ds p := hA0
  rw [Tryd.params7] at hA hval
  obtain ⟨v0, d0, rfl, rfl, h0⟩ := trodAll_one hA
  obtain ⟨rfl, rfl⟩ := trodVars_none hV
  have h0k := h0
  obtain ⟨cs, rfl, hcs, n, hf⟩ := open_fields Tryd.underlying57 (by kernel_rfl) (by kernel_rfl) (hval 0 57 v0 rfl rfl) h0
  obtain ⟨a0, y0, g0, t0⟩ := hf 0 _ rfl
  obtain ⟨a1, y1, g1, t1⟩ := hf 1 _ rfl
  obtain ⟨a2, y2, g2, t2⟩ := hf 2 _ rfl
  obtain ⟨a3, y3, g3, t3⟩ := hf 3 _ rfl
  obtain ⟨a4, y4, g4, t4⟩ := hf 4 _ rfl
  obtain rfl : cs = #[a0, a1, a2, a3, a4] := five_of hcs g0 g1 g2 g3 g4
  obtain ⟨why, e0, -, w0⟩ := DataW.trod_int Tryd.underlying27 t0
  obtain ⟨n1, e1, -, w1⟩ := DataW.trod_int Tryd.underlying2 t1
  obtain ⟨m1, e2, -, w2⟩ := DataW.trod_int Tryd.underlying2 t2
  obtain ⟨s, e3, -, hs⟩ := DataW.trod_string Tryd.underlying9 t3
  simp only [List.cons.injEq, and_true] at e0 e1 e2 e3
  subst e0 e1 e2 e3
  have hlist : ∃ (x : List Int) (A : Option Addr) (c : Nat), a4 = .slice A x.length c ∧ x.length ≤ c ∧ x.length ≤ maxLen ∧ Rd W A x.length (nums .i64 x) ∧ ∀ v ∈ x, I64 v := by
    rcases open_ints Tryd.underlying55 Tryd.underlying3 cellsInt t4 with ⟨hcs, _⟩ | ⟨a, len, cap, zs, hcs, _, hl, hm, hz, _, hcell, hwz⟩
    · simp only [List.cons.injEq, and_true] at hcs
      exact ⟨[], none, 0, hcs, Nat.le_refl _, Nat.zero_le _, Rd.nil _ _, fun v h => by cases h⟩
    · simp only [List.cons.injEq, and_true] at hcs
      simp only [if_true] at hz
      have hlen : (zs.take len).length = len := by rw [List.length_take]; omega
      refine ⟨zs.take len, some a, cap, by rw [hlen]; exact hcs, by rw [hlen]; exact hl, by rw [hlen]; omega, ?_, fun v h => ?_⟩
      · rw [hlen]
        refine ⟨by rw [nums_length, hlen], fun h0 => ?_⟩
        obtain ⟨b, off, spot⟩ := a
        have hspot : spot = none := by simpa [Addr.add] using World.cell?_spot (hcell 0 (by omega))
        subst hspot
        refine ⟨b, off, rfl, fun j u hu => ?_⟩
        obtain ⟨q, hq, rfl⟩ := nums_at hu
        have hj : j < len := by
          have := (List.getElem?_eq_some_iff.1 hq).1
          omega
        rw [List.getElem?_take, if_pos hj] at hq
        have := hcell j (by omega)
        rw [add_plain] at this
        rw [this, List.getD_eq_getElem?_getD, hq]
        rfl
      · exact bounds_of_wf (hwz v (List.mem_of_mem_take h))
  obtain ⟨x, A, c, rfl, hxc, hxm, hrd, hxi⟩ := hlist
  clear hA0
  simp only [List.append_nil] at hW'
  have walk := law31_ShowLines ⟨why, n1, m1, s.data.toList, x⟩ ⟨bounds_of_wf w0, bounds_of_wf w1, bounds_of_wf w2, hxi⟩ A c hxc W hrd hE (by unfold maxLen at hxm; exact hxm) (by rw [size_data]; unfold maxLen at hs; exact hs)
  dsimp only at walk
  rw [Bs_of] at walk
  refine walk.mono fun e W' ⟨he, hb⟩ => ?_
  subst he
  have hlt : ∀ y ∈ p, y.block < W.heap.size := fun y hy => hW'.lt y hy
  exact ⟨_, rfl, _, _, _, [], p, [], hW', trodAll_mk1 (shut_bool Tryd.underlying4 _), trodAll_mk1 (Below.trod laidOutA (by kernel_rfl) (of_decide_eq_true (by kernel_rfl)) h0k hb hlt), rfl, hb.frame _, fun h => by cases h⟩

theorem showLines_met (os : Os) : laidMet Tryd.prog Rows.showLinesRow.laid ((World.laidAll Tryd.prog os Rows.showLinesRow.laid).forCall (fun _ _ => 0) ⟨#[], #[.agg #[.int .i64 0, .int .i64 0, .int .i64 0, .string ⟨#[]⟩, .slice none 0 0]], []⟩).memory :=
  laidMet_laidAll _ (by kernel_rfl) (by kernel_rfl)
theorem showLines_reads (os : Os) {H : Type} (enc : TypeId × Value → H) : ∃ places, DataW.whole enc Tryd.prog ((World.laidAll Tryd.prog os Rows.showLinesRow.laid).forCall (fun _ _ => 0) ⟨#[], #[.agg #[.int .i64 0, .int .i64 0, .int .i64 0, .string ⟨#[]⟩, .slice none 0 0]], []⟩).memory Tryd.f7.params.toList Rows.showLinesSpec.vars false #[Value.agg #[.int .i64 0, .int .i64 0, .int .i64 0, .string ⟨#[]⟩, .slice none 0 0]].toList 8 = some ([.agg [.lit (.int .i64 0), .lit (.int .i64 0), .lit (.int .i64 0), .lit (.string []), .nil]], [], places) :=
  ⟨[], by kernel_rfl⟩

set_option maxRecDepth 100000 in
theorem showLines_lifted (os : Os) (started : os.Started) (H : Type) (enc : TypeId × Value → H) (F : Stop.Interp) :
    ReturnsInHanded {} Tryd.checked os 7 .any ((OpenSpec.ofChange Rows.showLinesSpec).preRow enc Tryd.prog Tryd.f7 Rows.showLinesRow.domain false Rows.showLinesRow.laid) (((OpenSpec.ofChange Rows.showLinesSpec).at F).post enc Tryd.prog Tryd.f7 false true false false) := by
  obtain ⟨places, hx⟩ := showLines_reads os enc
  refine returnsInHanded_of_row (C := Tryd.checked) (s := OpenSpec.ofChange Rows.showLinesSpec) own started (by kernel_rfl) Tryd.func7
    (witness_row_atRef (enc := enc) (C := Tryd.checked) false (World.laidAll Tryd.prog os Rows.showLinesRow.laid) #[.agg #[.int .i64 0, .int .i64 0, .int .i64 0, .string ⟨#[]⟩, .slice none 0 0]] (World.laidAll_os _ _ _) (by kernel_rfl) (by kernel_rfl) (by kernel_rfl)
      (OpenSpec.preRow_of_cond 8 hx (by kernel_rfl) (fun k hk => by cases hk) (by kernel_rfl) (showLines_met os))) ?_
  intro W base args ds gs before hval hW _ _ _ hL hS _
  exact showLines_contract H enc W base args ds gs before hval hW hL hS

theorem showLines_said : Rows.ShowLinesSaid :=
  OpenClaim.holds_of_cond 7 Tryd.f7 rfl rfl rfl rfl rfl rfl rfl ⟨rfl, rfl, rfl, rfl, rfl⟩ rfl rfl rfl rfl rfl (by kernel_rfl) Tryd.func7 (by kernel_rfl)
    (of_decide_eq_true (by kernel_rfl)) (by unfold Func.isWrapper; first | (rw [if_pos (by decide +kernel)]; kernel_rfl) | (rw [if_neg (by decide +kernel)]; exact ⟨rfl, rfl⟩))
    (fun os started H enc _ F => by rw [OpenClaim.pre_eq_preRow]; exact showLines_lifted os started H enc F)

theorem showLines_plain (f : FuncId) (fn : Func) (hf : Tryd.pinned.checked.prog.funcNamed "pentimento/pentimentolaw31.ShowLines" = some f) (hfn : Tryd.pinned.checked.prog.funcs[f]? = some fn) :
    true = Tryd.pinned.checked.prog.looks [] ∧ ∀ (j : Nat) t, fn.params[j]? = some t → Tryd.pinned.checked.prog.wantsStandIn t = false := by
  obtain rfl : f = 7 := Option.some.inj ((show Tryd.prog.funcNamed "pentimento/pentimentolaw31.ShowLines" = some 7 by kernel_rfl).symm.trans hf) |>.symm
  obtain rfl : fn = Tryd.f7 := (Option.some.inj (Tryd.func7.symm.trans hfn)).symm
  refine ⟨by kernel_rfl, fun j t ht => ?_⟩
  rw [Tryd.params7] at ht
  obtain rfl : t = 57 := by simpa using Array.mem_of_getElem? ht
  exact (show Tryd.prog.wantsStandIn 57 = false by kernel_rfl)

/-- The card. -/
theorem showLines : Rows.ShowLinesCardSaid :=
  Claim7.holds_tied_plain_at .later [] _ _ _ _ showLines_said (fun _ h => by cases h) (by kernel_rfl) (fun _ h => by cases h) showLines_row_tie rfl ⟨rfl, rfl⟩ (by kernel_rfl) rfl showLines_plain (by kernel_rfl)
#print axioms showLines
end Go.Proofs.YtmakpilfjopmeaaDoor
