/- From a row's listed variables to what the contracts ask of the world; a start for the witnesses. -/
import Derived.Test.YtmakpilfjopmeaaDoorEnv
import Derived.Test.YtmakpilfjopmeaaDoorCards
import Derived.Test.YtmakpilfjopmeaaDoorTie
import Derived.ProofKit
import Derived.OpenShut
import Derived.Deep.DeepHandedRow
import Derived.Deep.DeepWitnessRowRef
import Derived.Lib.LaidTab
import Derived.Stop.LaidErr
import Derived.LaidSub
import Derived.LaidMore
import Derived.MakeChecks
import Derived.Lay
import Derived.ChangeMaps5
set_option linter.unusedVariables false
set_option linter.unusedSimpArgs false
namespace Go.Proofs.YtmakpilfjopmeaaDoor
open Go Go.RowKit Go.Lib Go.ChangeShapes Go.WideShapes Go.ChangeAt

theorem own : ownKnob Tryd.prog.godebug = none := by kernel_rfl
theorem gPow : Tryd.prog.globalNamed "internal/strconv.uint64pow10" = some 1 := by kernel_rfl
theorem gPowType : (Tryd.prog.globals[1]?).map (·.type) = some 149 := by kernel_rfl
theorem cellsPow : Tryd.prog.cellsOf 149 = 20 := by kernel_rfl
theorem cellsU64 : Tryd.prog.cellsOf 24 = 1 := by kernel_rfl
theorem gSyn : Tryd.prog.globalNamed "strconv.ErrSyntax" = some 3 := by kernel_rfl
theorem gSynType : (Tryd.prog.globals[3]?).map (·.type) = some 104 := by kernel_rfl
theorem gRan : Tryd.prog.globalNamed "strconv.ErrRange" = some 4 := by kernel_rfl
theorem gRanType : (Tryd.prog.globals[4]?).map (·.type) = some 104 := by kernel_rfl
theorem cellsErr : Tryd.prog.cellsOf 166 = 1 := by kernel_rfl
theorem cellsStr : Tryd.prog.cellsOf 9 = 1 := by kernel_rfl
theorem star_err : "*" ++ "errors.errorString" = "*errors.errorString" := by decide
theorem row_err (u : TypeId) (h : Tryd.prog.typeName? 3 u = some "*errors.errorString") : u = 164 :=
  typeName_ptr_named (nm := "errors.errorString") (by rw [star_err]; kernel_rfl) (by kernel_rfl) (by decide) u (by rw [star_err]; exact h)

theorem env_of {l : List (String × DataW Unit)} {W : World} (h : laidMetH Tryd.prog l W) (hl : (l.all fun x => x.2.handleName?.isNone) = true)
    (h1 : (l.filter fun x => x.1 == "internal/strconv.uint64pow10") = [("internal/strconv.uint64pow10", tabData .u64 pow10Tab)])
    (h2 : ∃ s, (l.filter fun x => x.1 == "strconv.ErrSyntax") = [("strconv.ErrSyntax", .iface "*errors.errorString" (.ptr (.agg [.lit (.string s)])))])
    (h3 : ∃ s, (l.filter fun x => x.1 == "strconv.ErrRange") = [("strconv.ErrRange", .iface "*errors.errorString" (.ptr (.agg [.lit (.string s)])))])
    (hS : W.ShapedOpen Tryd.prog) : Env W := by
  rw [MakeChecks.laidMetH_plain Tryd.prog l W hl] at h
  have p1 := h.filter fun x => x.1 == "internal/strconv.uint64pow10"
  rw [h1] at p1
  obtain ⟨s2, e2⟩ := h2
  obtain ⟨s3, e3⟩ := h3
  have p2 := h.filter fun x => x.1 == "strconv.ErrSyntax"
  rw [e2] at p2
  have p3 := h.filter fun x => x.1 == "strconv.ErrRange"
  rw [e3] at p3
  obtain ⟨a, _, hv, _⟩ := laid_sentinel p2 gSyn gSynType Tryd.underlying104 row_err Tryd.underlying164 Tryd.underlying166 rfl rfl Tryd.underlying9 cellsErr cellsStr
  obtain ⟨b, _, hv', _⟩ := laid_sentinel p3 gRan gRanType Tryd.underlying104 row_err Tryd.underlying164 Tryd.underlying166 rfl rfl Tryd.underlying9 cellsErr cellsStr
  exact ⟨tabIs_of_head gPow gPowType Tryd.underlying149 Tryd.underlying24 cellsU64 cellsPow p1, cell_of_shapedOpen_int (zero := #[.int .i64 0]) (t := 3) hS (of_decide_eq_true (by kernel_rfl)) (by kernel_rfl) rfl (by kernel_rfl) (by kernel_rfl) Tryd.underlying3,
    ⟨_, _, World.var?_cell gSyn hv 0⟩, ⟨_, _, World.var?_cell gRan hv' 0⟩⟩
end Go.Proofs.YtmakpilfjopmeaaDoor
