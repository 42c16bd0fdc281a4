/- From the rows' conditions on the listed variables to the walks' facts; a world that meets them. -/
import Derived.Test.YtdplphhlclhmfaaDoorRows
import Derived.Test.YtdplphhlclhmfaaDoorErr
import Derived.ChangeSame
import Derived.ChangeVars
import Derived.JoinedOf
import Derived.RowKit
import Derived.RowKitTokens
import Derived.LaidLaws
import Derived.LaidHandle
import Derived.Stop.Joined
import Derived.Lib.LaidTab
namespace Go.Proofs.YtdplphhlclhmfaaDoor
open Go Go.ChangeShapes Go.WideShapes Go.RowKit
set_option linter.unusedVariables false
set_option linter.unusedSimpArgs false

theorem kown : ownKnob Tryd.prog.godebug = none := by kernel_rfl
theorem klaidOut : laidOutB Tryd.prog = true := by kernel_rfl
theorem ket : Tryd.prog.globalNamed "errors.errorType" = some 0 := by kernel_rfl
theorem krt : (Tryd.prog.cutTypes.find? (·.1 == "internal/reflectlite.rtype")).map (·.2) = some 163 := by kernel_rfl
theorem koneRow : ((List.range 234).filter fun t => Tryd.prog.rowNamed t [101, 114, 114, 111, 114]) = [34] := by kernel_rfl
theorem ksize : Tryd.prog.types.size = 234 := by kernel_rfl

abbrev errRow : String × DataW Unit := ("errors.errorType", Rows.laid_errors_errorType)
abbrev laidE : List (String × DataW Unit) := [errRow]

theorem err_of_laidE {W : World} (h : laidMetH Tryd.prog laidE W) : ErrT W := by
  have h' : laidMet Tryd.prog [] W ∧ handlesMet Tryd.prog [errRow] W := h
  obtain ⟨name, u, ty, e1, e2, e3, e4, e5⟩ := h'.2 _ (List.mem_singleton.2 rfl)
  have en : name = [101, 114, 114, 111, 114] := (Option.some.inj e1).symm
  subst en
  obtain rfl := Option.some.inj (krt.symm.trans e2)
  have hm : ty ∈ (List.range 234).filter fun t => Tryd.prog.rowNamed t [101, 114, 114, 111, 114] := List.mem_filter.2 ⟨List.mem_range.2 (by rw [← ksize]; exact e3), e4⟩
  rw [koneRow] at hm
  obtain rfl := List.mem_singleton.1 hm
  have hh : typeHandle Tryd.prog 34 = .pointer (some ⟨1, 34, none⟩) := by kernel_rfl
  rw [hh] at e5
  have := World.var?_cell ket e5 0
  simpa [ErrT] using this

/-- A world that meets the conditions: the settled one, the variables' cells laid. -/
noncomputable def laidWorld (os : Os) : World :=
  let w0 := World.holding Tryd.prog os ⟨#[], #[], []⟩
  { w0 with heap := w0.heap.modify 0 fun
      | .cells _ t frozen => .cells #[.iface 163 (.agg #[.pointer (some ⟨1, 34, none⟩)])] t frozen
      | o => o }
set_option maxRecDepth 100000 in
theorem laidWorld_metE (os : Os) (args : Array Value) : laidMetH Tryd.prog laidE ((laidWorld os).forCall (fun _ _ => 0) ⟨#[], args, []⟩).memory :=
  laidMetH_of_parts (laidMet_nil _ _) (by kernel_rfl)
end Go.Proofs.YtdplphhlclhmfaaDoor
