/- From the rows' conditions on the listed variables to the walks' facts; a world that meets them. -/
import Derived.Test.YtiphdlhnoceeiaaDoorRows
import Derived.Test.YtiphdlhnoceeiaaDoorSl2
import Derived.Test.YtiphdlhnoceeiaaDoorErr
import Derived.ChangeSame
import Derived.ChangeVars
import Derived.JoinedOf
import Derived.RowKit
import Derived.RowKitTokens
import Derived.LaidLaws
import Derived.LaidHandle
import Derived.Stop.Joined
import Derived.Lib.LaidTab
namespace Go.Proofs.YtiphdlhnoceeiaaDoor
open Go Go.ChangeShapes Go.WideShapes Go.RowKit
set_option linter.unusedVariables false
set_option linter.unusedSimpArgs false

theorem kown : ownKnob Tryd.prog.godebug = none := by kernel_rfl
theorem klaidOut : laidOutB Tryd.prog = true := by kernel_rfl
theorem ktab : Tryd.prog.globalNamed "math/bits.deBruijn64tab" = some 0 := by kernel_rfl
theorem ktabType : (Tryd.prog.globals[0]?).map (·.type) = some 118 := by kernel_rfl
theorem ket : Tryd.prog.globalNamed "errors.errorType" = some 1 := by kernel_rfl
theorem krt : (Tryd.prog.cutTypes.find? (·.1 == "internal/reflectlite.rtype")).map (·.2) = some 137 := by kernel_rfl
theorem koneRow : ((List.range 178).filter fun t => Tryd.prog.rowNamed t [101, 114, 114, 111, 114]) = [26] := by kernel_rfl
theorem ksize : Tryd.prog.types.size = 178 := by kernel_rfl

abbrev tabRow : String × DataW Unit := ("math/bits.deBruijn64tab", Rows.laid_math_bits_deBruijn64tab)
abbrev errRow : String × DataW Unit := ("errors.errorType", Rows.laid_errors_errorType)
abbrev laid1 : List (String × DataW Unit) := [tabRow]
abbrev laid2 : List (String × DataW Unit) := [tabRow, errRow]

theorem tab_of_laidMet {W : World} {rest : List (String × DataW Unit)} (h : laidMet Tryd.prog (tabRow :: rest) W) : Tab W := by
  have h' : laidMet Tryd.prog (("math/bits.deBruijn64tab", Lib.tabData .u8 (Lib.deBruijn64tab.map fun (n : Nat) => (n : Int))) :: rest) W := h
  have ht := Lib.tabIs_of_head ktab ktabType Tryd.underlying118 Tryd.underlying5 (by kernel_rfl) (by kernel_rfl) h'
  intro j hj
  have hc := ht.cell ktab j (by simp [Lib.deBruijn64tab]; exact hj)
  rw [hc]
  congr 2
  have hl : j < Lib.deBruijn64tab.length := hj
  simp [List.getD_eq_getElem?_getD, List.getElem?_map, List.getElem?_eq_getElem hl]

theorem tab_of_laid1 {W : World} (h : laidMetH Tryd.prog laid1 W) : Tab W := tab_of_laidMet (rest := []) h
theorem tab_of_laid2 {W : World} (h : laidMetH Tryd.prog laid2 W) : Tab W := by
  have h' : laidMet Tryd.prog [tabRow] W ∧ handlesMet Tryd.prog [errRow] W := h
  exact tab_of_laidMet h'.1
theorem err_of_laid2 {W : World} (h : laidMetH Tryd.prog laid2 W) : ErrT W := by
  have h' : laidMet Tryd.prog [tabRow] W ∧ handlesMet Tryd.prog [errRow] W := h
  obtain ⟨name, u, ty, e1, e2, e3, e4, e5⟩ := h'.2 _ (List.mem_singleton.2 rfl)
  have en : name = [101, 114, 114, 111, 114] := (Option.some.inj e1).symm
  subst en
  obtain rfl := Option.some.inj (krt.symm.trans e2)
  have hm : ty ∈ (List.range 178).filter fun t => Tryd.prog.rowNamed t [101, 114, 114, 111, 114] := List.mem_filter.2 ⟨List.mem_range.2 (by rw [← ksize]; exact e3), e4⟩
  rw [koneRow] at hm
  obtain rfl := List.mem_singleton.1 hm
  have hh : typeHandle Tryd.prog 26 = .pointer (some ⟨2, 26, none⟩) := by kernel_rfl
  rw [hh] at e5
  have := World.var?_cell ket e5 0
  simpa [ErrT] using this

def tabCells : Array Value := (Lib.deBruijn64tab.map fun (n : Nat) => Value.int .u8 (n : Int)).toArray
/-- A world that meets the conditions: the settled one, the variables' cells laid. -/
noncomputable def laidWorld (os : Os) : World :=
  let w0 := World.holding Tryd.prog os ⟨#[], #[], []⟩
  { w0 with heap := (w0.heap.modify 0 fun
      | .cells _ t frozen => .cells tabCells t frozen
      | o => o).modify 1 fun
      | .cells _ t frozen => .cells #[.iface 137 (.agg #[.pointer (some ⟨2, 26, none⟩)])] t frozen
      | o => o }
set_option maxRecDepth 100000 in
theorem laidWorld_tab (os : Os) (args : Array Value) : laidMet Tryd.prog [tabRow] ((laidWorld os).forCall (fun _ _ => 0) ⟨#[], args, []⟩).memory :=
  laidMet_of_run' 8 (by kernel_rfl) (by kernel_rfl)
theorem laidWorld_met1 (os : Os) (args : Array Value) : laidMetH Tryd.prog laid1 ((laidWorld os).forCall (fun _ _ => 0) ⟨#[], args, []⟩).memory := laidWorld_tab os args
theorem laidWorld_met2 (os : Os) (args : Array Value) : laidMetH Tryd.prog laid2 ((laidWorld os).forCall (fun _ _ => 0) ⟨#[], args, []⟩).memory :=
  laidMetH_of_parts (laidWorld_tab os args) (by kernel_rfl)
end Go.Proofs.YtiphdlhnoceeiaaDoor
