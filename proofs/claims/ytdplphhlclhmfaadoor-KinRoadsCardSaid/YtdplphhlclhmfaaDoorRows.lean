/-
  NARROWER THAN 'FOR EVERY INPUT', by the rows' own cells (each row's printed sentence says how): SphereCounts: laid · SphereLegals: laid · SphereSteps: laid · KinBridges: laid · KinBare: laid · KinGroups: laid · KinRoads: laid.
  DERIVED. THE GIVEN ROWS OF THIS SEAT. 7 by the template 'for every input the law returns true; each argument reads behind the call as it read before'; 0 by the template 'total and deterministic' (their statements: YtdplphhlclhmfaaDoorTotals.lean).
  GIVEN WITH THE SEED: the statements are not yours to turn. If you find one false, say at which input.
  Laid BY PROGRAM, IN A SANDBOX (cutbox-rows.mjs): the forced cells as the released guide's own fill.sh prints them over the translation eb8fd3e854b31b81… (all of the seat's roots in one cut). By AI agents, Wed Nov 11 2026. No macro, syntax, notation, axiom, sorry.
-/
import Derived.Test.YtdplphhlclhmfaaDoorChecked
import GoSem.Claim
import GoSem.ClaimJoined
import GoSem.ClaimMapViews
import Derived.JoinedTies
import Derived.KernelRfl
namespace Go.Proofs.YtdplphhlclhmfaaDoor
/- THE CELL 'sum', in the pinned program and in every row, IS THE sha256 OF THE DUMP (.gsa) THAT YtdplphhlclhmfaaDoorProg.lean LOADS. Nothing in Lean hashes anything: it is a label: what it is worth is what the hold of that sum in a sandbox is worth. -/
noncomputable def Tryd.pinned : Pinned := { name := "ytdplphhlclhmfaadoor", sum := "eb8fd3e854b31b813feb2330d89cdd35fb19ba5ef036844f447e28d527e145d4", checked := Tryd.checked }
namespace Rows
def none {H : Type} : Left H := { results := [], args := [] }

/- WHAT THE LISTED PACKAGE-LEVEL VARIABLES READ AS WHEN THE CALL BEGINS. Each datum BY PROGRAM (the guide's laid-datum.mjs) off the statement by which the dump's own 'gosem.cut.vars' lays the variable. In a bare row this is a premise. The card (YtdplphhlclhmfaaDoorCards.lean) ties it to the program's text. -/
def laid_errors_errorType {H : Type} : DataW H := .iface "internal/reflectlite.rtype" (.agg [.ptr (.lit (.string [101, 114, 114, 111, 114]))])

/-- 'plaitlaw12.SphereCounts': WHATEVER THE INPUT: true; the input reads as it did. -/
def sphereCountsSpec : ChangeSpec := { name := "sphereCounts", fn := fun _ => fun
  | [d1, d2, d3] => { results := [.lit (.bool true)], args := [d1, d2, d3] }
  | _ => none }
def sphereCountsRow : OpenClaim := { program := "ytdplphhlclhmfaadoor", sum := "eb8fd3e854b31b813feb2330d89cdd35fb19ba5ef036844f447e28d527e145d4", func := "plait/plaitlaw12.SphereCounts", spec := "sphereCounts", inPlace := ["internal/reflectlite.ValueOf", "(internal/reflectlite.Value).Type", "(internal/reflectlite.Value).IsNil", "internal/reflectlite.TypeOf", "(internal/reflectlite.Value).Elem", "(internal/reflectlite.Value).Set"], unfollowed := true, recurses := true, named := ["errors.errorType"], apart := false, laid := [("errors.errorType", laid_errors_errorType)] }
def SphereCountsSaid : Prop := sphereCountsRow.holds Tryd.pinned (OpenSpec.ofChange sphereCountsSpec)

/-- ITS FALSE NEIGHBOUR: 'it returns false'. Refute it at one input. -/
def sphereCountsWrong : ChangeSpec := { name := "sphereCounts", fn := fun _ => fun
  | [d1, d2, d3] => { results := [.lit (.bool false)], args := [d1, d2, d3] }
  | _ => none }
def SphereCountsWrongFalsely : Prop := sphereCountsRow.holds Tryd.pinned (OpenSpec.ofChange sphereCountsWrong)

/-- 'plaitlaw12.SphereLegals': WHATEVER THE INPUT: true; the input reads as it did. -/
def sphereLegalsSpec : ChangeSpec := { name := "sphereLegals", fn := fun _ => fun
  | [d1, d2, d3] => { results := [.lit (.bool true)], args := [d1, d2, d3] }
  | _ => none }
def sphereLegalsRow : OpenClaim := { program := "ytdplphhlclhmfaadoor", sum := "eb8fd3e854b31b813feb2330d89cdd35fb19ba5ef036844f447e28d527e145d4", func := "plait/plaitlaw12.SphereLegals", spec := "sphereLegals", inPlace := ["internal/reflectlite.ValueOf", "(internal/reflectlite.Value).Type", "(internal/reflectlite.Value).IsNil", "internal/reflectlite.TypeOf", "(internal/reflectlite.Value).Elem", "(internal/reflectlite.Value).Set"], unfollowed := true, recurses := true, named := ["errors.errorType"], apart := false, laid := [("errors.errorType", laid_errors_errorType)] }
def SphereLegalsSaid : Prop := sphereLegalsRow.holds Tryd.pinned (OpenSpec.ofChange sphereLegalsSpec)

/-- ITS FALSE NEIGHBOUR: 'it returns false'. Refute it at one input. -/
def sphereLegalsWrong : ChangeSpec := { name := "sphereLegals", fn := fun _ => fun
  | [d1, d2, d3] => { results := [.lit (.bool false)], args := [d1, d2, d3] }
  | _ => none }
def SphereLegalsWrongFalsely : Prop := sphereLegalsRow.holds Tryd.pinned (OpenSpec.ofChange sphereLegalsWrong)

/-- 'plaitlaw12.SphereSteps': WHATEVER THE INPUT: true; the input reads as it did. -/
def sphereStepsSpec : ChangeSpec := { name := "sphereSteps", fn := fun _ => fun
  | [d1, d2, d3] => { results := [.lit (.bool true)], args := [d1, d2, d3] }
  | _ => none }
def sphereStepsRow : OpenClaim := { program := "ytdplphhlclhmfaadoor", sum := "eb8fd3e854b31b813feb2330d89cdd35fb19ba5ef036844f447e28d527e145d4", func := "plait/plaitlaw12.SphereSteps", spec := "sphereSteps", inPlace := ["internal/reflectlite.ValueOf", "(internal/reflectlite.Value).Type", "(internal/reflectlite.Value).IsNil", "internal/reflectlite.TypeOf", "(internal/reflectlite.Value).Elem", "(internal/reflectlite.Value).Set"], unfollowed := true, recurses := true, named := ["errors.errorType"], apart := false, laid := [("errors.errorType", laid_errors_errorType)] }
def SphereStepsSaid : Prop := sphereStepsRow.holds Tryd.pinned (OpenSpec.ofChange sphereStepsSpec)

/-- ITS FALSE NEIGHBOUR: 'it returns false'. Refute it at one input. -/
def sphereStepsWrong : ChangeSpec := { name := "sphereSteps", fn := fun _ => fun
  | [d1, d2, d3] => { results := [.lit (.bool false)], args := [d1, d2, d3] }
  | _ => none }
def SphereStepsWrongFalsely : Prop := sphereStepsRow.holds Tryd.pinned (OpenSpec.ofChange sphereStepsWrong)

/-- 'plaitlaw15.KinBridges': WHATEVER THE INPUT: true; the input reads as it did. -/
def kinBridgesSpec : ChangeSpec := { name := "kinBridges", fn := fun _ => fun
  | [d1, d2, d3] => { results := [.lit (.bool true)], args := [d1, d2, d3] }
  | _ => none }
def kinBridgesRow : OpenClaim := { program := "ytdplphhlclhmfaadoor", sum := "eb8fd3e854b31b813feb2330d89cdd35fb19ba5ef036844f447e28d527e145d4", func := "plait/plaitlaw15.KinBridges", spec := "kinBridges", inPlace := ["internal/reflectlite.ValueOf", "(internal/reflectlite.Value).Type", "(internal/reflectlite.Value).IsNil", "internal/reflectlite.TypeOf", "(internal/reflectlite.Value).Elem", "(internal/reflectlite.Value).Set"], unfollowed := true, recurses := true, named := ["errors.errorType"], apart := false, laid := [("errors.errorType", laid_errors_errorType)] }
def KinBridgesSaid : Prop := kinBridgesRow.holds Tryd.pinned (OpenSpec.ofChange kinBridgesSpec)

/-- ITS FALSE NEIGHBOUR: 'it returns false'. Refute it at one input. -/
def kinBridgesWrong : ChangeSpec := { name := "kinBridges", fn := fun _ => fun
  | [d1, d2, d3] => { results := [.lit (.bool false)], args := [d1, d2, d3] }
  | _ => none }
def KinBridgesWrongFalsely : Prop := kinBridgesRow.holds Tryd.pinned (OpenSpec.ofChange kinBridgesWrong)

/-- 'plaitlaw15.KinBare': WHATEVER THE INPUT: true; the input reads as it did. -/
def kinBareSpec : ChangeSpec := { name := "kinBare", fn := fun _ => fun
  | [d1, d2] => { results := [.lit (.bool true)], args := [d1, d2] }
  | _ => none }
def kinBareRow : OpenClaim := { program := "ytdplphhlclhmfaadoor", sum := "eb8fd3e854b31b813feb2330d89cdd35fb19ba5ef036844f447e28d527e145d4", func := "plait/plaitlaw15.KinBare", spec := "kinBare", inPlace := ["internal/reflectlite.ValueOf", "(internal/reflectlite.Value).Type", "(internal/reflectlite.Value).IsNil", "internal/reflectlite.TypeOf", "(internal/reflectlite.Value).Elem", "(internal/reflectlite.Value).Set"], unfollowed := true, recurses := true, named := ["errors.errorType"], apart := false, laid := [("errors.errorType", laid_errors_errorType)] }
def KinBareSaid : Prop := kinBareRow.holds Tryd.pinned (OpenSpec.ofChange kinBareSpec)

/-- ITS FALSE NEIGHBOUR: 'it returns false'. Refute it at one input. -/
def kinBareWrong : ChangeSpec := { name := "kinBare", fn := fun _ => fun
  | [d1, d2] => { results := [.lit (.bool false)], args := [d1, d2] }
  | _ => none }
def KinBareWrongFalsely : Prop := kinBareRow.holds Tryd.pinned (OpenSpec.ofChange kinBareWrong)

/-- 'plaitlaw15.KinGroups': WHATEVER THE INPUT: true; the input reads as it did. -/
def kinGroupsSpec : ChangeSpec := { name := "kinGroups", fn := fun _ => fun
  | [d1, d2, d3] => { results := [.lit (.bool true)], args := [d1, d2, d3] }
  | _ => none }
def kinGroupsRow : OpenClaim := { program := "ytdplphhlclhmfaadoor", sum := "eb8fd3e854b31b813feb2330d89cdd35fb19ba5ef036844f447e28d527e145d4", func := "plait/plaitlaw15.KinGroups", spec := "kinGroups", inPlace := ["internal/reflectlite.ValueOf", "(internal/reflectlite.Value).Type", "(internal/reflectlite.Value).IsNil", "internal/reflectlite.TypeOf", "(internal/reflectlite.Value).Elem", "(internal/reflectlite.Value).Set"], unfollowed := true, recurses := true, named := ["errors.errorType"], apart := false, laid := [("errors.errorType", laid_errors_errorType)] }
def KinGroupsSaid : Prop := kinGroupsRow.holds Tryd.pinned (OpenSpec.ofChange kinGroupsSpec)

/-- ITS FALSE NEIGHBOUR: 'it returns false'. Refute it at one input. -/
def kinGroupsWrong : ChangeSpec := { name := "kinGroups", fn := fun _ => fun
  | [d1, d2, d3] => { results := [.lit (.bool false)], args := [d1, d2, d3] }
  | _ => none }
def KinGroupsWrongFalsely : Prop := kinGroupsRow.holds Tryd.pinned (OpenSpec.ofChange kinGroupsWrong)

/-- 'plaitlaw15.KinRoads': WHATEVER THE INPUT: true; the input reads as it did. -/
def kinRoadsSpec : ChangeSpec := { name := "kinRoads", fn := fun _ => fun
  | [d1, d2, d3] => { results := [.lit (.bool true)], args := [d1, d2, d3] }
  | _ => none }
def kinRoadsRow : OpenClaim := { program := "ytdplphhlclhmfaadoor", sum := "eb8fd3e854b31b813feb2330d89cdd35fb19ba5ef036844f447e28d527e145d4", func := "plait/plaitlaw15.KinRoads", spec := "kinRoads", inPlace := ["internal/reflectlite.ValueOf", "(internal/reflectlite.Value).Type", "(internal/reflectlite.Value).IsNil", "internal/reflectlite.TypeOf", "(internal/reflectlite.Value).Elem", "(internal/reflectlite.Value).Set"], unfollowed := true, recurses := true, named := ["errors.errorType"], apart := false, laid := [("errors.errorType", laid_errors_errorType)] }
def KinRoadsSaid : Prop := kinRoadsRow.holds Tryd.pinned (OpenSpec.ofChange kinRoadsSpec)

/-- ITS FALSE NEIGHBOUR: 'it returns false'. Refute it at one input. -/
def kinRoadsWrong : ChangeSpec := { name := "kinRoads", fn := fun _ => fun
  | [d1, d2, d3] => { results := [.lit (.bool false)], args := [d1, d2, d3] }
  | _ => none }
def KinRoadsWrongFalsely : Prop := kinRoadsRow.holds Tryd.pinned (OpenSpec.ofChange kinRoadsWrong)

/- THE SECOND FORM. 'bulk': how many values and letters a reading holds, each counted each time it is reached (what is shared counts as often as it is met; a slice's spare places count too). A statement '..UptoSaid' is the law's where the arguments, and the package variables that the reading takes, are together of bulk at most 1048576: NARROWER than '..Said'. Prove '..Said' where nothing that the law and all that it calls make is longer than what came in: it says more and counts as full. Else prove '..UptoSaid'. A law counts once. -/
mutual
def uptoBulk {H : Type} : DataW H → Nat
  | .lit (.string bytes) => bytes.length + 1
  | .lit _ => 1
  | .nil => 1
  | .ptr d => uptoBulk d + 1
  | .slice elems spare => uptoBulkAll elems + uptoBulkAll spare + 1
  | .agg parts => uptoBulkAll parts + 1
  | .iface _ d => uptoBulk d + 1
  | .map entries => uptoBulkEntries entries + 1
  | .held _ => 1
def uptoBulkAll {H : Type} : List (DataW H) → Nat
  | [] => 0
  | d :: r => uptoBulk d + uptoBulkAll r
def uptoBulkEntries {H : Type} : List (Lit × DataW H) → Nat
  | [] => 0
  | x :: r => uptoBulkEntry x + uptoBulkEntries r
def uptoBulkEntry {H : Type} : Lit × DataW H → Nat
  | (.string bytes, d) => bytes.length + uptoBulk d + 1
  | (_, d) => uptoBulk d + 1
 end
def uptoSmall : (H : Type) → List (DataW H) → Bool := fun _ ds => decide (uptoBulkAll ds ≤ 1048576)
def OpenSpec.upto (s : _root_.Go.ChangeSpec) : _root_.Go.OpenSpec := { _root_.Go.OpenSpec.ofChange s with cond := some uptoSmall }

/-- 'plaitlaw12.SphereCounts', WHERE WHAT IT READS IS OF BULK AT MOST 1048576: true; the input reads as it did. -/
def sphereCountsUptoRow : OpenClaim := { program := "ytdplphhlclhmfaadoor", sum := "eb8fd3e854b31b813feb2330d89cdd35fb19ba5ef036844f447e28d527e145d4", func := "plait/plaitlaw12.SphereCounts", spec := "sphereCounts", inPlace := ["internal/reflectlite.ValueOf", "(internal/reflectlite.Value).Type", "(internal/reflectlite.Value).IsNil", "internal/reflectlite.TypeOf", "(internal/reflectlite.Value).Elem", "(internal/reflectlite.Value).Set"], unfollowed := true, recurses := true, named := ["errors.errorType"], apart := false, laid := [("errors.errorType", laid_errors_errorType)], narrowed := true }
def SphereCountsUptoSaid : Prop := sphereCountsUptoRow.holds Tryd.pinned (OpenSpec.upto sphereCountsSpec)

/-- 'plaitlaw12.SphereLegals', WHERE WHAT IT READS IS OF BULK AT MOST 1048576: true; the input reads as it did. -/
def sphereLegalsUptoRow : OpenClaim := { program := "ytdplphhlclhmfaadoor", sum := "eb8fd3e854b31b813feb2330d89cdd35fb19ba5ef036844f447e28d527e145d4", func := "plait/plaitlaw12.SphereLegals", spec := "sphereLegals", inPlace := ["internal/reflectlite.ValueOf", "(internal/reflectlite.Value).Type", "(internal/reflectlite.Value).IsNil", "internal/reflectlite.TypeOf", "(internal/reflectlite.Value).Elem", "(internal/reflectlite.Value).Set"], unfollowed := true, recurses := true, named := ["errors.errorType"], apart := false, laid := [("errors.errorType", laid_errors_errorType)], narrowed := true }
def SphereLegalsUptoSaid : Prop := sphereLegalsUptoRow.holds Tryd.pinned (OpenSpec.upto sphereLegalsSpec)

/-- 'plaitlaw12.SphereSteps', WHERE WHAT IT READS IS OF BULK AT MOST 1048576: true; the input reads as it did. -/
def sphereStepsUptoRow : OpenClaim := { program := "ytdplphhlclhmfaadoor", sum := "eb8fd3e854b31b813feb2330d89cdd35fb19ba5ef036844f447e28d527e145d4", func := "plait/plaitlaw12.SphereSteps", spec := "sphereSteps", inPlace := ["internal/reflectlite.ValueOf", "(internal/reflectlite.Value).Type", "(internal/reflectlite.Value).IsNil", "internal/reflectlite.TypeOf", "(internal/reflectlite.Value).Elem", "(internal/reflectlite.Value).Set"], unfollowed := true, recurses := true, named := ["errors.errorType"], apart := false, laid := [("errors.errorType", laid_errors_errorType)], narrowed := true }
def SphereStepsUptoSaid : Prop := sphereStepsUptoRow.holds Tryd.pinned (OpenSpec.upto sphereStepsSpec)

/-- 'plaitlaw15.KinBridges', WHERE WHAT IT READS IS OF BULK AT MOST 1048576: true; the input reads as it did. -/
def kinBridgesUptoRow : OpenClaim := { program := "ytdplphhlclhmfaadoor", sum := "eb8fd3e854b31b813feb2330d89cdd35fb19ba5ef036844f447e28d527e145d4", func := "plait/plaitlaw15.KinBridges", spec := "kinBridges", inPlace := ["internal/reflectlite.ValueOf", "(internal/reflectlite.Value).Type", "(internal/reflectlite.Value).IsNil", "internal/reflectlite.TypeOf", "(internal/reflectlite.Value).Elem", "(internal/reflectlite.Value).Set"], unfollowed := true, recurses := true, named := ["errors.errorType"], apart := false, laid := [("errors.errorType", laid_errors_errorType)], narrowed := true }
def KinBridgesUptoSaid : Prop := kinBridgesUptoRow.holds Tryd.pinned (OpenSpec.upto kinBridgesSpec)

/-- 'plaitlaw15.KinBare', WHERE WHAT IT READS IS OF BULK AT MOST 1048576: true; the input reads as it did. -/
def kinBareUptoRow : OpenClaim := { program := "ytdplphhlclhmfaadoor", sum := "eb8fd3e854b31b813feb2330d89cdd35fb19ba5ef036844f447e28d527e145d4", func := "plait/plaitlaw15.KinBare", spec := "kinBare", inPlace := ["internal/reflectlite.ValueOf", "(internal/reflectlite.Value).Type", "(internal/reflectlite.Value).IsNil", "internal/reflectlite.TypeOf", "(internal/reflectlite.Value).Elem", "(internal/reflectlite.Value).Set"], unfollowed := true, recurses := true, named := ["errors.errorType"], apart := false, laid := [("errors.errorType", laid_errors_errorType)], narrowed := true }
def KinBareUptoSaid : Prop := kinBareUptoRow.holds Tryd.pinned (OpenSpec.upto kinBareSpec)

/-- 'plaitlaw15.KinGroups', WHERE WHAT IT READS IS OF BULK AT MOST 1048576: true; the input reads as it did. -/
def kinGroupsUptoRow : OpenClaim := { program := "ytdplphhlclhmfaadoor", sum := "eb8fd3e854b31b813feb2330d89cdd35fb19ba5ef036844f447e28d527e145d4", func := "plait/plaitlaw15.KinGroups", spec := "kinGroups", inPlace := ["internal/reflectlite.ValueOf", "(internal/reflectlite.Value).Type", "(internal/reflectlite.Value).IsNil", "internal/reflectlite.TypeOf", "(internal/reflectlite.Value).Elem", "(internal/reflectlite.Value).Set"], unfollowed := true, recurses := true, named := ["errors.errorType"], apart := false, laid := [("errors.errorType", laid_errors_errorType)], narrowed := true }
def KinGroupsUptoSaid : Prop := kinGroupsUptoRow.holds Tryd.pinned (OpenSpec.upto kinGroupsSpec)

/-- 'plaitlaw15.KinRoads', WHERE WHAT IT READS IS OF BULK AT MOST 1048576: true; the input reads as it did. -/
def kinRoadsUptoRow : OpenClaim := { program := "ytdplphhlclhmfaadoor", sum := "eb8fd3e854b31b813feb2330d89cdd35fb19ba5ef036844f447e28d527e145d4", func := "plait/plaitlaw15.KinRoads", spec := "kinRoads", inPlace := ["internal/reflectlite.ValueOf", "(internal/reflectlite.Value).Type", "(internal/reflectlite.Value).IsNil", "internal/reflectlite.TypeOf", "(internal/reflectlite.Value).Elem", "(internal/reflectlite.Value).Set"], unfollowed := true, recurses := true, named := ["errors.errorType"], apart := false, laid := [("errors.errorType", laid_errors_errorType)], narrowed := true }
def KinRoadsUptoSaid : Prop := kinRoadsUptoRow.holds Tryd.pinned (OpenSpec.upto kinRoadsSpec)

end Rows
end Go.Proofs.YtdplphhlclhmfaaDoor
