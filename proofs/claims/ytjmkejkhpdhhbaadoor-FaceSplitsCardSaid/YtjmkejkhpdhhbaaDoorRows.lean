/-
  NARROWER THAN 'FOR EVERY INPUT', by the rows' own cells (each row's printed sentence says how): TurnChecks: laid · TurnSums: laid · TurnBack: laid · TurnNew: laid · TurnRuns: laid · TurnLoads: laid · FaceWalks: laid · FaceOnce: laid · FaceNexts: laid · TurnCopies: laid · FaceAts: laid · FaceCorners: laid · FaceSplits: laid.
  DERIVED. THE GIVEN ROWS OF THIS SEAT. 13 by the template 'for every input the law returns true; each argument reads behind the call as it read before'; 0 by the template 'total and deterministic' (their statements: YtjmkejkhpdhhbaaDoorTotals.lean).
  GIVEN WITH THE SEED: the statements are not yours to turn. If you find one false, say at which input.
  Laid BY PROGRAM, IN A SANDBOX (cutbox-rows.mjs): the forced cells as the released guide's own fill.sh prints them over the translation edc4c97fe47b8a61… (all of the seat's roots in one cut). By AI agents, Wed Nov 11 2026. No macro, syntax, notation, axiom, sorry.
-/
import Derived.Test.YtjmkejkhpdhhbaaDoorChecked
import GoSem.Claim
import GoSem.ClaimJoined
import GoSem.ClaimMapViews
import Derived.JoinedTies
import Derived.KernelRfl
namespace Go.Proofs.YtjmkejkhpdhhbaaDoor
/- THE CELL 'sum', in the pinned program and in every row, IS THE sha256 OF THE DUMP (.gsa) THAT YtjmkejkhpdhhbaaDoorProg.lean LOADS. Nothing in Lean hashes anything: it is a label: what it is worth is what the hold of that sum in a sandbox is worth. -/
noncomputable def Tryd.pinned : Pinned := { name := "ytjmkejkhpdhhbaadoor", sum := "edc4c97fe47b8a6127e084b1cdbf719b1a841055dc22892cc891dc6788a44211", checked := Tryd.checked }
namespace Rows
def none {H : Type} : Left H := { results := [], args := [] }

/- WHAT THE LISTED PACKAGE-LEVEL VARIABLES READ AS WHEN THE CALL BEGINS. Each datum BY PROGRAM (the guide's laid-datum.mjs) off the statement by which the dump's own 'gosem.cut.vars' lays the variable. In a bare row this is a premise. The card (YtjmkejkhpdhhbaaDoorCards.lean) ties it to the program's text. -/
def laid_errors_errorType {H : Type} : DataW H := .iface "internal/reflectlite.rtype" (.agg [.ptr (.lit (.string [101, 114, 114, 111, 114]))])

/-- 'plaitlaw10.TurnChecks': WHATEVER THE INPUT: true; the input reads as it did. -/
def turnChecksSpec : ChangeSpec := { name := "turnChecks", fn := fun _ => fun
  | [d1, d2, d3] => { results := [.lit (.bool true)], args := [d1, d2, d3] }
  | _ => none }
def turnChecksRow : OpenClaim := { program := "ytjmkejkhpdhhbaadoor", sum := "edc4c97fe47b8a6127e084b1cdbf719b1a841055dc22892cc891dc6788a44211", func := "plait/plaitlaw10.TurnChecks", spec := "turnChecks", inPlace := ["internal/reflectlite.ValueOf", "(internal/reflectlite.Value).Type", "(internal/reflectlite.Value).IsNil", "internal/reflectlite.TypeOf", "(internal/reflectlite.Value).Elem", "(internal/reflectlite.Value).Set"], unfollowed := true, recurses := true, named := ["errors.errorType"], apart := false, laid := [("errors.errorType", laid_errors_errorType)] }
def TurnChecksSaid : Prop := turnChecksRow.holds Tryd.pinned (OpenSpec.ofChange turnChecksSpec)

/-- ITS FALSE NEIGHBOUR: 'it returns false'. Refute it at one input. -/
def turnChecksWrong : ChangeSpec := { name := "turnChecks", fn := fun _ => fun
  | [d1, d2, d3] => { results := [.lit (.bool false)], args := [d1, d2, d3] }
  | _ => none }
def TurnChecksWrongFalsely : Prop := turnChecksRow.holds Tryd.pinned (OpenSpec.ofChange turnChecksWrong)

/-- 'plaitlaw10.TurnSums': WHATEVER THE INPUT: true; the input reads as it did. -/
def turnSumsSpec : ChangeSpec := { name := "turnSums", fn := fun _ => fun
  | [d1, d2] => { results := [.lit (.bool true)], args := [d1, d2] }
  | _ => none }
def turnSumsRow : OpenClaim := { program := "ytjmkejkhpdhhbaadoor", sum := "edc4c97fe47b8a6127e084b1cdbf719b1a841055dc22892cc891dc6788a44211", func := "plait/plaitlaw10.TurnSums", spec := "turnSums", inPlace := ["internal/reflectlite.ValueOf", "(internal/reflectlite.Value).Type", "(internal/reflectlite.Value).IsNil", "internal/reflectlite.TypeOf", "(internal/reflectlite.Value).Elem", "(internal/reflectlite.Value).Set"], unfollowed := true, recurses := true, named := ["errors.errorType"], apart := false, laid := [("errors.errorType", laid_errors_errorType)] }
def TurnSumsSaid : Prop := turnSumsRow.holds Tryd.pinned (OpenSpec.ofChange turnSumsSpec)

/-- ITS FALSE NEIGHBOUR: 'it returns false'. Refute it at one input. -/
def turnSumsWrong : ChangeSpec := { name := "turnSums", fn := fun _ => fun
  | [d1, d2] => { results := [.lit (.bool false)], args := [d1, d2] }
  | _ => none }
def TurnSumsWrongFalsely : Prop := turnSumsRow.holds Tryd.pinned (OpenSpec.ofChange turnSumsWrong)

/-- 'plaitlaw10.TurnBack': WHATEVER THE INPUT: true; the input reads as it did. -/
def turnBackSpec : ChangeSpec := { name := "turnBack", fn := fun _ => fun
  | [d1, d2, d3] => { results := [.lit (.bool true)], args := [d1, d2, d3] }
  | _ => none }
def turnBackRow : OpenClaim := { program := "ytjmkejkhpdhhbaadoor", sum := "edc4c97fe47b8a6127e084b1cdbf719b1a841055dc22892cc891dc6788a44211", func := "plait/plaitlaw10.TurnBack", spec := "turnBack", inPlace := ["internal/reflectlite.ValueOf", "(internal/reflectlite.Value).Type", "(internal/reflectlite.Value).IsNil", "internal/reflectlite.TypeOf", "(internal/reflectlite.Value).Elem", "(internal/reflectlite.Value).Set"], unfollowed := true, recurses := true, named := ["errors.errorType"], apart := false, laid := [("errors.errorType", laid_errors_errorType)] }
def TurnBackSaid : Prop := turnBackRow.holds Tryd.pinned (OpenSpec.ofChange turnBackSpec)

/-- ITS FALSE NEIGHBOUR: 'it returns false'. Refute it at one input. -/
def turnBackWrong : ChangeSpec := { name := "turnBack", fn := fun _ => fun
  | [d1, d2, d3] => { results := [.lit (.bool false)], args := [d1, d2, d3] }
  | _ => none }
def TurnBackWrongFalsely : Prop := turnBackRow.holds Tryd.pinned (OpenSpec.ofChange turnBackWrong)

/-- 'plaitlaw10.TurnNew': WHATEVER THE INPUT: true; the input reads as it did. -/
def turnNewSpec : ChangeSpec := { name := "turnNew", fn := fun _ => fun
  | [d1, d2] => { results := [.lit (.bool true)], args := [d1, d2] }
  | _ => none }
def turnNewRow : OpenClaim := { program := "ytjmkejkhpdhhbaadoor", sum := "edc4c97fe47b8a6127e084b1cdbf719b1a841055dc22892cc891dc6788a44211", func := "plait/plaitlaw10.TurnNew", spec := "turnNew", inPlace := ["internal/reflectlite.ValueOf", "(internal/reflectlite.Value).Type", "(internal/reflectlite.Value).IsNil", "internal/reflectlite.TypeOf", "(internal/reflectlite.Value).Elem", "(internal/reflectlite.Value).Set"], unfollowed := true, recurses := true, named := ["errors.errorType"], apart := false, laid := [("errors.errorType", laid_errors_errorType)] }
def TurnNewSaid : Prop := turnNewRow.holds Tryd.pinned (OpenSpec.ofChange turnNewSpec)

/-- ITS FALSE NEIGHBOUR: 'it returns false'. Refute it at one input. -/
def turnNewWrong : ChangeSpec := { name := "turnNew", fn := fun _ => fun
  | [d1, d2] => { results := [.lit (.bool false)], args := [d1, d2] }
  | _ => none }
def TurnNewWrongFalsely : Prop := turnNewRow.holds Tryd.pinned (OpenSpec.ofChange turnNewWrong)

/-- 'plaitlaw10.TurnRuns': WHATEVER THE INPUT: true; the input reads as it did. -/
def turnRunsSpec : ChangeSpec := { name := "turnRuns", fn := fun _ => fun
  | [d1, d2] => { results := [.lit (.bool true)], args := [d1, d2] }
  | _ => none }
def turnRunsRow : OpenClaim := { program := "ytjmkejkhpdhhbaadoor", sum := "edc4c97fe47b8a6127e084b1cdbf719b1a841055dc22892cc891dc6788a44211", func := "plait/plaitlaw10.TurnRuns", spec := "turnRuns", inPlace := ["internal/reflectlite.ValueOf", "(internal/reflectlite.Value).Type", "(internal/reflectlite.Value).IsNil", "internal/reflectlite.TypeOf", "(internal/reflectlite.Value).Elem", "(internal/reflectlite.Value).Set"], unfollowed := true, recurses := true, named := ["errors.errorType"], apart := false, laid := [("errors.errorType", laid_errors_errorType)] }
def TurnRunsSaid : Prop := turnRunsRow.holds Tryd.pinned (OpenSpec.ofChange turnRunsSpec)

/-- ITS FALSE NEIGHBOUR: 'it returns false'. Refute it at one input. -/
def turnRunsWrong : ChangeSpec := { name := "turnRuns", fn := fun _ => fun
  | [d1, d2] => { results := [.lit (.bool false)], args := [d1, d2] }
  | _ => none }
def TurnRunsWrongFalsely : Prop := turnRunsRow.holds Tryd.pinned (OpenSpec.ofChange turnRunsWrong)

/-- 'plaitlaw10.TurnLoads': WHATEVER THE INPUT: true; the input reads as it did. -/
def turnLoadsSpec : ChangeSpec := { name := "turnLoads", fn := fun _ => fun
  | [d1, d2, d3] => { results := [.lit (.bool true)], args := [d1, d2, d3] }
  | _ => none }
def turnLoadsRow : OpenClaim := { program := "ytjmkejkhpdhhbaadoor", sum := "edc4c97fe47b8a6127e084b1cdbf719b1a841055dc22892cc891dc6788a44211", func := "plait/plaitlaw10.TurnLoads", spec := "turnLoads", inPlace := ["internal/reflectlite.ValueOf", "(internal/reflectlite.Value).Type", "(internal/reflectlite.Value).IsNil", "internal/reflectlite.TypeOf", "(internal/reflectlite.Value).Elem", "(internal/reflectlite.Value).Set"], unfollowed := true, recurses := true, named := ["errors.errorType"], apart := false, laid := [("errors.errorType", laid_errors_errorType)] }
def TurnLoadsSaid : Prop := turnLoadsRow.holds Tryd.pinned (OpenSpec.ofChange turnLoadsSpec)

/-- ITS FALSE NEIGHBOUR: 'it returns false'. Refute it at one input. -/
def turnLoadsWrong : ChangeSpec := { name := "turnLoads", fn := fun _ => fun
  | [d1, d2, d3] => { results := [.lit (.bool false)], args := [d1, d2, d3] }
  | _ => none }
def TurnLoadsWrongFalsely : Prop := turnLoadsRow.holds Tryd.pinned (OpenSpec.ofChange turnLoadsWrong)

/-- 'plaitlaw11.FaceWalks': WHATEVER THE INPUT: true; the input reads as it did. -/
def faceWalksSpec : ChangeSpec := { name := "faceWalks", fn := fun _ => fun
  | [d1, d2, d3] => { results := [.lit (.bool true)], args := [d1, d2, d3] }
  | _ => none }
def faceWalksRow : OpenClaim := { program := "ytjmkejkhpdhhbaadoor", sum := "edc4c97fe47b8a6127e084b1cdbf719b1a841055dc22892cc891dc6788a44211", func := "plait/plaitlaw11.FaceWalks", spec := "faceWalks", inPlace := ["internal/reflectlite.ValueOf", "(internal/reflectlite.Value).Type", "(internal/reflectlite.Value).IsNil", "internal/reflectlite.TypeOf", "(internal/reflectlite.Value).Elem", "(internal/reflectlite.Value).Set"], unfollowed := true, recurses := true, named := ["errors.errorType"], apart := false, laid := [("errors.errorType", laid_errors_errorType)] }
def FaceWalksSaid : Prop := faceWalksRow.holds Tryd.pinned (OpenSpec.ofChange faceWalksSpec)

/-- ITS FALSE NEIGHBOUR: 'it returns false'. Refute it at one input. -/
def faceWalksWrong : ChangeSpec := { name := "faceWalks", fn := fun _ => fun
  | [d1, d2, d3] => { results := [.lit (.bool false)], args := [d1, d2, d3] }
  | _ => none }
def FaceWalksWrongFalsely : Prop := faceWalksRow.holds Tryd.pinned (OpenSpec.ofChange faceWalksWrong)

/-- 'plaitlaw11.FaceOnce': WHATEVER THE INPUT: true; the input reads as it did. -/
def faceOnceSpec : ChangeSpec := { name := "faceOnce", fn := fun _ => fun
  | [d1, d2] => { results := [.lit (.bool true)], args := [d1, d2] }
  | _ => none }
def faceOnceRow : OpenClaim := { program := "ytjmkejkhpdhhbaadoor", sum := "edc4c97fe47b8a6127e084b1cdbf719b1a841055dc22892cc891dc6788a44211", func := "plait/plaitlaw11.FaceOnce", spec := "faceOnce", inPlace := ["internal/reflectlite.ValueOf", "(internal/reflectlite.Value).Type", "(internal/reflectlite.Value).IsNil", "internal/reflectlite.TypeOf", "(internal/reflectlite.Value).Elem", "(internal/reflectlite.Value).Set"], unfollowed := true, recurses := true, named := ["errors.errorType"], apart := false, laid := [("errors.errorType", laid_errors_errorType)] }
def FaceOnceSaid : Prop := faceOnceRow.holds Tryd.pinned (OpenSpec.ofChange faceOnceSpec)

/-- ITS FALSE NEIGHBOUR: 'it returns false'. Refute it at one input. -/
def faceOnceWrong : ChangeSpec := { name := "faceOnce", fn := fun _ => fun
  | [d1, d2] => { results := [.lit (.bool false)], args := [d1, d2] }
  | _ => none }
def FaceOnceWrongFalsely : Prop := faceOnceRow.holds Tryd.pinned (OpenSpec.ofChange faceOnceWrong)

/-- 'plaitlaw11.FaceNexts': WHATEVER THE INPUT: true; the input reads as it did. -/
def faceNextsSpec : ChangeSpec := { name := "faceNexts", fn := fun _ => fun
  | [d1, d2] => { results := [.lit (.bool true)], args := [d1, d2] }
  | _ => none }
def faceNextsRow : OpenClaim := { program := "ytjmkejkhpdhhbaadoor", sum := "edc4c97fe47b8a6127e084b1cdbf719b1a841055dc22892cc891dc6788a44211", func := "plait/plaitlaw11.FaceNexts", spec := "faceNexts", inPlace := ["internal/reflectlite.ValueOf", "(internal/reflectlite.Value).Type", "(internal/reflectlite.Value).IsNil", "internal/reflectlite.TypeOf", "(internal/reflectlite.Value).Elem", "(internal/reflectlite.Value).Set"], unfollowed := true, recurses := true, named := ["errors.errorType"], apart := false, laid := [("errors.errorType", laid_errors_errorType)] }
def FaceNextsSaid : Prop := faceNextsRow.holds Tryd.pinned (OpenSpec.ofChange faceNextsSpec)

/-- ITS FALSE NEIGHBOUR: 'it returns false'. Refute it at one input. -/
def faceNextsWrong : ChangeSpec := { name := "faceNexts", fn := fun _ => fun
  | [d1, d2] => { results := [.lit (.bool false)], args := [d1, d2] }
  | _ => none }
def FaceNextsWrongFalsely : Prop := faceNextsRow.holds Tryd.pinned (OpenSpec.ofChange faceNextsWrong)

/-- 'plaitlaw10.TurnCopies': WHATEVER THE INPUT: true; the input reads as it did. -/
def turnCopiesSpec : ChangeSpec := { name := "turnCopies", fn := fun _ => fun
  | [d1, d2] => { results := [.lit (.bool true)], args := [d1, d2] }
  | _ => none }
def turnCopiesRow : OpenClaim := { program := "ytjmkejkhpdhhbaadoor", sum := "edc4c97fe47b8a6127e084b1cdbf719b1a841055dc22892cc891dc6788a44211", func := "plait/plaitlaw10.TurnCopies", spec := "turnCopies", inPlace := ["internal/reflectlite.ValueOf", "(internal/reflectlite.Value).Type", "(internal/reflectlite.Value).IsNil", "internal/reflectlite.TypeOf", "(internal/reflectlite.Value).Elem", "(internal/reflectlite.Value).Set"], unfollowed := true, recurses := true, named := ["errors.errorType"], apart := false, laid := [("errors.errorType", laid_errors_errorType)] }
def TurnCopiesSaid : Prop := turnCopiesRow.holds Tryd.pinned (OpenSpec.ofChange turnCopiesSpec)

/-- ITS FALSE NEIGHBOUR: 'it returns false'. Refute it at one input. -/
def turnCopiesWrong : ChangeSpec := { name := "turnCopies", fn := fun _ => fun
  | [d1, d2] => { results := [.lit (.bool false)], args := [d1, d2] }
  | _ => none }
def TurnCopiesWrongFalsely : Prop := turnCopiesRow.holds Tryd.pinned (OpenSpec.ofChange turnCopiesWrong)

/-- 'plaitlaw11.FaceAts': WHATEVER THE INPUT: true; the input reads as it did. -/
def faceAtsSpec : ChangeSpec := { name := "faceAts", fn := fun _ => fun
  | [d1, d2, d3] => { results := [.lit (.bool true)], args := [d1, d2, d3] }
  | _ => none }
def faceAtsRow : OpenClaim := { program := "ytjmkejkhpdhhbaadoor", sum := "edc4c97fe47b8a6127e084b1cdbf719b1a841055dc22892cc891dc6788a44211", func := "plait/plaitlaw11.FaceAts", spec := "faceAts", inPlace := ["internal/reflectlite.ValueOf", "(internal/reflectlite.Value).Type", "(internal/reflectlite.Value).IsNil", "internal/reflectlite.TypeOf", "(internal/reflectlite.Value).Elem", "(internal/reflectlite.Value).Set"], unfollowed := true, recurses := true, named := ["errors.errorType"], apart := false, laid := [("errors.errorType", laid_errors_errorType)] }
def FaceAtsSaid : Prop := faceAtsRow.holds Tryd.pinned (OpenSpec.ofChange faceAtsSpec)

/-- ITS FALSE NEIGHBOUR: 'it returns false'. Refute it at one input. -/
def faceAtsWrong : ChangeSpec := { name := "faceAts", fn := fun _ => fun
  | [d1, d2, d3] => { results := [.lit (.bool false)], args := [d1, d2, d3] }
  | _ => none }
def FaceAtsWrongFalsely : Prop := faceAtsRow.holds Tryd.pinned (OpenSpec.ofChange faceAtsWrong)

/-- 'plaitlaw11.FaceCorners': WHATEVER THE INPUT: true; the input reads as it did. -/
def faceCornersSpec : ChangeSpec := { name := "faceCorners", fn := fun _ => fun
  | [d1, d2, d3] => { results := [.lit (.bool true)], args := [d1, d2, d3] }
  | _ => none }
def faceCornersRow : OpenClaim := { program := "ytjmkejkhpdhhbaadoor", sum := "edc4c97fe47b8a6127e084b1cdbf719b1a841055dc22892cc891dc6788a44211", func := "plait/plaitlaw11.FaceCorners", spec := "faceCorners", inPlace := ["internal/reflectlite.ValueOf", "(internal/reflectlite.Value).Type", "(internal/reflectlite.Value).IsNil", "internal/reflectlite.TypeOf", "(internal/reflectlite.Value).Elem", "(internal/reflectlite.Value).Set"], unfollowed := true, recurses := true, named := ["errors.errorType"], apart := false, laid := [("errors.errorType", laid_errors_errorType)] }
def FaceCornersSaid : Prop := faceCornersRow.holds Tryd.pinned (OpenSpec.ofChange faceCornersSpec)

/-- ITS FALSE NEIGHBOUR: 'it returns false'. Refute it at one input. -/
def faceCornersWrong : ChangeSpec := { name := "faceCorners", fn := fun _ => fun
  | [d1, d2, d3] => { results := [.lit (.bool false)], args := [d1, d2, d3] }
  | _ => none }
def FaceCornersWrongFalsely : Prop := faceCornersRow.holds Tryd.pinned (OpenSpec.ofChange faceCornersWrong)

/-- 'plaitlaw11.FaceSplits': WHATEVER THE INPUT: true; the input reads as it did. -/
def faceSplitsSpec : ChangeSpec := { name := "faceSplits", fn := fun _ => fun
  | [d1, d2, d3] => { results := [.lit (.bool true)], args := [d1, d2, d3] }
  | _ => none }
def faceSplitsRow : OpenClaim := { program := "ytjmkejkhpdhhbaadoor", sum := "edc4c97fe47b8a6127e084b1cdbf719b1a841055dc22892cc891dc6788a44211", func := "plait/plaitlaw11.FaceSplits", spec := "faceSplits", inPlace := ["internal/reflectlite.ValueOf", "(internal/reflectlite.Value).Type", "(internal/reflectlite.Value).IsNil", "internal/reflectlite.TypeOf", "(internal/reflectlite.Value).Elem", "(internal/reflectlite.Value).Set"], unfollowed := true, recurses := true, named := ["errors.errorType"], apart := false, laid := [("errors.errorType", laid_errors_errorType)] }
def FaceSplitsSaid : Prop := faceSplitsRow.holds Tryd.pinned (OpenSpec.ofChange faceSplitsSpec)

/-- ITS FALSE NEIGHBOUR: 'it returns false'. Refute it at one input. -/
def faceSplitsWrong : ChangeSpec := { name := "faceSplits", fn := fun _ => fun
  | [d1, d2, d3] => { results := [.lit (.bool false)], args := [d1, d2, d3] }
  | _ => none }
def FaceSplitsWrongFalsely : Prop := faceSplitsRow.holds Tryd.pinned (OpenSpec.ofChange faceSplitsWrong)

/- THE SECOND FORM. 'bulk': how many values and letters a reading holds, each counted each time it is reached (what is shared counts as often as it is met; a slice's spare places count too). A statement '..UptoSaid' is the law's where the arguments, and the package variables that the reading takes, are together of bulk at most 1048576: NARROWER than '..Said'. Prove '..Said' where nothing that the law and all that it calls make is longer than what came in: it says more and counts as full. Else prove '..UptoSaid'. A law counts once. -/
mutual
def uptoBulk {H : Type} : DataW H → Nat
  | .lit (.string bytes) => bytes.length + 1
  | .lit _ => 1
  | .nil => 1
  | .ptr d => uptoBulk d + 1
  | .slice elems spare => uptoBulkAll elems + uptoBulkAll spare + 1
  | .agg parts => uptoBulkAll parts + 1
  | .iface _ d => uptoBulk d + 1
  | .map entries => uptoBulkEntries entries + 1
  | .held _ => 1
def uptoBulkAll {H : Type} : List (DataW H) → Nat
  | [] => 0
  | d :: r => uptoBulk d + uptoBulkAll r
def uptoBulkEntries {H : Type} : List (Lit × DataW H) → Nat
  | [] => 0
  | x :: r => uptoBulkEntry x + uptoBulkEntries r
def uptoBulkEntry {H : Type} : Lit × DataW H → Nat
  | (.string bytes, d) => bytes.length + uptoBulk d + 1
  | (_, d) => uptoBulk d + 1
 end
def uptoSmall : (H : Type) → List (DataW H) → Bool := fun _ ds => decide (uptoBulkAll ds ≤ 1048576)
def OpenSpec.upto (s : _root_.Go.ChangeSpec) : _root_.Go.OpenSpec := { _root_.Go.OpenSpec.ofChange s with cond := some uptoSmall }

/-- 'plaitlaw10.TurnChecks', WHERE WHAT IT READS IS OF BULK AT MOST 1048576: true; the input reads as it did. -/
def turnChecksUptoRow : OpenClaim := { program := "ytjmkejkhpdhhbaadoor", sum := "edc4c97fe47b8a6127e084b1cdbf719b1a841055dc22892cc891dc6788a44211", func := "plait/plaitlaw10.TurnChecks", spec := "turnChecks", inPlace := ["internal/reflectlite.ValueOf", "(internal/reflectlite.Value).Type", "(internal/reflectlite.Value).IsNil", "internal/reflectlite.TypeOf", "(internal/reflectlite.Value).Elem", "(internal/reflectlite.Value).Set"], unfollowed := true, recurses := true, named := ["errors.errorType"], apart := false, laid := [("errors.errorType", laid_errors_errorType)], narrowed := true }
def TurnChecksUptoSaid : Prop := turnChecksUptoRow.holds Tryd.pinned (OpenSpec.upto turnChecksSpec)

/-- 'plaitlaw10.TurnSums', WHERE WHAT IT READS IS OF BULK AT MOST 1048576: true; the input reads as it did. -/
def turnSumsUptoRow : OpenClaim := { program := "ytjmkejkhpdhhbaadoor", sum := "edc4c97fe47b8a6127e084b1cdbf719b1a841055dc22892cc891dc6788a44211", func := "plait/plaitlaw10.TurnSums", spec := "turnSums", inPlace := ["internal/reflectlite.ValueOf", "(internal/reflectlite.Value).Type", "(internal/reflectlite.Value).IsNil", "internal/reflectlite.TypeOf", "(internal/reflectlite.Value).Elem", "(internal/reflectlite.Value).Set"], unfollowed := true, recurses := true, named := ["errors.errorType"], apart := false, laid := [("errors.errorType", laid_errors_errorType)], narrowed := true }
def TurnSumsUptoSaid : Prop := turnSumsUptoRow.holds Tryd.pinned (OpenSpec.upto turnSumsSpec)

/-- 'plaitlaw10.TurnBack', WHERE WHAT IT READS IS OF BULK AT MOST 1048576: true; the input reads as it did. -/
def turnBackUptoRow : OpenClaim := { program := "ytjmkejkhpdhhbaadoor", sum := "edc4c97fe47b8a6127e084b1cdbf719b1a841055dc22892cc891dc6788a44211", func := "plait/plaitlaw10.TurnBack", spec := "turnBack", inPlace := ["internal/reflectlite.ValueOf", "(internal/reflectlite.Value).Type", "(internal/reflectlite.Value).IsNil", "internal/reflectlite.TypeOf", "(internal/reflectlite.Value).Elem", "(internal/reflectlite.Value).Set"], unfollowed := true, recurses := true, named := ["errors.errorType"], apart := false, laid := [("errors.errorType", laid_errors_errorType)], narrowed := true }
def TurnBackUptoSaid : Prop := turnBackUptoRow.holds Tryd.pinned (OpenSpec.upto turnBackSpec)

/-- 'plaitlaw10.TurnNew', WHERE WHAT IT READS IS OF BULK AT MOST 1048576: true; the input reads as it did. -/
def turnNewUptoRow : OpenClaim := { program := "ytjmkejkhpdhhbaadoor", sum := "edc4c97fe47b8a6127e084b1cdbf719b1a841055dc22892cc891dc6788a44211", func := "plait/plaitlaw10.TurnNew", spec := "turnNew", inPlace := ["internal/reflectlite.ValueOf", "(internal/reflectlite.Value).Type", "(internal/reflectlite.Value).IsNil", "internal/reflectlite.TypeOf", "(internal/reflectlite.Value).Elem", "(internal/reflectlite.Value).Set"], unfollowed := true, recurses := true, named := ["errors.errorType"], apart := false, laid := [("errors.errorType", laid_errors_errorType)], narrowed := true }
def TurnNewUptoSaid : Prop := turnNewUptoRow.holds Tryd.pinned (OpenSpec.upto turnNewSpec)

/-- 'plaitlaw10.TurnRuns', WHERE WHAT IT READS IS OF BULK AT MOST 1048576: true; the input reads as it did. -/
def turnRunsUptoRow : OpenClaim := { program := "ytjmkejkhpdhhbaadoor", sum := "edc4c97fe47b8a6127e084b1cdbf719b1a841055dc22892cc891dc6788a44211", func := "plait/plaitlaw10.TurnRuns", spec := "turnRuns", inPlace := ["internal/reflectlite.ValueOf", "(internal/reflectlite.Value).Type", "(internal/reflectlite.Value).IsNil", "internal/reflectlite.TypeOf", "(internal/reflectlite.Value).Elem", "(internal/reflectlite.Value).Set"], unfollowed := true, recurses := true, named := ["errors.errorType"], apart := false, laid := [("errors.errorType", laid_errors_errorType)], narrowed := true }
def TurnRunsUptoSaid : Prop := turnRunsUptoRow.holds Tryd.pinned (OpenSpec.upto turnRunsSpec)

/-- 'plaitlaw10.TurnLoads', WHERE WHAT IT READS IS OF BULK AT MOST 1048576: true; the input reads as it did. -/
def turnLoadsUptoRow : OpenClaim := { program := "ytjmkejkhpdhhbaadoor", sum := "edc4c97fe47b8a6127e084b1cdbf719b1a841055dc22892cc891dc6788a44211", func := "plait/plaitlaw10.TurnLoads", spec := "turnLoads", inPlace := ["internal/reflectlite.ValueOf", "(internal/reflectlite.Value).Type", "(internal/reflectlite.Value).IsNil", "internal/reflectlite.TypeOf", "(internal/reflectlite.Value).Elem", "(internal/reflectlite.Value).Set"], unfollowed := true, recurses := true, named := ["errors.errorType"], apart := false, laid := [("errors.errorType", laid_errors_errorType)], narrowed := true }
def TurnLoadsUptoSaid : Prop := turnLoadsUptoRow.holds Tryd.pinned (OpenSpec.upto turnLoadsSpec)

/-- 'plaitlaw11.FaceWalks', WHERE WHAT IT READS IS OF BULK AT MOST 1048576: true; the input reads as it did. -/
def faceWalksUptoRow : OpenClaim := { program := "ytjmkejkhpdhhbaadoor", sum := "edc4c97fe47b8a6127e084b1cdbf719b1a841055dc22892cc891dc6788a44211", func := "plait/plaitlaw11.FaceWalks", spec := "faceWalks", inPlace := ["internal/reflectlite.ValueOf", "(internal/reflectlite.Value).Type", "(internal/reflectlite.Value).IsNil", "internal/reflectlite.TypeOf", "(internal/reflectlite.Value).Elem", "(internal/reflectlite.Value).Set"], unfollowed := true, recurses := true, named := ["errors.errorType"], apart := false, laid := [("errors.errorType", laid_errors_errorType)], narrowed := true }
def FaceWalksUptoSaid : Prop := faceWalksUptoRow.holds Tryd.pinned (OpenSpec.upto faceWalksSpec)

/-- 'plaitlaw11.FaceOnce', WHERE WHAT IT READS IS OF BULK AT MOST 1048576: true; the input reads as it did. -/
def faceOnceUptoRow : OpenClaim := { program := "ytjmkejkhpdhhbaadoor", sum := "edc4c97fe47b8a6127e084b1cdbf719b1a841055dc22892cc891dc6788a44211", func := "plait/plaitlaw11.FaceOnce", spec := "faceOnce", inPlace := ["internal/reflectlite.ValueOf", "(internal/reflectlite.Value).Type", "(internal/reflectlite.Value).IsNil", "internal/reflectlite.TypeOf", "(internal/reflectlite.Value).Elem", "(internal/reflectlite.Value).Set"], unfollowed := true, recurses := true, named := ["errors.errorType"], apart := false, laid := [("errors.errorType", laid_errors_errorType)], narrowed := true }
def FaceOnceUptoSaid : Prop := faceOnceUptoRow.holds Tryd.pinned (OpenSpec.upto faceOnceSpec)

/-- 'plaitlaw11.FaceNexts', WHERE WHAT IT READS IS OF BULK AT MOST 1048576: true; the input reads as it did. -/
def faceNextsUptoRow : OpenClaim := { program := "ytjmkejkhpdhhbaadoor", sum := "edc4c97fe47b8a6127e084b1cdbf719b1a841055dc22892cc891dc6788a44211", func := "plait/plaitlaw11.FaceNexts", spec := "faceNexts", inPlace := ["internal/reflectlite.ValueOf", "(internal/reflectlite.Value).Type", "(internal/reflectlite.Value).IsNil", "internal/reflectlite.TypeOf", "(internal/reflectlite.Value).Elem", "(internal/reflectlite.Value).Set"], unfollowed := true, recurses := true, named := ["errors.errorType"], apart := false, laid := [("errors.errorType", laid_errors_errorType)], narrowed := true }
def FaceNextsUptoSaid : Prop := faceNextsUptoRow.holds Tryd.pinned (OpenSpec.upto faceNextsSpec)

/-- 'plaitlaw10.TurnCopies', WHERE WHAT IT READS IS OF BULK AT MOST 1048576: true; the input reads as it did. -/
def turnCopiesUptoRow : OpenClaim := { program := "ytjmkejkhpdhhbaadoor", sum := "edc4c97fe47b8a6127e084b1cdbf719b1a841055dc22892cc891dc6788a44211", func := "plait/plaitlaw10.TurnCopies", spec := "turnCopies", inPlace := ["internal/reflectlite.ValueOf", "(internal/reflectlite.Value).Type", "(internal/reflectlite.Value).IsNil", "internal/reflectlite.TypeOf", "(internal/reflectlite.Value).Elem", "(internal/reflectlite.Value).Set"], unfollowed := true, recurses := true, named := ["errors.errorType"], apart := false, laid := [("errors.errorType", laid_errors_errorType)], narrowed := true }
def TurnCopiesUptoSaid : Prop := turnCopiesUptoRow.holds Tryd.pinned (OpenSpec.upto turnCopiesSpec)

/-- 'plaitlaw11.FaceAts', WHERE WHAT IT READS IS OF BULK AT MOST 1048576: true; the input reads as it did. -/
def faceAtsUptoRow : OpenClaim := { program := "ytjmkejkhpdhhbaadoor", sum := "edc4c97fe47b8a6127e084b1cdbf719b1a841055dc22892cc891dc6788a44211", func := "plait/plaitlaw11.FaceAts", spec := "faceAts", inPlace := ["internal/reflectlite.ValueOf", "(internal/reflectlite.Value).Type", "(internal/reflectlite.Value).IsNil", "internal/reflectlite.TypeOf", "(internal/reflectlite.Value).Elem", "(internal/reflectlite.Value).Set"], unfollowed := true, recurses := true, named := ["errors.errorType"], apart := false, laid := [("errors.errorType", laid_errors_errorType)], narrowed := true }
def FaceAtsUptoSaid : Prop := faceAtsUptoRow.holds Tryd.pinned (OpenSpec.upto faceAtsSpec)

/-- 'plaitlaw11.FaceCorners', WHERE WHAT IT READS IS OF BULK AT MOST 1048576: true; the input reads as it did. -/
def faceCornersUptoRow : OpenClaim := { program := "ytjmkejkhpdhhbaadoor", sum := "edc4c97fe47b8a6127e084b1cdbf719b1a841055dc22892cc891dc6788a44211", func := "plait/plaitlaw11.FaceCorners", spec := "faceCorners", inPlace := ["internal/reflectlite.ValueOf", "(internal/reflectlite.Value).Type", "(internal/reflectlite.Value).IsNil", "internal/reflectlite.TypeOf", "(internal/reflectlite.Value).Elem", "(internal/reflectlite.Value).Set"], unfollowed := true, recurses := true, named := ["errors.errorType"], apart := false, laid := [("errors.errorType", laid_errors_errorType)], narrowed := true }
def FaceCornersUptoSaid : Prop := faceCornersUptoRow.holds Tryd.pinned (OpenSpec.upto faceCornersSpec)

/-- 'plaitlaw11.FaceSplits', WHERE WHAT IT READS IS OF BULK AT MOST 1048576: true; the input reads as it did. -/
def faceSplitsUptoRow : OpenClaim := { program := "ytjmkejkhpdhhbaadoor", sum := "edc4c97fe47b8a6127e084b1cdbf719b1a841055dc22892cc891dc6788a44211", func := "plait/plaitlaw11.FaceSplits", spec := "faceSplits", inPlace := ["internal/reflectlite.ValueOf", "(internal/reflectlite.Value).Type", "(internal/reflectlite.Value).IsNil", "internal/reflectlite.TypeOf", "(internal/reflectlite.Value).Elem", "(internal/reflectlite.Value).Set"], unfollowed := true, recurses := true, named := ["errors.errorType"], apart := false, laid := [("errors.errorType", laid_errors_errorType)], narrowed := true }
def FaceSplitsUptoSaid : Prop := faceSplitsUptoRow.holds Tryd.pinned (OpenSpec.upto faceSplitsSpec)

end Rows
end Go.Proofs.YtjmkejkhpdhhbaaDoor
