/-
  NARROWER THAN 'FOR EVERY INPUT', by the rows' own cells (each row's printed sentence says how): SlotsNexts: laid · SlotsOrder: laid · ArenaAges: laid · SlotsLowest: laid · SlotsFull: laid · SlotsBack: laid · SlotsRuns: laid · SlotsNew: laid · ArenaNew: laid · ArenaOnce: laid · ArenaWorn: laid · ArenaRuns: laid · ArenaLoads: laid · ArenaBack: laid · ArenaFinds: laid.
  DERIVED. THE GIVEN ROWS OF THIS SEAT. 15 by the template 'for every input the law returns true; each argument reads behind the call as it read before'; 0 by the template 'total and deterministic' (their statements: YtiphdlhnoceeiaaDoorTotals.lean).
  GIVEN WITH THE SEED: the statements are not yours to turn. If you find one false, say at which input.
  Laid BY PROGRAM, IN A SANDBOX (cutbox-rows.mjs): the forced cells as the released guide's own fill.sh prints them over the translation b3983a1393292b03… (all of the seat's roots in one cut). By AI agents, Wed Nov 11 2026. No macro, syntax, notation, axiom, sorry.
-/
import Derived.Test.YtiphdlhnoceeiaaDoorChecked
import GoSem.Claim
import GoSem.ClaimJoined
import GoSem.ClaimMapViews
import Derived.JoinedTies
import Derived.KernelRfl
namespace Go.Proofs.YtiphdlhnoceeiaaDoor
/- THE CELL 'sum', in the pinned program and in every row, IS THE sha256 OF THE DUMP (.gsa) THAT YtiphdlhnoceeiaaDoorProg.lean LOADS. Nothing in Lean hashes anything: it is a label: what it is worth is what the hold of that sum in a sandbox is worth. -/
noncomputable def Tryd.pinned : Pinned := { name := "ytiphdlhnoceeiaadoor", sum := "b3983a1393292b038d21680ffcf5292045644cb4f73a263107dbe1fde5a7def1", checked := Tryd.checked }
namespace Rows
def none {H : Type} : Left H := { results := [], args := [] }

/- WHAT THE LISTED PACKAGE-LEVEL VARIABLES READ AS WHEN THE CALL BEGINS. Each datum BY PROGRAM (the guide's laid-datum.mjs) off the statement by which the dump's own 'gosem.cut.vars' lays the variable. In a bare row this is a premise. The card (YtiphdlhnoceeiaaDoorCards.lean) ties it to the program's text. -/
def laid_math_bits_deBruijn64tab {H : Type} : DataW H := .agg [.lit (.int .u8 0), .lit (.int .u8 1), .lit (.int .u8 56), .lit (.int .u8 2), .lit (.int .u8 57), .lit (.int .u8 49), .lit (.int .u8 28), .lit (.int .u8 3), .lit (.int .u8 61), .lit (.int .u8 58), .lit (.int .u8 42), .lit (.int .u8 50), .lit (.int .u8 38), .lit (.int .u8 29), .lit (.int .u8 17), .lit (.int .u8 4), .lit (.int .u8 62), .lit (.int .u8 47), .lit (.int .u8 59), .lit (.int .u8 36), .lit (.int .u8 45), .lit (.int .u8 43), .lit (.int .u8 51), .lit (.int .u8 22), .lit (.int .u8 53), .lit (.int .u8 39), .lit (.int .u8 33), .lit (.int .u8 30), .lit (.int .u8 24), .lit (.int .u8 18), .lit (.int .u8 12), .lit (.int .u8 5), .lit (.int .u8 63), .lit (.int .u8 55), .lit (.int .u8 48), .lit (.int .u8 27), .lit (.int .u8 60), .lit (.int .u8 41), .lit (.int .u8 37), .lit (.int .u8 16), .lit (.int .u8 46), .lit (.int .u8 35), .lit (.int .u8 44), .lit (.int .u8 21), .lit (.int .u8 52), .lit (.int .u8 32), .lit (.int .u8 23), .lit (.int .u8 11), .lit (.int .u8 54), .lit (.int .u8 26), .lit (.int .u8 40), .lit (.int .u8 15), .lit (.int .u8 34), .lit (.int .u8 20), .lit (.int .u8 31), .lit (.int .u8 10), .lit (.int .u8 25), .lit (.int .u8 14), .lit (.int .u8 19), .lit (.int .u8 9), .lit (.int .u8 13), .lit (.int .u8 8), .lit (.int .u8 7), .lit (.int .u8 6)]
def laid_errors_errorType {H : Type} : DataW H := .iface "internal/reflectlite.rtype" (.agg [.ptr (.lit (.string [101, 114, 114, 111, 114]))])

/-- 'plaitlaw02.SlotsNexts': WHATEVER THE INPUT: true; the input reads as it did. -/
def slotsNextsSpec : ChangeSpec := { name := "slotsNexts", fn := fun _ => fun
  | [d1, d2, d3] => { results := [.lit (.bool true)], args := [d1, d2, d3] }
  | _ => none }
def slotsNextsRow : OpenClaim := { program := "ytiphdlhnoceeiaadoor", sum := "b3983a1393292b038d21680ffcf5292045644cb4f73a263107dbe1fde5a7def1", func := "plait/plaitlaw02.SlotsNexts", spec := "slotsNexts", inPlace := ["sync/atomic.AddInt64", "sync/atomic.LoadInt64"], named := ["math/bits.deBruijn64tab"], apart := false, laid := [("math/bits.deBruijn64tab", laid_math_bits_deBruijn64tab)] }
def SlotsNextsSaid : Prop := slotsNextsRow.holds Tryd.pinned (OpenSpec.ofChange slotsNextsSpec)

/-- ITS FALSE NEIGHBOUR: 'it returns false'. Refute it at one input. -/
def slotsNextsWrong : ChangeSpec := { name := "slotsNexts", fn := fun _ => fun
  | [d1, d2, d3] => { results := [.lit (.bool false)], args := [d1, d2, d3] }
  | _ => none }
def SlotsNextsWrongFalsely : Prop := slotsNextsRow.holds Tryd.pinned (OpenSpec.ofChange slotsNextsWrong)

/-- 'plaitlaw02.SlotsOrder': WHATEVER THE INPUT: true; the input reads as it did. -/
def slotsOrderSpec : ChangeSpec := { name := "slotsOrder", fn := fun _ => fun
  | [d1, d2] => { results := [.lit (.bool true)], args := [d1, d2] }
  | _ => none }
def slotsOrderRow : OpenClaim := { program := "ytiphdlhnoceeiaadoor", sum := "b3983a1393292b038d21680ffcf5292045644cb4f73a263107dbe1fde5a7def1", func := "plait/plaitlaw02.SlotsOrder", spec := "slotsOrder", inPlace := ["sync/atomic.AddInt64", "sync/atomic.LoadInt64"], named := ["math/bits.deBruijn64tab"], apart := false, laid := [("math/bits.deBruijn64tab", laid_math_bits_deBruijn64tab)] }
def SlotsOrderSaid : Prop := slotsOrderRow.holds Tryd.pinned (OpenSpec.ofChange slotsOrderSpec)

/-- ITS FALSE NEIGHBOUR: 'it returns false'. Refute it at one input. -/
def slotsOrderWrong : ChangeSpec := { name := "slotsOrder", fn := fun _ => fun
  | [d1, d2] => { results := [.lit (.bool false)], args := [d1, d2] }
  | _ => none }
def SlotsOrderWrongFalsely : Prop := slotsOrderRow.holds Tryd.pinned (OpenSpec.ofChange slotsOrderWrong)

/-- 'plaitlaw03.ArenaAges': WHATEVER THE INPUT: true; the input reads as it did. -/
def arenaAgesSpec : ChangeSpec := { name := "arenaAges", fn := fun _ => fun
  | [d1, d2] => { results := [.lit (.bool true)], args := [d1, d2] }
  | _ => none }
def arenaAgesRow : OpenClaim := { program := "ytiphdlhnoceeiaadoor", sum := "b3983a1393292b038d21680ffcf5292045644cb4f73a263107dbe1fde5a7def1", func := "plait/plaitlaw03.ArenaAges", spec := "arenaAges", inPlace := ["sync/atomic.LoadInt64", "sync/atomic.AddInt64"], named := ["math/bits.deBruijn64tab"], apart := false, laid := [("math/bits.deBruijn64tab", laid_math_bits_deBruijn64tab)] }
def ArenaAgesSaid : Prop := arenaAgesRow.holds Tryd.pinned (OpenSpec.ofChange arenaAgesSpec)

/-- ITS FALSE NEIGHBOUR: 'it returns false'. Refute it at one input. -/
def arenaAgesWrong : ChangeSpec := { name := "arenaAges", fn := fun _ => fun
  | [d1, d2] => { results := [.lit (.bool false)], args := [d1, d2] }
  | _ => none }
def ArenaAgesWrongFalsely : Prop := arenaAgesRow.holds Tryd.pinned (OpenSpec.ofChange arenaAgesWrong)

/-- 'plaitlaw02.SlotsLowest': WHATEVER THE INPUT: true; the input reads as it did. -/
def slotsLowestSpec : ChangeSpec := { name := "slotsLowest", fn := fun _ => fun
  | [d1, d2] => { results := [.lit (.bool true)], args := [d1, d2] }
  | _ => none }
def slotsLowestRow : OpenClaim := { program := "ytiphdlhnoceeiaadoor", sum := "b3983a1393292b038d21680ffcf5292045644cb4f73a263107dbe1fde5a7def1", func := "plait/plaitlaw02.SlotsLowest", spec := "slotsLowest", inPlace := ["sync/atomic.LoadInt64", "sync/atomic.AddInt64", "internal/reflectlite.ValueOf", "(internal/reflectlite.Value).Type", "(internal/reflectlite.Value).IsNil", "internal/reflectlite.TypeOf", "(internal/reflectlite.Value).Elem", "(internal/reflectlite.Value).Set"], unfollowed := true, recurses := true, named := ["math/bits.deBruijn64tab", "errors.errorType"], apart := false, laid := [("math/bits.deBruijn64tab", laid_math_bits_deBruijn64tab), ("errors.errorType", laid_errors_errorType)] }
def SlotsLowestSaid : Prop := slotsLowestRow.holds Tryd.pinned (OpenSpec.ofChange slotsLowestSpec)

/-- ITS FALSE NEIGHBOUR: 'it returns false'. Refute it at one input. -/
def slotsLowestWrong : ChangeSpec := { name := "slotsLowest", fn := fun _ => fun
  | [d1, d2] => { results := [.lit (.bool false)], args := [d1, d2] }
  | _ => none }
def SlotsLowestWrongFalsely : Prop := slotsLowestRow.holds Tryd.pinned (OpenSpec.ofChange slotsLowestWrong)

/-- 'plaitlaw02.SlotsFull': WHATEVER THE INPUT: true; the input reads as it did. -/
def slotsFullSpec : ChangeSpec := { name := "slotsFull", fn := fun _ => fun
  | [d] => { results := [.lit (.bool true)], args := [d] }
  | _ => none }
def slotsFullRow : OpenClaim := { program := "ytiphdlhnoceeiaadoor", sum := "b3983a1393292b038d21680ffcf5292045644cb4f73a263107dbe1fde5a7def1", func := "plait/plaitlaw02.SlotsFull", spec := "slotsFull", inPlace := ["sync/atomic.LoadInt64", "sync/atomic.AddInt64", "internal/reflectlite.ValueOf", "(internal/reflectlite.Value).Type", "(internal/reflectlite.Value).IsNil", "internal/reflectlite.TypeOf", "(internal/reflectlite.Value).Elem", "(internal/reflectlite.Value).Set"], unfollowed := true, recurses := true, named := ["math/bits.deBruijn64tab", "errors.errorType"], apart := false, laid := [("math/bits.deBruijn64tab", laid_math_bits_deBruijn64tab), ("errors.errorType", laid_errors_errorType)] }
def SlotsFullSaid : Prop := slotsFullRow.holds Tryd.pinned (OpenSpec.ofChange slotsFullSpec)

/-- ITS FALSE NEIGHBOUR: 'it returns false'. Refute it at one input. -/
def slotsFullWrong : ChangeSpec := { name := "slotsFull", fn := fun _ => fun
  | [d] => { results := [.lit (.bool false)], args := [d] }
  | _ => none }
def SlotsFullWrongFalsely : Prop := slotsFullRow.holds Tryd.pinned (OpenSpec.ofChange slotsFullWrong)

/-- 'plaitlaw02.SlotsBack': WHATEVER THE INPUT: true; the input reads as it did. -/
def slotsBackSpec : ChangeSpec := { name := "slotsBack", fn := fun _ => fun
  | [d1, d2, d3] => { results := [.lit (.bool true)], args := [d1, d2, d3] }
  | _ => none }
def slotsBackRow : OpenClaim := { program := "ytiphdlhnoceeiaadoor", sum := "b3983a1393292b038d21680ffcf5292045644cb4f73a263107dbe1fde5a7def1", func := "plait/plaitlaw02.SlotsBack", spec := "slotsBack", inPlace := ["sync/atomic.AddInt64", "internal/reflectlite.ValueOf", "(internal/reflectlite.Value).Type", "(internal/reflectlite.Value).IsNil", "internal/reflectlite.TypeOf", "(internal/reflectlite.Value).Elem", "(internal/reflectlite.Value).Set", "sync/atomic.LoadInt64"], unfollowed := true, recurses := true, named := ["math/bits.deBruijn64tab", "errors.errorType"], apart := false, laid := [("math/bits.deBruijn64tab", laid_math_bits_deBruijn64tab), ("errors.errorType", laid_errors_errorType)] }
def SlotsBackSaid : Prop := slotsBackRow.holds Tryd.pinned (OpenSpec.ofChange slotsBackSpec)

/-- ITS FALSE NEIGHBOUR: 'it returns false'. Refute it at one input. -/
def slotsBackWrong : ChangeSpec := { name := "slotsBack", fn := fun _ => fun
  | [d1, d2, d3] => { results := [.lit (.bool false)], args := [d1, d2, d3] }
  | _ => none }
def SlotsBackWrongFalsely : Prop := slotsBackRow.holds Tryd.pinned (OpenSpec.ofChange slotsBackWrong)

/-- 'plaitlaw02.SlotsRuns': WHATEVER THE INPUT: true; the input reads as it did. -/
def slotsRunsSpec : ChangeSpec := { name := "slotsRuns", fn := fun _ => fun
  | [d1, d2] => { results := [.lit (.bool true)], args := [d1, d2] }
  | _ => none }
def slotsRunsRow : OpenClaim := { program := "ytiphdlhnoceeiaadoor", sum := "b3983a1393292b038d21680ffcf5292045644cb4f73a263107dbe1fde5a7def1", func := "plait/plaitlaw02.SlotsRuns", spec := "slotsRuns", inPlace := ["sync/atomic.LoadInt64", "sync/atomic.AddInt64", "internal/reflectlite.ValueOf", "(internal/reflectlite.Value).Type", "(internal/reflectlite.Value).IsNil", "internal/reflectlite.TypeOf", "(internal/reflectlite.Value).Elem", "(internal/reflectlite.Value).Set"], unfollowed := true, recurses := true, named := ["math/bits.deBruijn64tab", "errors.errorType"], apart := false, laid := [("math/bits.deBruijn64tab", laid_math_bits_deBruijn64tab), ("errors.errorType", laid_errors_errorType)] }
def SlotsRunsSaid : Prop := slotsRunsRow.holds Tryd.pinned (OpenSpec.ofChange slotsRunsSpec)

/-- ITS FALSE NEIGHBOUR: 'it returns false'. Refute it at one input. -/
def slotsRunsWrong : ChangeSpec := { name := "slotsRuns", fn := fun _ => fun
  | [d1, d2] => { results := [.lit (.bool false)], args := [d1, d2] }
  | _ => none }
def SlotsRunsWrongFalsely : Prop := slotsRunsRow.holds Tryd.pinned (OpenSpec.ofChange slotsRunsWrong)

/-- 'plaitlaw02.SlotsNew': WHATEVER THE INPUT: true; the input reads as it did. -/
def slotsNewSpec : ChangeSpec := { name := "slotsNew", fn := fun _ => fun
  | [d] => { results := [.lit (.bool true)], args := [d] }
  | _ => none }
def slotsNewRow : OpenClaim := { program := "ytiphdlhnoceeiaadoor", sum := "b3983a1393292b038d21680ffcf5292045644cb4f73a263107dbe1fde5a7def1", func := "plait/plaitlaw02.SlotsNew", spec := "slotsNew", inPlace := ["sync/atomic.LoadInt64", "sync/atomic.AddInt64", "internal/reflectlite.ValueOf", "(internal/reflectlite.Value).Type", "(internal/reflectlite.Value).IsNil", "internal/reflectlite.TypeOf", "(internal/reflectlite.Value).Elem", "(internal/reflectlite.Value).Set"], unfollowed := true, recurses := true, named := ["math/bits.deBruijn64tab", "errors.errorType"], apart := false, laid := [("math/bits.deBruijn64tab", laid_math_bits_deBruijn64tab), ("errors.errorType", laid_errors_errorType)] }
def SlotsNewSaid : Prop := slotsNewRow.holds Tryd.pinned (OpenSpec.ofChange slotsNewSpec)

/-- ITS FALSE NEIGHBOUR: 'it returns false'. Refute it at one input. -/
def slotsNewWrong : ChangeSpec := { name := "slotsNew", fn := fun _ => fun
  | [d] => { results := [.lit (.bool false)], args := [d] }
  | _ => none }
def SlotsNewWrongFalsely : Prop := slotsNewRow.holds Tryd.pinned (OpenSpec.ofChange slotsNewWrong)

/-- 'plaitlaw03.ArenaNew': WHATEVER THE INPUT: true; the input reads as it did. -/
def arenaNewSpec : ChangeSpec := { name := "arenaNew", fn := fun _ => fun
  | [d] => { results := [.lit (.bool true)], args := [d] }
  | _ => none }
def arenaNewRow : OpenClaim := { program := "ytiphdlhnoceeiaadoor", sum := "b3983a1393292b038d21680ffcf5292045644cb4f73a263107dbe1fde5a7def1", func := "plait/plaitlaw03.ArenaNew", spec := "arenaNew", inPlace := ["sync/atomic.LoadInt64", "sync/atomic.AddInt64", "internal/reflectlite.ValueOf", "(internal/reflectlite.Value).Type", "(internal/reflectlite.Value).IsNil", "internal/reflectlite.TypeOf", "(internal/reflectlite.Value).Elem", "(internal/reflectlite.Value).Set"], unfollowed := true, recurses := true, named := ["math/bits.deBruijn64tab", "errors.errorType"], apart := false, laid := [("math/bits.deBruijn64tab", laid_math_bits_deBruijn64tab), ("errors.errorType", laid_errors_errorType)] }
def ArenaNewSaid : Prop := arenaNewRow.holds Tryd.pinned (OpenSpec.ofChange arenaNewSpec)

/-- ITS FALSE NEIGHBOUR: 'it returns false'. Refute it at one input. -/
def arenaNewWrong : ChangeSpec := { name := "arenaNew", fn := fun _ => fun
  | [d] => { results := [.lit (.bool false)], args := [d] }
  | _ => none }
def ArenaNewWrongFalsely : Prop := arenaNewRow.holds Tryd.pinned (OpenSpec.ofChange arenaNewWrong)

/-- 'plaitlaw03.ArenaOnce': WHATEVER THE INPUT: true; the input reads as it did. -/
def arenaOnceSpec : ChangeSpec := { name := "arenaOnce", fn := fun _ => fun
  | [d1, d2, d3] => { results := [.lit (.bool true)], args := [d1, d2, d3] }
  | _ => none }
def arenaOnceRow : OpenClaim := { program := "ytiphdlhnoceeiaadoor", sum := "b3983a1393292b038d21680ffcf5292045644cb4f73a263107dbe1fde5a7def1", func := "plait/plaitlaw03.ArenaOnce", spec := "arenaOnce", inPlace := ["sync/atomic.AddInt64", "sync/atomic.LoadInt64", "internal/reflectlite.ValueOf", "(internal/reflectlite.Value).Type", "(internal/reflectlite.Value).IsNil", "internal/reflectlite.TypeOf", "(internal/reflectlite.Value).Elem", "(internal/reflectlite.Value).Set"], unfollowed := true, recurses := true, named := ["math/bits.deBruijn64tab", "errors.errorType"], apart := false, laid := [("math/bits.deBruijn64tab", laid_math_bits_deBruijn64tab), ("errors.errorType", laid_errors_errorType)] }
def ArenaOnceSaid : Prop := arenaOnceRow.holds Tryd.pinned (OpenSpec.ofChange arenaOnceSpec)

/-- ITS FALSE NEIGHBOUR: 'it returns false'. Refute it at one input. -/
def arenaOnceWrong : ChangeSpec := { name := "arenaOnce", fn := fun _ => fun
  | [d1, d2, d3] => { results := [.lit (.bool false)], args := [d1, d2, d3] }
  | _ => none }
def ArenaOnceWrongFalsely : Prop := arenaOnceRow.holds Tryd.pinned (OpenSpec.ofChange arenaOnceWrong)

/-- 'plaitlaw03.ArenaWorn': WHATEVER THE INPUT: true; the input reads as it did. -/
def arenaWornSpec : ChangeSpec := { name := "arenaWorn", fn := fun _ => fun
  | [d1, d2] => { results := [.lit (.bool true)], args := [d1, d2] }
  | _ => none }
def arenaWornRow : OpenClaim := { program := "ytiphdlhnoceeiaadoor", sum := "b3983a1393292b038d21680ffcf5292045644cb4f73a263107dbe1fde5a7def1", func := "plait/plaitlaw03.ArenaWorn", spec := "arenaWorn", inPlace := ["sync/atomic.AddInt64", "sync/atomic.LoadInt64", "internal/reflectlite.ValueOf", "(internal/reflectlite.Value).Type", "(internal/reflectlite.Value).IsNil", "internal/reflectlite.TypeOf", "(internal/reflectlite.Value).Elem", "(internal/reflectlite.Value).Set"], unfollowed := true, recurses := true, named := ["math/bits.deBruijn64tab", "errors.errorType"], apart := false, laid := [("math/bits.deBruijn64tab", laid_math_bits_deBruijn64tab), ("errors.errorType", laid_errors_errorType)] }
def ArenaWornSaid : Prop := arenaWornRow.holds Tryd.pinned (OpenSpec.ofChange arenaWornSpec)

/-- ITS FALSE NEIGHBOUR: 'it returns false'. Refute it at one input. -/
def arenaWornWrong : ChangeSpec := { name := "arenaWorn", fn := fun _ => fun
  | [d1, d2] => { results := [.lit (.bool false)], args := [d1, d2] }
  | _ => none }
def ArenaWornWrongFalsely : Prop := arenaWornRow.holds Tryd.pinned (OpenSpec.ofChange arenaWornWrong)

/-- 'plaitlaw03.ArenaRuns': WHATEVER THE INPUT: true; the input reads as it did. -/
def arenaRunsSpec : ChangeSpec := { name := "arenaRuns", fn := fun _ => fun
  | [d1, d2, d3] => { results := [.lit (.bool true)], args := [d1, d2, d3] }
  | _ => none }
def arenaRunsRow : OpenClaim := { program := "ytiphdlhnoceeiaadoor", sum := "b3983a1393292b038d21680ffcf5292045644cb4f73a263107dbe1fde5a7def1", func := "plait/plaitlaw03.ArenaRuns", spec := "arenaRuns", inPlace := ["sync/atomic.AddInt64", "internal/reflectlite.ValueOf", "(internal/reflectlite.Value).Type", "(internal/reflectlite.Value).IsNil", "internal/reflectlite.TypeOf", "(internal/reflectlite.Value).Elem", "(internal/reflectlite.Value).Set", "sync/atomic.LoadInt64"], unfollowed := true, recurses := true, named := ["errors.errorType", "math/bits.deBruijn64tab"], apart := false, laid := [("math/bits.deBruijn64tab", laid_math_bits_deBruijn64tab), ("errors.errorType", laid_errors_errorType)] }
def ArenaRunsSaid : Prop := arenaRunsRow.holds Tryd.pinned (OpenSpec.ofChange arenaRunsSpec)

/-- ITS FALSE NEIGHBOUR: 'it returns false'. Refute it at one input. -/
def arenaRunsWrong : ChangeSpec := { name := "arenaRuns", fn := fun _ => fun
  | [d1, d2, d3] => { results := [.lit (.bool false)], args := [d1, d2, d3] }
  | _ => none }
def ArenaRunsWrongFalsely : Prop := arenaRunsRow.holds Tryd.pinned (OpenSpec.ofChange arenaRunsWrong)

/-- 'plaitlaw03.ArenaLoads': WHATEVER THE INPUT: true; the input reads as it did. -/
def arenaLoadsSpec : ChangeSpec := { name := "arenaLoads", fn := fun _ => fun
  | [d1, d2] => { results := [.lit (.bool true)], args := [d1, d2] }
  | _ => none }
def arenaLoadsRow : OpenClaim := { program := "ytiphdlhnoceeiaadoor", sum := "b3983a1393292b038d21680ffcf5292045644cb4f73a263107dbe1fde5a7def1", func := "plait/plaitlaw03.ArenaLoads", spec := "arenaLoads", inPlace := ["sync/atomic.LoadInt64", "sync/atomic.AddInt64", "internal/reflectlite.ValueOf", "(internal/reflectlite.Value).Type", "(internal/reflectlite.Value).IsNil", "internal/reflectlite.TypeOf", "(internal/reflectlite.Value).Elem", "(internal/reflectlite.Value).Set"], unfollowed := true, recurses := true, named := ["math/bits.deBruijn64tab", "errors.errorType"], apart := false, laid := [("math/bits.deBruijn64tab", laid_math_bits_deBruijn64tab), ("errors.errorType", laid_errors_errorType)] }
def ArenaLoadsSaid : Prop := arenaLoadsRow.holds Tryd.pinned (OpenSpec.ofChange arenaLoadsSpec)

/-- ITS FALSE NEIGHBOUR: 'it returns false'. Refute it at one input. -/
def arenaLoadsWrong : ChangeSpec := { name := "arenaLoads", fn := fun _ => fun
  | [d1, d2] => { results := [.lit (.bool false)], args := [d1, d2] }
  | _ => none }
def ArenaLoadsWrongFalsely : Prop := arenaLoadsRow.holds Tryd.pinned (OpenSpec.ofChange arenaLoadsWrong)

/-- 'plaitlaw03.ArenaBack': WHATEVER THE INPUT: true; the input reads as it did. -/
def arenaBackSpec : ChangeSpec := { name := "arenaBack", fn := fun _ => fun
  | [d1, d2, d3] => { results := [.lit (.bool true)], args := [d1, d2, d3] }
  | _ => none }
def arenaBackRow : OpenClaim := { program := "ytiphdlhnoceeiaadoor", sum := "b3983a1393292b038d21680ffcf5292045644cb4f73a263107dbe1fde5a7def1", func := "plait/plaitlaw03.ArenaBack", spec := "arenaBack", inPlace := ["sync/atomic.AddInt64", "sync/atomic.LoadInt64", "internal/reflectlite.ValueOf", "(internal/reflectlite.Value).Type", "(internal/reflectlite.Value).IsNil", "internal/reflectlite.TypeOf", "(internal/reflectlite.Value).Elem", "(internal/reflectlite.Value).Set"], unfollowed := true, recurses := true, named := ["math/bits.deBruijn64tab", "errors.errorType"], apart := false, laid := [("math/bits.deBruijn64tab", laid_math_bits_deBruijn64tab), ("errors.errorType", laid_errors_errorType)] }
def ArenaBackSaid : Prop := arenaBackRow.holds Tryd.pinned (OpenSpec.ofChange arenaBackSpec)

/-- ITS FALSE NEIGHBOUR: 'it returns false'. Refute it at one input. -/
def arenaBackWrong : ChangeSpec := { name := "arenaBack", fn := fun _ => fun
  | [d1, d2, d3] => { results := [.lit (.bool false)], args := [d1, d2, d3] }
  | _ => none }
def ArenaBackWrongFalsely : Prop := arenaBackRow.holds Tryd.pinned (OpenSpec.ofChange arenaBackWrong)

/-- 'plaitlaw03.ArenaFinds': WHATEVER THE INPUT: true; the input reads as it did. -/
def arenaFindsSpec : ChangeSpec := { name := "arenaFinds", fn := fun _ => fun
  | [d1, d2, d3] => { results := [.lit (.bool true)], args := [d1, d2, d3] }
  | _ => none }
def arenaFindsRow : OpenClaim := { program := "ytiphdlhnoceeiaadoor", sum := "b3983a1393292b038d21680ffcf5292045644cb4f73a263107dbe1fde5a7def1", func := "plait/plaitlaw03.ArenaFinds", spec := "arenaFinds", inPlace := ["sync/atomic.LoadInt64", "sync/atomic.AddInt64", "internal/reflectlite.ValueOf", "(internal/reflectlite.Value).Type", "(internal/reflectlite.Value).IsNil", "internal/reflectlite.TypeOf", "(internal/reflectlite.Value).Elem", "(internal/reflectlite.Value).Set"], unfollowed := true, recurses := true, named := ["math/bits.deBruijn64tab", "errors.errorType"], apart := false, laid := [("math/bits.deBruijn64tab", laid_math_bits_deBruijn64tab), ("errors.errorType", laid_errors_errorType)] }
def ArenaFindsSaid : Prop := arenaFindsRow.holds Tryd.pinned (OpenSpec.ofChange arenaFindsSpec)

/-- ITS FALSE NEIGHBOUR: 'it returns false'. Refute it at one input. -/
def arenaFindsWrong : ChangeSpec := { name := "arenaFinds", fn := fun _ => fun
  | [d1, d2, d3] => { results := [.lit (.bool false)], args := [d1, d2, d3] }
  | _ => none }
def ArenaFindsWrongFalsely : Prop := arenaFindsRow.holds Tryd.pinned (OpenSpec.ofChange arenaFindsWrong)

/- THE SECOND FORM. 'bulk': how many values and letters a reading holds, each counted each time it is reached (what is shared counts as often as it is met; a slice's spare places count too). A statement '..UptoSaid' is the law's where the arguments, and the package variables that the reading takes, are together of bulk at most 1048576: NARROWER than '..Said'. Prove '..Said' where nothing that the law and all that it calls make is longer than what came in: it says more and counts as full. Else prove '..UptoSaid'. A law counts once. -/
mutual
def uptoBulk {H : Type} : DataW H → Nat
  | .lit (.string bytes) => bytes.length + 1
  | .lit _ => 1
  | .nil => 1
  | .ptr d => uptoBulk d + 1
  | .slice elems spare => uptoBulkAll elems + uptoBulkAll spare + 1
  | .agg parts => uptoBulkAll parts + 1
  | .iface _ d => uptoBulk d + 1
  | .map entries => uptoBulkEntries entries + 1
  | .held _ => 1
def uptoBulkAll {H : Type} : List (DataW H) → Nat
  | [] => 0
  | d :: r => uptoBulk d + uptoBulkAll r
def uptoBulkEntries {H : Type} : List (Lit × DataW H) → Nat
  | [] => 0
  | x :: r => uptoBulkEntry x + uptoBulkEntries r
def uptoBulkEntry {H : Type} : Lit × DataW H → Nat
  | (.string bytes, d) => bytes.length + uptoBulk d + 1
  | (_, d) => uptoBulk d + 1
 end
def uptoSmall : (H : Type) → List (DataW H) → Bool := fun _ ds => decide (uptoBulkAll ds ≤ 1048576)
def OpenSpec.upto (s : _root_.Go.ChangeSpec) : _root_.Go.OpenSpec := { _root_.Go.OpenSpec.ofChange s with cond := some uptoSmall }

/-- 'plaitlaw02.SlotsNexts', WHERE WHAT IT READS IS OF BULK AT MOST 1048576: true; the input reads as it did. -/
def slotsNextsUptoRow : OpenClaim := { program := "ytiphdlhnoceeiaadoor", sum := "b3983a1393292b038d21680ffcf5292045644cb4f73a263107dbe1fde5a7def1", func := "plait/plaitlaw02.SlotsNexts", spec := "slotsNexts", inPlace := ["sync/atomic.AddInt64", "sync/atomic.LoadInt64"], named := ["math/bits.deBruijn64tab"], apart := false, laid := [("math/bits.deBruijn64tab", laid_math_bits_deBruijn64tab)], narrowed := true }
def SlotsNextsUptoSaid : Prop := slotsNextsUptoRow.holds Tryd.pinned (OpenSpec.upto slotsNextsSpec)

/-- 'plaitlaw02.SlotsOrder', WHERE WHAT IT READS IS OF BULK AT MOST 1048576: true; the input reads as it did. -/
def slotsOrderUptoRow : OpenClaim := { program := "ytiphdlhnoceeiaadoor", sum := "b3983a1393292b038d21680ffcf5292045644cb4f73a263107dbe1fde5a7def1", func := "plait/plaitlaw02.SlotsOrder", spec := "slotsOrder", inPlace := ["sync/atomic.AddInt64", "sync/atomic.LoadInt64"], named := ["math/bits.deBruijn64tab"], apart := false, laid := [("math/bits.deBruijn64tab", laid_math_bits_deBruijn64tab)], narrowed := true }
def SlotsOrderUptoSaid : Prop := slotsOrderUptoRow.holds Tryd.pinned (OpenSpec.upto slotsOrderSpec)

/-- 'plaitlaw03.ArenaAges', WHERE WHAT IT READS IS OF BULK AT MOST 1048576: true; the input reads as it did. -/
def arenaAgesUptoRow : OpenClaim := { program := "ytiphdlhnoceeiaadoor", sum := "b3983a1393292b038d21680ffcf5292045644cb4f73a263107dbe1fde5a7def1", func := "plait/plaitlaw03.ArenaAges", spec := "arenaAges", inPlace := ["sync/atomic.LoadInt64", "sync/atomic.AddInt64"], named := ["math/bits.deBruijn64tab"], apart := false, laid := [("math/bits.deBruijn64tab", laid_math_bits_deBruijn64tab)], narrowed := true }
def ArenaAgesUptoSaid : Prop := arenaAgesUptoRow.holds Tryd.pinned (OpenSpec.upto arenaAgesSpec)

/-- 'plaitlaw02.SlotsLowest', WHERE WHAT IT READS IS OF BULK AT MOST 1048576: true; the input reads as it did. -/
def slotsLowestUptoRow : OpenClaim := { program := "ytiphdlhnoceeiaadoor", sum := "b3983a1393292b038d21680ffcf5292045644cb4f73a263107dbe1fde5a7def1", func := "plait/plaitlaw02.SlotsLowest", spec := "slotsLowest", inPlace := ["sync/atomic.LoadInt64", "sync/atomic.AddInt64", "internal/reflectlite.ValueOf", "(internal/reflectlite.Value).Type", "(internal/reflectlite.Value).IsNil", "internal/reflectlite.TypeOf", "(internal/reflectlite.Value).Elem", "(internal/reflectlite.Value).Set"], unfollowed := true, recurses := true, named := ["math/bits.deBruijn64tab", "errors.errorType"], apart := false, laid := [("math/bits.deBruijn64tab", laid_math_bits_deBruijn64tab), ("errors.errorType", laid_errors_errorType)], narrowed := true }
def SlotsLowestUptoSaid : Prop := slotsLowestUptoRow.holds Tryd.pinned (OpenSpec.upto slotsLowestSpec)

/-- 'plaitlaw02.SlotsFull', WHERE WHAT IT READS IS OF BULK AT MOST 1048576: true; the input reads as it did. -/
def slotsFullUptoRow : OpenClaim := { program := "ytiphdlhnoceeiaadoor", sum := "b3983a1393292b038d21680ffcf5292045644cb4f73a263107dbe1fde5a7def1", func := "plait/plaitlaw02.SlotsFull", spec := "slotsFull", inPlace := ["sync/atomic.LoadInt64", "sync/atomic.AddInt64", "internal/reflectlite.ValueOf", "(internal/reflectlite.Value).Type", "(internal/reflectlite.Value).IsNil", "internal/reflectlite.TypeOf", "(internal/reflectlite.Value).Elem", "(internal/reflectlite.Value).Set"], unfollowed := true, recurses := true, named := ["math/bits.deBruijn64tab", "errors.errorType"], apart := false, laid := [("math/bits.deBruijn64tab", laid_math_bits_deBruijn64tab), ("errors.errorType", laid_errors_errorType)], narrowed := true }
def SlotsFullUptoSaid : Prop := slotsFullUptoRow.holds Tryd.pinned (OpenSpec.upto slotsFullSpec)

/-- 'plaitlaw02.SlotsBack', WHERE WHAT IT READS IS OF BULK AT MOST 1048576: true; the input reads as it did. -/
def slotsBackUptoRow : OpenClaim := { program := "ytiphdlhnoceeiaadoor", sum := "b3983a1393292b038d21680ffcf5292045644cb4f73a263107dbe1fde5a7def1", func := "plait/plaitlaw02.SlotsBack", spec := "slotsBack", inPlace := ["sync/atomic.AddInt64", "internal/reflectlite.ValueOf", "(internal/reflectlite.Value).Type", "(internal/reflectlite.Value).IsNil", "internal/reflectlite.TypeOf", "(internal/reflectlite.Value).Elem", "(internal/reflectlite.Value).Set", "sync/atomic.LoadInt64"], unfollowed := true, recurses := true, named := ["math/bits.deBruijn64tab", "errors.errorType"], apart := false, laid := [("math/bits.deBruijn64tab", laid_math_bits_deBruijn64tab), ("errors.errorType", laid_errors_errorType)], narrowed := true }
def SlotsBackUptoSaid : Prop := slotsBackUptoRow.holds Tryd.pinned (OpenSpec.upto slotsBackSpec)

/-- 'plaitlaw02.SlotsRuns', WHERE WHAT IT READS IS OF BULK AT MOST 1048576: true; the input reads as it did. -/
def slotsRunsUptoRow : OpenClaim := { program := "ytiphdlhnoceeiaadoor", sum := "b3983a1393292b038d21680ffcf5292045644cb4f73a263107dbe1fde5a7def1", func := "plait/plaitlaw02.SlotsRuns", spec := "slotsRuns", inPlace := ["sync/atomic.LoadInt64", "sync/atomic.AddInt64", "internal/reflectlite.ValueOf", "(internal/reflectlite.Value).Type", "(internal/reflectlite.Value).IsNil", "internal/reflectlite.TypeOf", "(internal/reflectlite.Value).Elem", "(internal/reflectlite.Value).Set"], unfollowed := true, recurses := true, named := ["math/bits.deBruijn64tab", "errors.errorType"], apart := false, laid := [("math/bits.deBruijn64tab", laid_math_bits_deBruijn64tab), ("errors.errorType", laid_errors_errorType)], narrowed := true }
def SlotsRunsUptoSaid : Prop := slotsRunsUptoRow.holds Tryd.pinned (OpenSpec.upto slotsRunsSpec)

/-- 'plaitlaw02.SlotsNew', WHERE WHAT IT READS IS OF BULK AT MOST 1048576: true; the input reads as it did. -/
def slotsNewUptoRow : OpenClaim := { program := "ytiphdlhnoceeiaadoor", sum := "b3983a1393292b038d21680ffcf5292045644cb4f73a263107dbe1fde5a7def1", func := "plait/plaitlaw02.SlotsNew", spec := "slotsNew", inPlace := ["sync/atomic.LoadInt64", "sync/atomic.AddInt64", "internal/reflectlite.ValueOf", "(internal/reflectlite.Value).Type", "(internal/reflectlite.Value).IsNil", "internal/reflectlite.TypeOf", "(internal/reflectlite.Value).Elem", "(internal/reflectlite.Value).Set"], unfollowed := true, recurses := true, named := ["math/bits.deBruijn64tab", "errors.errorType"], apart := false, laid := [("math/bits.deBruijn64tab", laid_math_bits_deBruijn64tab), ("errors.errorType", laid_errors_errorType)], narrowed := true }
def SlotsNewUptoSaid : Prop := slotsNewUptoRow.holds Tryd.pinned (OpenSpec.upto slotsNewSpec)

/-- 'plaitlaw03.ArenaNew', WHERE WHAT IT READS IS OF BULK AT MOST 1048576: true; the input reads as it did. -/
def arenaNewUptoRow : OpenClaim := { program := "ytiphdlhnoceeiaadoor", sum := "b3983a1393292b038d21680ffcf5292045644cb4f73a263107dbe1fde5a7def1", func := "plait/plaitlaw03.ArenaNew", spec := "arenaNew", inPlace := ["sync/atomic.LoadInt64", "sync/atomic.AddInt64", "internal/reflectlite.ValueOf", "(internal/reflectlite.Value).Type", "(internal/reflectlite.Value).IsNil", "internal/reflectlite.TypeOf", "(internal/reflectlite.Value).Elem", "(internal/reflectlite.Value).Set"], unfollowed := true, recurses := true, named := ["math/bits.deBruijn64tab", "errors.errorType"], apart := false, laid := [("math/bits.deBruijn64tab", laid_math_bits_deBruijn64tab), ("errors.errorType", laid_errors_errorType)], narrowed := true }
def ArenaNewUptoSaid : Prop := arenaNewUptoRow.holds Tryd.pinned (OpenSpec.upto arenaNewSpec)

/-- 'plaitlaw03.ArenaOnce', WHERE WHAT IT READS IS OF BULK AT MOST 1048576: true; the input reads as it did. -/
def arenaOnceUptoRow : OpenClaim := { program := "ytiphdlhnoceeiaadoor", sum := "b3983a1393292b038d21680ffcf5292045644cb4f73a263107dbe1fde5a7def1", func := "plait/plaitlaw03.ArenaOnce", spec := "arenaOnce", inPlace := ["sync/atomic.AddInt64", "sync/atomic.LoadInt64", "internal/reflectlite.ValueOf", "(internal/reflectlite.Value).Type", "(internal/reflectlite.Value).IsNil", "internal/reflectlite.TypeOf", "(internal/reflectlite.Value).Elem", "(internal/reflectlite.Value).Set"], unfollowed := true, recurses := true, named := ["math/bits.deBruijn64tab", "errors.errorType"], apart := false, laid := [("math/bits.deBruijn64tab", laid_math_bits_deBruijn64tab), ("errors.errorType", laid_errors_errorType)], narrowed := true }
def ArenaOnceUptoSaid : Prop := arenaOnceUptoRow.holds Tryd.pinned (OpenSpec.upto arenaOnceSpec)

/-- 'plaitlaw03.ArenaWorn', WHERE WHAT IT READS IS OF BULK AT MOST 1048576: true; the input reads as it did. -/
def arenaWornUptoRow : OpenClaim := { program := "ytiphdlhnoceeiaadoor", sum := "b3983a1393292b038d21680ffcf5292045644cb4f73a263107dbe1fde5a7def1", func := "plait/plaitlaw03.ArenaWorn", spec := "arenaWorn", inPlace := ["sync/atomic.AddInt64", "sync/atomic.LoadInt64", "internal/reflectlite.ValueOf", "(internal/reflectlite.Value).Type", "(internal/reflectlite.Value).IsNil", "internal/reflectlite.TypeOf", "(internal/reflectlite.Value).Elem", "(internal/reflectlite.Value).Set"], unfollowed := true, recurses := true, named := ["math/bits.deBruijn64tab", "errors.errorType"], apart := false, laid := [("math/bits.deBruijn64tab", laid_math_bits_deBruijn64tab), ("errors.errorType", laid_errors_errorType)], narrowed := true }
def ArenaWornUptoSaid : Prop := arenaWornUptoRow.holds Tryd.pinned (OpenSpec.upto arenaWornSpec)

/-- 'plaitlaw03.ArenaRuns', WHERE WHAT IT READS IS OF BULK AT MOST 1048576: true; the input reads as it did. -/
def arenaRunsUptoRow : OpenClaim := { program := "ytiphdlhnoceeiaadoor", sum := "b3983a1393292b038d21680ffcf5292045644cb4f73a263107dbe1fde5a7def1", func := "plait/plaitlaw03.ArenaRuns", spec := "arenaRuns", inPlace := ["sync/atomic.AddInt64", "internal/reflectlite.ValueOf", "(internal/reflectlite.Value).Type", "(internal/reflectlite.Value).IsNil", "internal/reflectlite.TypeOf", "(internal/reflectlite.Value).Elem", "(internal/reflectlite.Value).Set", "sync/atomic.LoadInt64"], unfollowed := true, recurses := true, named := ["errors.errorType", "math/bits.deBruijn64tab"], apart := false, laid := [("math/bits.deBruijn64tab", laid_math_bits_deBruijn64tab), ("errors.errorType", laid_errors_errorType)], narrowed := true }
def ArenaRunsUptoSaid : Prop := arenaRunsUptoRow.holds Tryd.pinned (OpenSpec.upto arenaRunsSpec)

/-- 'plaitlaw03.ArenaLoads', WHERE WHAT IT READS IS OF BULK AT MOST 1048576: true; the input reads as it did. -/
def arenaLoadsUptoRow : OpenClaim := { program := "ytiphdlhnoceeiaadoor", sum := "b3983a1393292b038d21680ffcf5292045644cb4f73a263107dbe1fde5a7def1", func := "plait/plaitlaw03.ArenaLoads", spec := "arenaLoads", inPlace := ["sync/atomic.LoadInt64", "sync/atomic.AddInt64", "internal/reflectlite.ValueOf", "(internal/reflectlite.Value).Type", "(internal/reflectlite.Value).IsNil", "internal/reflectlite.TypeOf", "(internal/reflectlite.Value).Elem", "(internal/reflectlite.Value).Set"], unfollowed := true, recurses := true, named := ["math/bits.deBruijn64tab", "errors.errorType"], apart := false, laid := [("math/bits.deBruijn64tab", laid_math_bits_deBruijn64tab), ("errors.errorType", laid_errors_errorType)], narrowed := true }
def ArenaLoadsUptoSaid : Prop := arenaLoadsUptoRow.holds Tryd.pinned (OpenSpec.upto arenaLoadsSpec)

/-- 'plaitlaw03.ArenaBack', WHERE WHAT IT READS IS OF BULK AT MOST 1048576: true; the input reads as it did. -/
def arenaBackUptoRow : OpenClaim := { program := "ytiphdlhnoceeiaadoor", sum := "b3983a1393292b038d21680ffcf5292045644cb4f73a263107dbe1fde5a7def1", func := "plait/plaitlaw03.ArenaBack", spec := "arenaBack", inPlace := ["sync/atomic.AddInt64", "sync/atomic.LoadInt64", "internal/reflectlite.ValueOf", "(internal/reflectlite.Value).Type", "(internal/reflectlite.Value).IsNil", "internal/reflectlite.TypeOf", "(internal/reflectlite.Value).Elem", "(internal/reflectlite.Value).Set"], unfollowed := true, recurses := true, named := ["math/bits.deBruijn64tab", "errors.errorType"], apart := false, laid := [("math/bits.deBruijn64tab", laid_math_bits_deBruijn64tab), ("errors.errorType", laid_errors_errorType)], narrowed := true }
def ArenaBackUptoSaid : Prop := arenaBackUptoRow.holds Tryd.pinned (OpenSpec.upto arenaBackSpec)

/-- 'plaitlaw03.ArenaFinds', WHERE WHAT IT READS IS OF BULK AT MOST 1048576: true; the input reads as it did. -/
def arenaFindsUptoRow : OpenClaim := { program := "ytiphdlhnoceeiaadoor", sum := "b3983a1393292b038d21680ffcf5292045644cb4f73a263107dbe1fde5a7def1", func := "plait/plaitlaw03.ArenaFinds", spec := "arenaFinds", inPlace := ["sync/atomic.LoadInt64", "sync/atomic.AddInt64", "internal/reflectlite.ValueOf", "(internal/reflectlite.Value).Type", "(internal/reflectlite.Value).IsNil", "internal/reflectlite.TypeOf", "(internal/reflectlite.Value).Elem", "(internal/reflectlite.Value).Set"], unfollowed := true, recurses := true, named := ["math/bits.deBruijn64tab", "errors.errorType"], apart := false, laid := [("math/bits.deBruijn64tab", laid_math_bits_deBruijn64tab), ("errors.errorType", laid_errors_errorType)], narrowed := true }
def ArenaFindsUptoSaid : Prop := arenaFindsUptoRow.holds Tryd.pinned (OpenSpec.upto arenaFindsSpec)

end Rows
end Go.Proofs.YtiphdlhnoceeiaaDoor
