/- Facts on the program: it tells no knob; no variable is laid. -/
import Derived.Test.YtdplphhlclhmfaaRows
import Derived.ChangeSame
import Derived.ChangeVars
import Derived.JoinedOf
import Derived.RowKit
import Derived.RowKitTokens
namespace Go.Proofs.Ytdplphhlclhmfaa
open Go Go.ChangeShapes Go.WideShapes Go.RowKit
set_option linter.unusedVariables false
set_option linter.unusedSimpArgs false

theorem kown : ownKnob Try.prog.godebug = none := by kernel_rfl
theorem klaidOut : laidOutB Try.prog = true := by kernel_rfl
end Go.Proofs.Ytdplphhlclhmfaa
