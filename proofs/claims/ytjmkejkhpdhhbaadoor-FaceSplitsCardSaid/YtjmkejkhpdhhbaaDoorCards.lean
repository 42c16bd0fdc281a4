/-
  DERIVED. GIVEN WITH THE SEED: THE CARDS: each row of YtjmkejkhpdhhbaaDoorRows.lean that lists a variable, with what it lists TIED to the program's text (the seventh form; the later family's looks); each row that meets fmt, with fmt's text TOLD by the authors' own Lean function (tested against real Go, not proved from fmt's source: count such statements apart). THE CARD IS WHAT COUNTS. Prove the row's statement (the work); the ties are given (YtjmkejkhpdhhbaaDoorTie.lean); close each card by the builder's one call (the guide's Derived/Test/ToyasCard.lean, 'card_holds'). Laid BY PROGRAM, IN A SANDBOX (cutbox-door.mjs). By AI agents, Wed Nov 11 2026. No macro, syntax, notation, axiom, sorry.
-/
import Derived.Test.YtjmkejkhpdhhbaaDoorRows
import GoSem.ClaimSeven
namespace Go.Proofs.YtjmkejkhpdhhbaaDoor
namespace Rows

/-- THE TIED CARD OF 'plaitlaw10.TurnChecks'. -/
def turnChecksCard : Claim7 := { stood := { row := turnChecksRow, standIns := [], harness := (true, "5225a3622a991787df47b9151104052218fbccf75cda2adb9adc4b2a3cb158ff"), looks := true }, kinds := [], alts := [], laidByText := true, laidKinds := [.handle], laidTests := true, laidLooks := .later }
def TurnChecksCardSaid : Prop := Claim7.holds Tryd.pinned (.plain (OpenSpec.ofChange turnChecksSpec)) turnChecksCard

/-- THE TIED CARD OF 'plaitlaw10.TurnSums'. -/
def turnSumsCard : Claim7 := { stood := { row := turnSumsRow, standIns := [], harness := (true, "5225a3622a991787df47b9151104052218fbccf75cda2adb9adc4b2a3cb158ff"), looks := true }, kinds := [], alts := [], laidByText := true, laidKinds := [.handle], laidTests := true, laidLooks := .later }
def TurnSumsCardSaid : Prop := Claim7.holds Tryd.pinned (.plain (OpenSpec.ofChange turnSumsSpec)) turnSumsCard

/-- THE TIED CARD OF 'plaitlaw10.TurnBack'. -/
def turnBackCard : Claim7 := { stood := { row := turnBackRow, standIns := [], harness := (true, "5225a3622a991787df47b9151104052218fbccf75cda2adb9adc4b2a3cb158ff"), looks := true }, kinds := [], alts := [], laidByText := true, laidKinds := [.handle], laidTests := true, laidLooks := .later }
def TurnBackCardSaid : Prop := Claim7.holds Tryd.pinned (.plain (OpenSpec.ofChange turnBackSpec)) turnBackCard

/-- THE TIED CARD OF 'plaitlaw10.TurnNew'. -/
def turnNewCard : Claim7 := { stood := { row := turnNewRow, standIns := [], harness := (true, "5225a3622a991787df47b9151104052218fbccf75cda2adb9adc4b2a3cb158ff"), looks := true }, kinds := [], alts := [], laidByText := true, laidKinds := [.handle], laidTests := true, laidLooks := .later }
def TurnNewCardSaid : Prop := Claim7.holds Tryd.pinned (.plain (OpenSpec.ofChange turnNewSpec)) turnNewCard

/-- THE TIED CARD OF 'plaitlaw10.TurnRuns'. -/
def turnRunsCard : Claim7 := { stood := { row := turnRunsRow, standIns := [], harness := (true, "5225a3622a991787df47b9151104052218fbccf75cda2adb9adc4b2a3cb158ff"), looks := true }, kinds := [], alts := [], laidByText := true, laidKinds := [.handle], laidTests := true, laidLooks := .later }
def TurnRunsCardSaid : Prop := Claim7.holds Tryd.pinned (.plain (OpenSpec.ofChange turnRunsSpec)) turnRunsCard

/-- THE TIED CARD OF 'plaitlaw10.TurnLoads'. -/
def turnLoadsCard : Claim7 := { stood := { row := turnLoadsRow, standIns := [], harness := (true, "5225a3622a991787df47b9151104052218fbccf75cda2adb9adc4b2a3cb158ff"), looks := true }, kinds := [], alts := [], laidByText := true, laidKinds := [.handle], laidTests := true, laidLooks := .later }
def TurnLoadsCardSaid : Prop := Claim7.holds Tryd.pinned (.plain (OpenSpec.ofChange turnLoadsSpec)) turnLoadsCard

/-- THE TIED CARD OF 'plaitlaw11.FaceWalks'. -/
def faceWalksCard : Claim7 := { stood := { row := faceWalksRow, standIns := [], harness := (true, "5225a3622a991787df47b9151104052218fbccf75cda2adb9adc4b2a3cb158ff"), looks := true }, kinds := [], alts := [], laidByText := true, laidKinds := [.handle], laidTests := true, laidLooks := .later }
def FaceWalksCardSaid : Prop := Claim7.holds Tryd.pinned (.plain (OpenSpec.ofChange faceWalksSpec)) faceWalksCard

/-- THE TIED CARD OF 'plaitlaw11.FaceOnce'. -/
def faceOnceCard : Claim7 := { stood := { row := faceOnceRow, standIns := [], harness := (true, "5225a3622a991787df47b9151104052218fbccf75cda2adb9adc4b2a3cb158ff"), looks := true }, kinds := [], alts := [], laidByText := true, laidKinds := [.handle], laidTests := true, laidLooks := .later }
def FaceOnceCardSaid : Prop := Claim7.holds Tryd.pinned (.plain (OpenSpec.ofChange faceOnceSpec)) faceOnceCard

/-- THE TIED CARD OF 'plaitlaw11.FaceNexts'. -/
def faceNextsCard : Claim7 := { stood := { row := faceNextsRow, standIns := [], harness := (true, "5225a3622a991787df47b9151104052218fbccf75cda2adb9adc4b2a3cb158ff"), looks := true }, kinds := [], alts := [], laidByText := true, laidKinds := [.handle], laidTests := true, laidLooks := .later }
def FaceNextsCardSaid : Prop := Claim7.holds Tryd.pinned (.plain (OpenSpec.ofChange faceNextsSpec)) faceNextsCard

/-- THE TIED CARD OF 'plaitlaw10.TurnCopies'. -/
def turnCopiesCard : Claim7 := { stood := { row := turnCopiesRow, standIns := [], harness := (true, "5225a3622a991787df47b9151104052218fbccf75cda2adb9adc4b2a3cb158ff"), looks := true }, kinds := [], alts := [], laidByText := true, laidKinds := [.handle], laidTests := true, laidLooks := .later }
def TurnCopiesCardSaid : Prop := Claim7.holds Tryd.pinned (.plain (OpenSpec.ofChange turnCopiesSpec)) turnCopiesCard

/-- THE TIED CARD OF 'plaitlaw11.FaceAts'. -/
def faceAtsCard : Claim7 := { stood := { row := faceAtsRow, standIns := [], harness := (true, "5225a3622a991787df47b9151104052218fbccf75cda2adb9adc4b2a3cb158ff"), looks := true }, kinds := [], alts := [], laidByText := true, laidKinds := [.handle], laidTests := true, laidLooks := .later }
def FaceAtsCardSaid : Prop := Claim7.holds Tryd.pinned (.plain (OpenSpec.ofChange faceAtsSpec)) faceAtsCard

/-- THE TIED CARD OF 'plaitlaw11.FaceCorners'. -/
def faceCornersCard : Claim7 := { stood := { row := faceCornersRow, standIns := [], harness := (true, "5225a3622a991787df47b9151104052218fbccf75cda2adb9adc4b2a3cb158ff"), looks := true }, kinds := [], alts := [], laidByText := true, laidKinds := [.handle], laidTests := true, laidLooks := .later }
def FaceCornersCardSaid : Prop := Claim7.holds Tryd.pinned (.plain (OpenSpec.ofChange faceCornersSpec)) faceCornersCard

/-- THE TIED CARD OF 'plaitlaw11.FaceSplits'. -/
def faceSplitsCard : Claim7 := { stood := { row := faceSplitsRow, standIns := [], harness := (true, "5225a3622a991787df47b9151104052218fbccf75cda2adb9adc4b2a3cb158ff"), looks := true }, kinds := [], alts := [], laidByText := true, laidKinds := [.handle], laidTests := true, laidLooks := .later }
def FaceSplitsCardSaid : Prop := Claim7.holds Tryd.pinned (.plain (OpenSpec.ofChange faceSplitsSpec)) faceSplitsCard

/-- THE SECOND FORM's CARD OF 'plaitlaw10.TurnChecks'. -/
def turnChecksUptoCard : Claim7 := { stood := { row := turnChecksUptoRow, standIns := [], harness := (true, "5225a3622a991787df47b9151104052218fbccf75cda2adb9adc4b2a3cb158ff"), looks := true }, kinds := [], alts := [], laidByText := true, laidKinds := [.handle], laidTests := true, laidLooks := .later }
def TurnChecksUptoCardSaid : Prop := Claim7.holds Tryd.pinned (.plain (OpenSpec.upto turnChecksSpec)) turnChecksUptoCard

/-- THE SECOND FORM's CARD OF 'plaitlaw10.TurnSums'. -/
def turnSumsUptoCard : Claim7 := { stood := { row := turnSumsUptoRow, standIns := [], harness := (true, "5225a3622a991787df47b9151104052218fbccf75cda2adb9adc4b2a3cb158ff"), looks := true }, kinds := [], alts := [], laidByText := true, laidKinds := [.handle], laidTests := true, laidLooks := .later }
def TurnSumsUptoCardSaid : Prop := Claim7.holds Tryd.pinned (.plain (OpenSpec.upto turnSumsSpec)) turnSumsUptoCard

/-- THE SECOND FORM's CARD OF 'plaitlaw10.TurnBack'. -/
def turnBackUptoCard : Claim7 := { stood := { row := turnBackUptoRow, standIns := [], harness := (true, "5225a3622a991787df47b9151104052218fbccf75cda2adb9adc4b2a3cb158ff"), looks := true }, kinds := [], alts := [], laidByText := true, laidKinds := [.handle], laidTests := true, laidLooks := .later }
def TurnBackUptoCardSaid : Prop := Claim7.holds Tryd.pinned (.plain (OpenSpec.upto turnBackSpec)) turnBackUptoCard

/-- THE SECOND FORM's CARD OF 'plaitlaw10.TurnNew'. -/
def turnNewUptoCard : Claim7 := { stood := { row := turnNewUptoRow, standIns := [], harness := (true, "5225a3622a991787df47b9151104052218fbccf75cda2adb9adc4b2a3cb158ff"), looks := true }, kinds := [], alts := [], laidByText := true, laidKinds := [.handle], laidTests := true, laidLooks := .later }
def TurnNewUptoCardSaid : Prop := Claim7.holds Tryd.pinned (.plain (OpenSpec.upto turnNewSpec)) turnNewUptoCard

/-- THE SECOND FORM's CARD OF 'plaitlaw10.TurnRuns'. -/
def turnRunsUptoCard : Claim7 := { stood := { row := turnRunsUptoRow, standIns := [], harness := (true, "5225a3622a991787df47b9151104052218fbccf75cda2adb9adc4b2a3cb158ff"), looks := true }, kinds := [], alts := [], laidByText := true, laidKinds := [.handle], laidTests := true, laidLooks := .later }
def TurnRunsUptoCardSaid : Prop := Claim7.holds Tryd.pinned (.plain (OpenSpec.upto turnRunsSpec)) turnRunsUptoCard

/-- THE SECOND FORM's CARD OF 'plaitlaw10.TurnLoads'. -/
def turnLoadsUptoCard : Claim7 := { stood := { row := turnLoadsUptoRow, standIns := [], harness := (true, "5225a3622a991787df47b9151104052218fbccf75cda2adb9adc4b2a3cb158ff"), looks := true }, kinds := [], alts := [], laidByText := true, laidKinds := [.handle], laidTests := true, laidLooks := .later }
def TurnLoadsUptoCardSaid : Prop := Claim7.holds Tryd.pinned (.plain (OpenSpec.upto turnLoadsSpec)) turnLoadsUptoCard

/-- THE SECOND FORM's CARD OF 'plaitlaw11.FaceWalks'. -/
def faceWalksUptoCard : Claim7 := { stood := { row := faceWalksUptoRow, standIns := [], harness := (true, "5225a3622a991787df47b9151104052218fbccf75cda2adb9adc4b2a3cb158ff"), looks := true }, kinds := [], alts := [], laidByText := true, laidKinds := [.handle], laidTests := true, laidLooks := .later }
def FaceWalksUptoCardSaid : Prop := Claim7.holds Tryd.pinned (.plain (OpenSpec.upto faceWalksSpec)) faceWalksUptoCard

/-- THE SECOND FORM's CARD OF 'plaitlaw11.FaceOnce'. -/
def faceOnceUptoCard : Claim7 := { stood := { row := faceOnceUptoRow, standIns := [], harness := (true, "5225a3622a991787df47b9151104052218fbccf75cda2adb9adc4b2a3cb158ff"), looks := true }, kinds := [], alts := [], laidByText := true, laidKinds := [.handle], laidTests := true, laidLooks := .later }
def FaceOnceUptoCardSaid : Prop := Claim7.holds Tryd.pinned (.plain (OpenSpec.upto faceOnceSpec)) faceOnceUptoCard

/-- THE SECOND FORM's CARD OF 'plaitlaw11.FaceNexts'. -/
def faceNextsUptoCard : Claim7 := { stood := { row := faceNextsUptoRow, standIns := [], harness := (true, "5225a3622a991787df47b9151104052218fbccf75cda2adb9adc4b2a3cb158ff"), looks := true }, kinds := [], alts := [], laidByText := true, laidKinds := [.handle], laidTests := true, laidLooks := .later }
def FaceNextsUptoCardSaid : Prop := Claim7.holds Tryd.pinned (.plain (OpenSpec.upto faceNextsSpec)) faceNextsUptoCard

/-- THE SECOND FORM's CARD OF 'plaitlaw10.TurnCopies'. -/
def turnCopiesUptoCard : Claim7 := { stood := { row := turnCopiesUptoRow, standIns := [], harness := (true, "5225a3622a991787df47b9151104052218fbccf75cda2adb9adc4b2a3cb158ff"), looks := true }, kinds := [], alts := [], laidByText := true, laidKinds := [.handle], laidTests := true, laidLooks := .later }
def TurnCopiesUptoCardSaid : Prop := Claim7.holds Tryd.pinned (.plain (OpenSpec.upto turnCopiesSpec)) turnCopiesUptoCard

/-- THE SECOND FORM's CARD OF 'plaitlaw11.FaceAts'. -/
def faceAtsUptoCard : Claim7 := { stood := { row := faceAtsUptoRow, standIns := [], harness := (true, "5225a3622a991787df47b9151104052218fbccf75cda2adb9adc4b2a3cb158ff"), looks := true }, kinds := [], alts := [], laidByText := true, laidKinds := [.handle], laidTests := true, laidLooks := .later }
def FaceAtsUptoCardSaid : Prop := Claim7.holds Tryd.pinned (.plain (OpenSpec.upto faceAtsSpec)) faceAtsUptoCard

/-- THE SECOND FORM's CARD OF 'plaitlaw11.FaceCorners'. -/
def faceCornersUptoCard : Claim7 := { stood := { row := faceCornersUptoRow, standIns := [], harness := (true, "5225a3622a991787df47b9151104052218fbccf75cda2adb9adc4b2a3cb158ff"), looks := true }, kinds := [], alts := [], laidByText := true, laidKinds := [.handle], laidTests := true, laidLooks := .later }
def FaceCornersUptoCardSaid : Prop := Claim7.holds Tryd.pinned (.plain (OpenSpec.upto faceCornersSpec)) faceCornersUptoCard

/-- THE SECOND FORM's CARD OF 'plaitlaw11.FaceSplits'. -/
def faceSplitsUptoCard : Claim7 := { stood := { row := faceSplitsUptoRow, standIns := [], harness := (true, "5225a3622a991787df47b9151104052218fbccf75cda2adb9adc4b2a3cb158ff"), looks := true }, kinds := [], alts := [], laidByText := true, laidKinds := [.handle], laidTests := true, laidLooks := .later }
def FaceSplitsUptoCardSaid : Prop := Claim7.holds Tryd.pinned (.plain (OpenSpec.upto faceSplitsSpec)) faceSplitsUptoCard
end Rows
end Go.Proofs.YtjmkejkhpdhhbaaDoor
