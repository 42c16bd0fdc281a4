/-
  DERIVED. GIVEN WITH THE SEED: THE CARDS: each row of YtdplphhlclhmfaaDoorRows.lean that lists a variable, with what it lists TIED to the program's text (the seventh form; the later family's looks); each row that meets fmt, with fmt's text TOLD by the authors' own Lean function (tested against real Go, not proved from fmt's source: count such statements apart). THE CARD IS WHAT COUNTS. Prove the row's statement (the work); the ties are given (YtdplphhlclhmfaaDoorTie.lean); close each card by the builder's one call (the guide's Derived/Test/ToyasCard.lean, 'card_holds'). Laid BY PROGRAM, IN A SANDBOX (cutbox-door.mjs). By AI agents, Wed Nov 11 2026. No macro, syntax, notation, axiom, sorry.
-/
import Derived.Test.YtdplphhlclhmfaaDoorRows
import GoSem.ClaimSeven
namespace Go.Proofs.YtdplphhlclhmfaaDoor
namespace Rows

/-- THE TIED CARD OF 'plaitlaw12.SphereCounts'. -/
def sphereCountsCard : Claim7 := { stood := { row := sphereCountsRow, standIns := [], harness := (true, "6054d9ecacc357dc485d9c05f9507a2e47444448ead5a6b9ce465f237c0c70e7"), looks := true }, kinds := [], alts := [], laidByText := true, laidKinds := [.handle], laidTests := true, laidLooks := .later }
def SphereCountsCardSaid : Prop := Claim7.holds Tryd.pinned (.plain (OpenSpec.ofChange sphereCountsSpec)) sphereCountsCard

/-- THE TIED CARD OF 'plaitlaw12.SphereLegals'. -/
def sphereLegalsCard : Claim7 := { stood := { row := sphereLegalsRow, standIns := [], harness := (true, "6054d9ecacc357dc485d9c05f9507a2e47444448ead5a6b9ce465f237c0c70e7"), looks := true }, kinds := [], alts := [], laidByText := true, laidKinds := [.handle], laidTests := true, laidLooks := .later }
def SphereLegalsCardSaid : Prop := Claim7.holds Tryd.pinned (.plain (OpenSpec.ofChange sphereLegalsSpec)) sphereLegalsCard

/-- THE TIED CARD OF 'plaitlaw12.SphereSteps'. -/
def sphereStepsCard : Claim7 := { stood := { row := sphereStepsRow, standIns := [], harness := (true, "6054d9ecacc357dc485d9c05f9507a2e47444448ead5a6b9ce465f237c0c70e7"), looks := true }, kinds := [], alts := [], laidByText := true, laidKinds := [.handle], laidTests := true, laidLooks := .later }
def SphereStepsCardSaid : Prop := Claim7.holds Tryd.pinned (.plain (OpenSpec.ofChange sphereStepsSpec)) sphereStepsCard

/-- THE TIED CARD OF 'plaitlaw15.KinBridges'. -/
def kinBridgesCard : Claim7 := { stood := { row := kinBridgesRow, standIns := [], harness := (true, "6054d9ecacc357dc485d9c05f9507a2e47444448ead5a6b9ce465f237c0c70e7"), looks := true }, kinds := [], alts := [], laidByText := true, laidKinds := [.handle], laidTests := true, laidLooks := .later }
def KinBridgesCardSaid : Prop := Claim7.holds Tryd.pinned (.plain (OpenSpec.ofChange kinBridgesSpec)) kinBridgesCard

/-- THE TIED CARD OF 'plaitlaw15.KinBare'. -/
def kinBareCard : Claim7 := { stood := { row := kinBareRow, standIns := [], harness := (true, "6054d9ecacc357dc485d9c05f9507a2e47444448ead5a6b9ce465f237c0c70e7"), looks := true }, kinds := [], alts := [], laidByText := true, laidKinds := [.handle], laidTests := true, laidLooks := .later }
def KinBareCardSaid : Prop := Claim7.holds Tryd.pinned (.plain (OpenSpec.ofChange kinBareSpec)) kinBareCard

/-- THE TIED CARD OF 'plaitlaw15.KinGroups'. -/
def kinGroupsCard : Claim7 := { stood := { row := kinGroupsRow, standIns := [], harness := (true, "6054d9ecacc357dc485d9c05f9507a2e47444448ead5a6b9ce465f237c0c70e7"), looks := true }, kinds := [], alts := [], laidByText := true, laidKinds := [.handle], laidTests := true, laidLooks := .later }
def KinGroupsCardSaid : Prop := Claim7.holds Tryd.pinned (.plain (OpenSpec.ofChange kinGroupsSpec)) kinGroupsCard

/-- THE TIED CARD OF 'plaitlaw15.KinRoads'. -/
def kinRoadsCard : Claim7 := { stood := { row := kinRoadsRow, standIns := [], harness := (true, "6054d9ecacc357dc485d9c05f9507a2e47444448ead5a6b9ce465f237c0c70e7"), looks := true }, kinds := [], alts := [], laidByText := true, laidKinds := [.handle], laidTests := true, laidLooks := .later }
def KinRoadsCardSaid : Prop := Claim7.holds Tryd.pinned (.plain (OpenSpec.ofChange kinRoadsSpec)) kinRoadsCard

/-- THE SECOND FORM's CARD OF 'plaitlaw12.SphereCounts'. -/
def sphereCountsUptoCard : Claim7 := { stood := { row := sphereCountsUptoRow, standIns := [], harness := (true, "6054d9ecacc357dc485d9c05f9507a2e47444448ead5a6b9ce465f237c0c70e7"), looks := true }, kinds := [], alts := [], laidByText := true, laidKinds := [.handle], laidTests := true, laidLooks := .later }
def SphereCountsUptoCardSaid : Prop := Claim7.holds Tryd.pinned (.plain (OpenSpec.upto sphereCountsSpec)) sphereCountsUptoCard

/-- THE SECOND FORM's CARD OF 'plaitlaw12.SphereLegals'. -/
def sphereLegalsUptoCard : Claim7 := { stood := { row := sphereLegalsUptoRow, standIns := [], harness := (true, "6054d9ecacc357dc485d9c05f9507a2e47444448ead5a6b9ce465f237c0c70e7"), looks := true }, kinds := [], alts := [], laidByText := true, laidKinds := [.handle], laidTests := true, laidLooks := .later }
def SphereLegalsUptoCardSaid : Prop := Claim7.holds Tryd.pinned (.plain (OpenSpec.upto sphereLegalsSpec)) sphereLegalsUptoCard

/-- THE SECOND FORM's CARD OF 'plaitlaw12.SphereSteps'. -/
def sphereStepsUptoCard : Claim7 := { stood := { row := sphereStepsUptoRow, standIns := [], harness := (true, "6054d9ecacc357dc485d9c05f9507a2e47444448ead5a6b9ce465f237c0c70e7"), looks := true }, kinds := [], alts := [], laidByText := true, laidKinds := [.handle], laidTests := true, laidLooks := .later }
def SphereStepsUptoCardSaid : Prop := Claim7.holds Tryd.pinned (.plain (OpenSpec.upto sphereStepsSpec)) sphereStepsUptoCard

/-- THE SECOND FORM's CARD OF 'plaitlaw15.KinBridges'. -/
def kinBridgesUptoCard : Claim7 := { stood := { row := kinBridgesUptoRow, standIns := [], harness := (true, "6054d9ecacc357dc485d9c05f9507a2e47444448ead5a6b9ce465f237c0c70e7"), looks := true }, kinds := [], alts := [], laidByText := true, laidKinds := [.handle], laidTests := true, laidLooks := .later }
def KinBridgesUptoCardSaid : Prop := Claim7.holds Tryd.pinned (.plain (OpenSpec.upto kinBridgesSpec)) kinBridgesUptoCard

/-- THE SECOND FORM's CARD OF 'plaitlaw15.KinBare'. -/
def kinBareUptoCard : Claim7 := { stood := { row := kinBareUptoRow, standIns := [], harness := (true, "6054d9ecacc357dc485d9c05f9507a2e47444448ead5a6b9ce465f237c0c70e7"), looks := true }, kinds := [], alts := [], laidByText := true, laidKinds := [.handle], laidTests := true, laidLooks := .later }
def KinBareUptoCardSaid : Prop := Claim7.holds Tryd.pinned (.plain (OpenSpec.upto kinBareSpec)) kinBareUptoCard

/-- THE SECOND FORM's CARD OF 'plaitlaw15.KinGroups'. -/
def kinGroupsUptoCard : Claim7 := { stood := { row := kinGroupsUptoRow, standIns := [], harness := (true, "6054d9ecacc357dc485d9c05f9507a2e47444448ead5a6b9ce465f237c0c70e7"), looks := true }, kinds := [], alts := [], laidByText := true, laidKinds := [.handle], laidTests := true, laidLooks := .later }
def KinGroupsUptoCardSaid : Prop := Claim7.holds Tryd.pinned (.plain (OpenSpec.upto kinGroupsSpec)) kinGroupsUptoCard

/-- THE SECOND FORM's CARD OF 'plaitlaw15.KinRoads'. -/
def kinRoadsUptoCard : Claim7 := { stood := { row := kinRoadsUptoRow, standIns := [], harness := (true, "6054d9ecacc357dc485d9c05f9507a2e47444448ead5a6b9ce465f237c0c70e7"), looks := true }, kinds := [], alts := [], laidByText := true, laidKinds := [.handle], laidTests := true, laidLooks := .later }
def KinRoadsUptoCardSaid : Prop := Claim7.holds Tryd.pinned (.plain (OpenSpec.upto kinRoadsSpec)) kinRoadsUptoCard
end Rows
end Go.Proofs.YtdplphhlclhmfaaDoor
