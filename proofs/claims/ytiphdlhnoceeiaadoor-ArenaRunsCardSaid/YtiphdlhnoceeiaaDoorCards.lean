/-
  DERIVED. GIVEN WITH THE SEED: THE CARDS: each row of YtiphdlhnoceeiaaDoorRows.lean that lists a variable, with what it lists TIED to the program's text (the seventh form; the later family's looks); each row that meets fmt, with fmt's text TOLD by the authors' own Lean function (tested against real Go, not proved from fmt's source: count such statements apart). THE CARD IS WHAT COUNTS. Prove the row's statement (the work); the ties are given (YtiphdlhnoceeiaaDoorTie.lean); close each card by the builder's one call (the guide's Derived/Test/ToyasCard.lean, 'card_holds'). Laid BY PROGRAM, IN A SANDBOX (cutbox-door.mjs). By AI agents, Wed Nov 11 2026. No macro, syntax, notation, axiom, sorry.
-/
import Derived.Test.YtiphdlhnoceeiaaDoorRows
import GoSem.ClaimSeven
namespace Go.Proofs.YtiphdlhnoceeiaaDoor
namespace Rows

/-- THE TIED CARD OF 'plaitlaw02.SlotsNexts'. -/
def slotsNextsCard : Claim7 := { stood := { row := slotsNextsRow, standIns := [], harness := (true, "9d210845a112f0c65e7f8a9da7fc0bfe95c232eb531fac1f5518acb9fd97e55f"), looks := true }, kinds := [], alts := [], laidByText := true, laidKinds := [.data], laidTests := true, laidLooks := .later }
def SlotsNextsCardSaid : Prop := Claim7.holds Tryd.pinned (.plain (OpenSpec.ofChange slotsNextsSpec)) slotsNextsCard

/-- THE TIED CARD OF 'plaitlaw02.SlotsOrder'. -/
def slotsOrderCard : Claim7 := { stood := { row := slotsOrderRow, standIns := [], harness := (true, "9d210845a112f0c65e7f8a9da7fc0bfe95c232eb531fac1f5518acb9fd97e55f"), looks := true }, kinds := [], alts := [], laidByText := true, laidKinds := [.data], laidTests := true, laidLooks := .later }
def SlotsOrderCardSaid : Prop := Claim7.holds Tryd.pinned (.plain (OpenSpec.ofChange slotsOrderSpec)) slotsOrderCard

/-- THE TIED CARD OF 'plaitlaw03.ArenaAges'. -/
def arenaAgesCard : Claim7 := { stood := { row := arenaAgesRow, standIns := [], harness := (true, "9d210845a112f0c65e7f8a9da7fc0bfe95c232eb531fac1f5518acb9fd97e55f"), looks := true }, kinds := [], alts := [], laidByText := true, laidKinds := [.data], laidTests := true, laidLooks := .later }
def ArenaAgesCardSaid : Prop := Claim7.holds Tryd.pinned (.plain (OpenSpec.ofChange arenaAgesSpec)) arenaAgesCard

/-- THE TIED CARD OF 'plaitlaw02.SlotsLowest'. -/
def slotsLowestCard : Claim7 := { stood := { row := slotsLowestRow, standIns := [], harness := (true, "9d210845a112f0c65e7f8a9da7fc0bfe95c232eb531fac1f5518acb9fd97e55f"), looks := true }, kinds := [], alts := [], laidByText := true, laidKinds := [.data, .handle], laidTests := true, laidLooks := .later }
def SlotsLowestCardSaid : Prop := Claim7.holds Tryd.pinned (.plain (OpenSpec.ofChange slotsLowestSpec)) slotsLowestCard

/-- THE TIED CARD OF 'plaitlaw02.SlotsFull'. -/
def slotsFullCard : Claim7 := { stood := { row := slotsFullRow, standIns := [], harness := (true, "9d210845a112f0c65e7f8a9da7fc0bfe95c232eb531fac1f5518acb9fd97e55f"), looks := true }, kinds := [], alts := [], laidByText := true, laidKinds := [.data, .handle], laidTests := true, laidLooks := .later }
def SlotsFullCardSaid : Prop := Claim7.holds Tryd.pinned (.plain (OpenSpec.ofChange slotsFullSpec)) slotsFullCard

/-- THE TIED CARD OF 'plaitlaw02.SlotsBack'. -/
def slotsBackCard : Claim7 := { stood := { row := slotsBackRow, standIns := [], harness := (true, "9d210845a112f0c65e7f8a9da7fc0bfe95c232eb531fac1f5518acb9fd97e55f"), looks := true }, kinds := [], alts := [], laidByText := true, laidKinds := [.data, .handle], laidTests := true, laidLooks := .later }
def SlotsBackCardSaid : Prop := Claim7.holds Tryd.pinned (.plain (OpenSpec.ofChange slotsBackSpec)) slotsBackCard

/-- THE TIED CARD OF 'plaitlaw02.SlotsRuns'. -/
def slotsRunsCard : Claim7 := { stood := { row := slotsRunsRow, standIns := [], harness := (true, "9d210845a112f0c65e7f8a9da7fc0bfe95c232eb531fac1f5518acb9fd97e55f"), looks := true }, kinds := [], alts := [], laidByText := true, laidKinds := [.data, .handle], laidTests := true, laidLooks := .later }
def SlotsRunsCardSaid : Prop := Claim7.holds Tryd.pinned (.plain (OpenSpec.ofChange slotsRunsSpec)) slotsRunsCard

/-- THE TIED CARD OF 'plaitlaw02.SlotsNew'. -/
def slotsNewCard : Claim7 := { stood := { row := slotsNewRow, standIns := [], harness := (true, "9d210845a112f0c65e7f8a9da7fc0bfe95c232eb531fac1f5518acb9fd97e55f"), looks := true }, kinds := [], alts := [], laidByText := true, laidKinds := [.data, .handle], laidTests := true, laidLooks := .later }
def SlotsNewCardSaid : Prop := Claim7.holds Tryd.pinned (.plain (OpenSpec.ofChange slotsNewSpec)) slotsNewCard

/-- THE TIED CARD OF 'plaitlaw03.ArenaNew'. -/
def arenaNewCard : Claim7 := { stood := { row := arenaNewRow, standIns := [], harness := (true, "9d210845a112f0c65e7f8a9da7fc0bfe95c232eb531fac1f5518acb9fd97e55f"), looks := true }, kinds := [], alts := [], laidByText := true, laidKinds := [.data, .handle], laidTests := true, laidLooks := .later }
def ArenaNewCardSaid : Prop := Claim7.holds Tryd.pinned (.plain (OpenSpec.ofChange arenaNewSpec)) arenaNewCard

/-- THE TIED CARD OF 'plaitlaw03.ArenaOnce'. -/
def arenaOnceCard : Claim7 := { stood := { row := arenaOnceRow, standIns := [], harness := (true, "9d210845a112f0c65e7f8a9da7fc0bfe95c232eb531fac1f5518acb9fd97e55f"), looks := true }, kinds := [], alts := [], laidByText := true, laidKinds := [.data, .handle], laidTests := true, laidLooks := .later }
def ArenaOnceCardSaid : Prop := Claim7.holds Tryd.pinned (.plain (OpenSpec.ofChange arenaOnceSpec)) arenaOnceCard

/-- THE TIED CARD OF 'plaitlaw03.ArenaWorn'. -/
def arenaWornCard : Claim7 := { stood := { row := arenaWornRow, standIns := [], harness := (true, "9d210845a112f0c65e7f8a9da7fc0bfe95c232eb531fac1f5518acb9fd97e55f"), looks := true }, kinds := [], alts := [], laidByText := true, laidKinds := [.data, .handle], laidTests := true, laidLooks := .later }
def ArenaWornCardSaid : Prop := Claim7.holds Tryd.pinned (.plain (OpenSpec.ofChange arenaWornSpec)) arenaWornCard

/-- THE TIED CARD OF 'plaitlaw03.ArenaRuns'. -/
def arenaRunsCard : Claim7 := { stood := { row := arenaRunsRow, standIns := [], harness := (true, "9d210845a112f0c65e7f8a9da7fc0bfe95c232eb531fac1f5518acb9fd97e55f"), looks := true }, kinds := [], alts := [], laidByText := true, laidKinds := [.data, .handle], laidTests := true, laidLooks := .later }
def ArenaRunsCardSaid : Prop := Claim7.holds Tryd.pinned (.plain (OpenSpec.ofChange arenaRunsSpec)) arenaRunsCard

/-- THE TIED CARD OF 'plaitlaw03.ArenaLoads'. -/
def arenaLoadsCard : Claim7 := { stood := { row := arenaLoadsRow, standIns := [], harness := (true, "9d210845a112f0c65e7f8a9da7fc0bfe95c232eb531fac1f5518acb9fd97e55f"), looks := true }, kinds := [], alts := [], laidByText := true, laidKinds := [.data, .handle], laidTests := true, laidLooks := .later }
def ArenaLoadsCardSaid : Prop := Claim7.holds Tryd.pinned (.plain (OpenSpec.ofChange arenaLoadsSpec)) arenaLoadsCard

/-- THE TIED CARD OF 'plaitlaw03.ArenaBack'. -/
def arenaBackCard : Claim7 := { stood := { row := arenaBackRow, standIns := [], harness := (true, "9d210845a112f0c65e7f8a9da7fc0bfe95c232eb531fac1f5518acb9fd97e55f"), looks := true }, kinds := [], alts := [], laidByText := true, laidKinds := [.data, .handle], laidTests := true, laidLooks := .later }
def ArenaBackCardSaid : Prop := Claim7.holds Tryd.pinned (.plain (OpenSpec.ofChange arenaBackSpec)) arenaBackCard

/-- THE TIED CARD OF 'plaitlaw03.ArenaFinds'. -/
def arenaFindsCard : Claim7 := { stood := { row := arenaFindsRow, standIns := [], harness := (true, "9d210845a112f0c65e7f8a9da7fc0bfe95c232eb531fac1f5518acb9fd97e55f"), looks := true }, kinds := [], alts := [], laidByText := true, laidKinds := [.data, .handle], laidTests := true, laidLooks := .later }
def ArenaFindsCardSaid : Prop := Claim7.holds Tryd.pinned (.plain (OpenSpec.ofChange arenaFindsSpec)) arenaFindsCard

/-- THE SECOND FORM's CARD OF 'plaitlaw02.SlotsNexts'. -/
def slotsNextsUptoCard : Claim7 := { stood := { row := slotsNextsUptoRow, standIns := [], harness := (true, "9d210845a112f0c65e7f8a9da7fc0bfe95c232eb531fac1f5518acb9fd97e55f"), looks := true }, kinds := [], alts := [], laidByText := true, laidKinds := [.data], laidTests := true, laidLooks := .later }
def SlotsNextsUptoCardSaid : Prop := Claim7.holds Tryd.pinned (.plain (OpenSpec.upto slotsNextsSpec)) slotsNextsUptoCard

/-- THE SECOND FORM's CARD OF 'plaitlaw02.SlotsOrder'. -/
def slotsOrderUptoCard : Claim7 := { stood := { row := slotsOrderUptoRow, standIns := [], harness := (true, "9d210845a112f0c65e7f8a9da7fc0bfe95c232eb531fac1f5518acb9fd97e55f"), looks := true }, kinds := [], alts := [], laidByText := true, laidKinds := [.data], laidTests := true, laidLooks := .later }
def SlotsOrderUptoCardSaid : Prop := Claim7.holds Tryd.pinned (.plain (OpenSpec.upto slotsOrderSpec)) slotsOrderUptoCard

/-- THE SECOND FORM's CARD OF 'plaitlaw03.ArenaAges'. -/
def arenaAgesUptoCard : Claim7 := { stood := { row := arenaAgesUptoRow, standIns := [], harness := (true, "9d210845a112f0c65e7f8a9da7fc0bfe95c232eb531fac1f5518acb9fd97e55f"), looks := true }, kinds := [], alts := [], laidByText := true, laidKinds := [.data], laidTests := true, laidLooks := .later }
def ArenaAgesUptoCardSaid : Prop := Claim7.holds Tryd.pinned (.plain (OpenSpec.upto arenaAgesSpec)) arenaAgesUptoCard

/-- THE SECOND FORM's CARD OF 'plaitlaw02.SlotsLowest'. -/
def slotsLowestUptoCard : Claim7 := { stood := { row := slotsLowestUptoRow, standIns := [], harness := (true, "9d210845a112f0c65e7f8a9da7fc0bfe95c232eb531fac1f5518acb9fd97e55f"), looks := true }, kinds := [], alts := [], laidByText := true, laidKinds := [.data, .handle], laidTests := true, laidLooks := .later }
def SlotsLowestUptoCardSaid : Prop := Claim7.holds Tryd.pinned (.plain (OpenSpec.upto slotsLowestSpec)) slotsLowestUptoCard

/-- THE SECOND FORM's CARD OF 'plaitlaw02.SlotsFull'. -/
def slotsFullUptoCard : Claim7 := { stood := { row := slotsFullUptoRow, standIns := [], harness := (true, "9d210845a112f0c65e7f8a9da7fc0bfe95c232eb531fac1f5518acb9fd97e55f"), looks := true }, kinds := [], alts := [], laidByText := true, laidKinds := [.data, .handle], laidTests := true, laidLooks := .later }
def SlotsFullUptoCardSaid : Prop := Claim7.holds Tryd.pinned (.plain (OpenSpec.upto slotsFullSpec)) slotsFullUptoCard

/-- THE SECOND FORM's CARD OF 'plaitlaw02.SlotsBack'. -/
def slotsBackUptoCard : Claim7 := { stood := { row := slotsBackUptoRow, standIns := [], harness := (true, "9d210845a112f0c65e7f8a9da7fc0bfe95c232eb531fac1f5518acb9fd97e55f"), looks := true }, kinds := [], alts := [], laidByText := true, laidKinds := [.data, .handle], laidTests := true, laidLooks := .later }
def SlotsBackUptoCardSaid : Prop := Claim7.holds Tryd.pinned (.plain (OpenSpec.upto slotsBackSpec)) slotsBackUptoCard

/-- THE SECOND FORM's CARD OF 'plaitlaw02.SlotsRuns'. -/
def slotsRunsUptoCard : Claim7 := { stood := { row := slotsRunsUptoRow, standIns := [], harness := (true, "9d210845a112f0c65e7f8a9da7fc0bfe95c232eb531fac1f5518acb9fd97e55f"), looks := true }, kinds := [], alts := [], laidByText := true, laidKinds := [.data, .handle], laidTests := true, laidLooks := .later }
def SlotsRunsUptoCardSaid : Prop := Claim7.holds Tryd.pinned (.plain (OpenSpec.upto slotsRunsSpec)) slotsRunsUptoCard

/-- THE SECOND FORM's CARD OF 'plaitlaw02.SlotsNew'. -/
def slotsNewUptoCard : Claim7 := { stood := { row := slotsNewUptoRow, standIns := [], harness := (true, "9d210845a112f0c65e7f8a9da7fc0bfe95c232eb531fac1f5518acb9fd97e55f"), looks := true }, kinds := [], alts := [], laidByText := true, laidKinds := [.data, .handle], laidTests := true, laidLooks := .later }
def SlotsNewUptoCardSaid : Prop := Claim7.holds Tryd.pinned (.plain (OpenSpec.upto slotsNewSpec)) slotsNewUptoCard

/-- THE SECOND FORM's CARD OF 'plaitlaw03.ArenaNew'. -/
def arenaNewUptoCard : Claim7 := { stood := { row := arenaNewUptoRow, standIns := [], harness := (true, "9d210845a112f0c65e7f8a9da7fc0bfe95c232eb531fac1f5518acb9fd97e55f"), looks := true }, kinds := [], alts := [], laidByText := true, laidKinds := [.data, .handle], laidTests := true, laidLooks := .later }
def ArenaNewUptoCardSaid : Prop := Claim7.holds Tryd.pinned (.plain (OpenSpec.upto arenaNewSpec)) arenaNewUptoCard

/-- THE SECOND FORM's CARD OF 'plaitlaw03.ArenaOnce'. -/
def arenaOnceUptoCard : Claim7 := { stood := { row := arenaOnceUptoRow, standIns := [], harness := (true, "9d210845a112f0c65e7f8a9da7fc0bfe95c232eb531fac1f5518acb9fd97e55f"), looks := true }, kinds := [], alts := [], laidByText := true, laidKinds := [.data, .handle], laidTests := true, laidLooks := .later }
def ArenaOnceUptoCardSaid : Prop := Claim7.holds Tryd.pinned (.plain (OpenSpec.upto arenaOnceSpec)) arenaOnceUptoCard

/-- THE SECOND FORM's CARD OF 'plaitlaw03.ArenaWorn'. -/
def arenaWornUptoCard : Claim7 := { stood := { row := arenaWornUptoRow, standIns := [], harness := (true, "9d210845a112f0c65e7f8a9da7fc0bfe95c232eb531fac1f5518acb9fd97e55f"), looks := true }, kinds := [], alts := [], laidByText := true, laidKinds := [.data, .handle], laidTests := true, laidLooks := .later }
def ArenaWornUptoCardSaid : Prop := Claim7.holds Tryd.pinned (.plain (OpenSpec.upto arenaWornSpec)) arenaWornUptoCard

/-- THE SECOND FORM's CARD OF 'plaitlaw03.ArenaRuns'. -/
def arenaRunsUptoCard : Claim7 := { stood := { row := arenaRunsUptoRow, standIns := [], harness := (true, "9d210845a112f0c65e7f8a9da7fc0bfe95c232eb531fac1f5518acb9fd97e55f"), looks := true }, kinds := [], alts := [], laidByText := true, laidKinds := [.data, .handle], laidTests := true, laidLooks := .later }
def ArenaRunsUptoCardSaid : Prop := Claim7.holds Tryd.pinned (.plain (OpenSpec.upto arenaRunsSpec)) arenaRunsUptoCard

/-- THE SECOND FORM's CARD OF 'plaitlaw03.ArenaLoads'. -/
def arenaLoadsUptoCard : Claim7 := { stood := { row := arenaLoadsUptoRow, standIns := [], harness := (true, "9d210845a112f0c65e7f8a9da7fc0bfe95c232eb531fac1f5518acb9fd97e55f"), looks := true }, kinds := [], alts := [], laidByText := true, laidKinds := [.data, .handle], laidTests := true, laidLooks := .later }
def ArenaLoadsUptoCardSaid : Prop := Claim7.holds Tryd.pinned (.plain (OpenSpec.upto arenaLoadsSpec)) arenaLoadsUptoCard

/-- THE SECOND FORM's CARD OF 'plaitlaw03.ArenaBack'. -/
def arenaBackUptoCard : Claim7 := { stood := { row := arenaBackUptoRow, standIns := [], harness := (true, "9d210845a112f0c65e7f8a9da7fc0bfe95c232eb531fac1f5518acb9fd97e55f"), looks := true }, kinds := [], alts := [], laidByText := true, laidKinds := [.data, .handle], laidTests := true, laidLooks := .later }
def ArenaBackUptoCardSaid : Prop := Claim7.holds Tryd.pinned (.plain (OpenSpec.upto arenaBackSpec)) arenaBackUptoCard

/-- THE SECOND FORM's CARD OF 'plaitlaw03.ArenaFinds'. -/
def arenaFindsUptoCard : Claim7 := { stood := { row := arenaFindsUptoRow, standIns := [], harness := (true, "9d210845a112f0c65e7f8a9da7fc0bfe95c232eb531fac1f5518acb9fd97e55f"), looks := true }, kinds := [], alts := [], laidByText := true, laidKinds := [.data, .handle], laidTests := true, laidLooks := .later }
def ArenaFindsUptoCardSaid : Prop := Claim7.holds Tryd.pinned (.plain (OpenSpec.upto arenaFindsSpec)) arenaFindsUptoCard
end Rows
end Go.Proofs.YtiphdlhnoceeiaaDoor
