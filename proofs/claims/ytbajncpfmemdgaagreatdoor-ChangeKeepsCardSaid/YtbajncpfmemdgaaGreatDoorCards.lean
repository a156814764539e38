/-
  DERIVED. GIVEN WITH THE SEED: THE CARDS: each row of YtbajncpfmemdgaaGreatDoorRows.lean that lists a variable, with what it lists TIED to the program's text (the seventh form; the later family's looks); each row that meets fmt, with fmt's text TOLD by the authors' own Lean function (tested against real Go, not proved from fmt's source: count such statements apart). THE CARD IS WHAT COUNTS. Prove the row's statement (the work); the ties are given (YtbajncpfmemdgaaGreatDoorTie.lean); close each card by the builder's one call (the guide's Derived/Test/ToyasCard.lean, 'card_holds'). Laid BY PROGRAM, IN A SANDBOX (cutbox-door.mjs). By AI agents, Wed Nov 11 2026. No macro, syntax, notation, axiom, sorry.
-/
import Derived.Test.YtbajncpfmemdgaaGreatDoorRows
import GoSem.ClaimSeven
namespace Go.Proofs.YtbajncpfmemdgaaGreatDoor
namespace Rows

/-- THE TIED CARD OF 'transomlaw38.SerialRises'. -/
def serialRisesCard : Claim7 := { stood := { row := serialRisesRow, standIns := [], harness := (true, "d6c19baefbe47bb8997dd6bb8371383e2aad68d5bd29c1f2a28d74dab8262904"), looks := true }, kinds := [], alts := [], laidByText := true, laidKinds := [.handle], laidTests := true, laidLooks := .later }
def SerialRisesCardSaid : Prop := Claim7.holds Tryz.pinned (.plain (OpenSpec.ofChange serialRisesSpec)) serialRisesCard

/-- THE TIED CARD OF 'transomlaw38.SerialMeans'. -/
def serialMeansCard : Claim7 := { stood := { row := serialMeansRow, standIns := [], harness := (true, "d6c19baefbe47bb8997dd6bb8371383e2aad68d5bd29c1f2a28d74dab8262904"), looks := true }, kinds := [], alts := [], laidByText := true, laidKinds := [.handle], laidTests := true, laidLooks := .later }
def SerialMeansCardSaid : Prop := Claim7.holds Tryz.pinned (.plain (OpenSpec.ofChange serialMeansSpec)) serialMeansCard

/-- THE TIED CARD OF 'transomlaw10.ChangeTargets'. -/
def changeTargetsCard : Claim7 := { stood := { row := changeTargetsRow, standIns := [], harness := (true, "d6c19baefbe47bb8997dd6bb8371383e2aad68d5bd29c1f2a28d74dab8262904"), looks := true }, kinds := [], alts := [], laidByText := true, laidKinds := [.handle], laidTests := true, laidLooks := .later }
def ChangeTargetsCardSaid : Prop := Claim7.holds Tryz.pinned (.plain (OpenSpec.ofChange changeTargetsSpec)) changeTargetsCard

/-- THE TIED CARD OF 'transomlaw10.ChangeApplies'. -/
def changeAppliesCard : Claim7 := { stood := { row := changeAppliesRow, standIns := [], harness := (true, "d6c19baefbe47bb8997dd6bb8371383e2aad68d5bd29c1f2a28d74dab8262904"), looks := true }, kinds := [], alts := [], laidByText := true, laidKinds := [.handle], laidTests := true, laidLooks := .later }
def ChangeAppliesCardSaid : Prop := Claim7.holds Tryz.pinned (.plain (OpenSpec.ofChange changeAppliesSpec)) changeAppliesCard

/-- THE TIED CARD OF 'transomlaw10.ChangeKeeps'. -/
def changeKeepsCard : Claim7 := { stood := { row := changeKeepsRow, standIns := [], harness := (true, "d6c19baefbe47bb8997dd6bb8371383e2aad68d5bd29c1f2a28d74dab8262904"), looks := true }, kinds := [], alts := [], laidByText := true, laidKinds := [.handle], laidTests := true, laidLooks := .later }
def ChangeKeepsCardSaid : Prop := Claim7.holds Tryz.pinned (.plain (OpenSpec.ofChange changeKeepsSpec)) changeKeepsCard

/-- THE TIED CARD OF 'transomlaw10.ChangeUndoes'. -/
def changeUndoesCard : Claim7 := { stood := { row := changeUndoesRow, standIns := [], harness := (true, "d6c19baefbe47bb8997dd6bb8371383e2aad68d5bd29c1f2a28d74dab8262904"), looks := true }, kinds := [], alts := [], laidByText := true, laidKinds := [.handle], laidTests := true, laidLooks := .later }
def ChangeUndoesCardSaid : Prop := Claim7.holds Tryz.pinned (.plain (OpenSpec.ofChange changeUndoesSpec)) changeUndoesCard

/-- THE TIED CARD OF 'transomlaw13.ModelDoes'. -/
def modelDoesCard : Claim7 := { stood := { row := modelDoesRow, standIns := [], harness := (true, "d6c19baefbe47bb8997dd6bb8371383e2aad68d5bd29c1f2a28d74dab8262904"), looks := true }, kinds := [], alts := [], laidByText := true, laidKinds := [.handle], laidTests := true, laidLooks := .later }
def ModelDoesCardSaid : Prop := Claim7.holds Tryz.pinned (.plain (OpenSpec.ofChange modelDoesSpec)) modelDoesCard

/-- THE TIED CARD OF 'transomlaw13.ModelBounds'. -/
def modelBoundsCard : Claim7 := { stood := { row := modelBoundsRow, standIns := [], harness := (true, "d6c19baefbe47bb8997dd6bb8371383e2aad68d5bd29c1f2a28d74dab8262904"), looks := true }, kinds := [], alts := [], laidByText := true, laidKinds := [.handle], laidTests := true, laidLooks := .later }
def ModelBoundsCardSaid : Prop := Claim7.holds Tryz.pinned (.plain (OpenSpec.ofChange modelBoundsSpec)) modelBoundsCard

/-- THE TIED CARD OF 'transomlaw13.ModelKeeps'. -/
def modelKeepsCard : Claim7 := { stood := { row := modelKeepsRow, standIns := [], harness := (true, "d6c19baefbe47bb8997dd6bb8371383e2aad68d5bd29c1f2a28d74dab8262904"), looks := true }, kinds := [], alts := [], laidByText := true, laidKinds := [.handle], laidTests := true, laidLooks := .later }
def ModelKeepsCardSaid : Prop := Claim7.holds Tryz.pinned (.plain (OpenSpec.ofChange modelKeepsSpec)) modelKeepsCard

/-- THE TIED CARD OF 'transomlaw13.ModelCounts'. -/
def modelCountsCard : Claim7 := { stood := { row := modelCountsRow, standIns := [], harness := (true, "d6c19baefbe47bb8997dd6bb8371383e2aad68d5bd29c1f2a28d74dab8262904"), looks := true }, kinds := [], alts := [], laidByText := true, laidKinds := [.handle], laidTests := true, laidLooks := .later }
def ModelCountsCardSaid : Prop := Claim7.holds Tryz.pinned (.plain (OpenSpec.ofChange modelCountsSpec)) modelCountsCard

/-- THE TIED CARD OF 'transomlaw13.ModelReads'. -/
def modelReadsCard : Claim7 := { stood := { row := modelReadsRow, standIns := [], harness := (true, "d6c19baefbe47bb8997dd6bb8371383e2aad68d5bd29c1f2a28d74dab8262904"), looks := true }, kinds := [], alts := [], laidByText := true, laidKinds := [.handle], laidTests := true, laidLooks := .later }
def ModelReadsCardSaid : Prop := Claim7.holds Tryz.pinned (.plain (OpenSpec.ofChange modelReadsSpec)) modelReadsCard

/-- THE TIED CARD OF 'transomlaw13.ModelRuns'. -/
def modelRunsCard : Claim7 := { stood := { row := modelRunsRow, standIns := [], harness := (true, "d6c19baefbe47bb8997dd6bb8371383e2aad68d5bd29c1f2a28d74dab8262904"), looks := true }, kinds := [], alts := [], laidByText := true, laidKinds := [.handle], laidTests := true, laidLooks := .later }
def ModelRunsCardSaid : Prop := Claim7.holds Tryz.pinned (.plain (OpenSpec.ofChange modelRunsSpec)) modelRunsCard

/-- THE SECOND FORM's CARD OF 'transomlaw38.SerialRises'. -/
def serialRisesUptoCard : Claim7 := { stood := { row := serialRisesUptoRow, standIns := [], harness := (true, "d6c19baefbe47bb8997dd6bb8371383e2aad68d5bd29c1f2a28d74dab8262904"), looks := true }, kinds := [], alts := [], laidByText := true, laidKinds := [.handle], laidTests := true, laidLooks := .later }
def SerialRisesUptoCardSaid : Prop := Claim7.holds Tryz.pinned (.plain (OpenSpec.upto serialRisesSpec)) serialRisesUptoCard

/-- THE SECOND FORM's CARD OF 'transomlaw38.SerialMeans'. -/
def serialMeansUptoCard : Claim7 := { stood := { row := serialMeansUptoRow, standIns := [], harness := (true, "d6c19baefbe47bb8997dd6bb8371383e2aad68d5bd29c1f2a28d74dab8262904"), looks := true }, kinds := [], alts := [], laidByText := true, laidKinds := [.handle], laidTests := true, laidLooks := .later }
def SerialMeansUptoCardSaid : Prop := Claim7.holds Tryz.pinned (.plain (OpenSpec.upto serialMeansSpec)) serialMeansUptoCard

/-- THE SECOND FORM's CARD OF 'transomlaw10.ChangeTargets'. -/
def changeTargetsUptoCard : Claim7 := { stood := { row := changeTargetsUptoRow, standIns := [], harness := (true, "d6c19baefbe47bb8997dd6bb8371383e2aad68d5bd29c1f2a28d74dab8262904"), looks := true }, kinds := [], alts := [], laidByText := true, laidKinds := [.handle], laidTests := true, laidLooks := .later }
def ChangeTargetsUptoCardSaid : Prop := Claim7.holds Tryz.pinned (.plain (OpenSpec.upto changeTargetsSpec)) changeTargetsUptoCard

/-- THE SECOND FORM's CARD OF 'transomlaw10.ChangeApplies'. -/
def changeAppliesUptoCard : Claim7 := { stood := { row := changeAppliesUptoRow, standIns := [], harness := (true, "d6c19baefbe47bb8997dd6bb8371383e2aad68d5bd29c1f2a28d74dab8262904"), looks := true }, kinds := [], alts := [], laidByText := true, laidKinds := [.handle], laidTests := true, laidLooks := .later }
def ChangeAppliesUptoCardSaid : Prop := Claim7.holds Tryz.pinned (.plain (OpenSpec.upto changeAppliesSpec)) changeAppliesUptoCard

/-- THE SECOND FORM's CARD OF 'transomlaw10.ChangeKeeps'. -/
def changeKeepsUptoCard : Claim7 := { stood := { row := changeKeepsUptoRow, standIns := [], harness := (true, "d6c19baefbe47bb8997dd6bb8371383e2aad68d5bd29c1f2a28d74dab8262904"), looks := true }, kinds := [], alts := [], laidByText := true, laidKinds := [.handle], laidTests := true, laidLooks := .later }
def ChangeKeepsUptoCardSaid : Prop := Claim7.holds Tryz.pinned (.plain (OpenSpec.upto changeKeepsSpec)) changeKeepsUptoCard

/-- THE SECOND FORM's CARD OF 'transomlaw10.ChangeUndoes'. -/
def changeUndoesUptoCard : Claim7 := { stood := { row := changeUndoesUptoRow, standIns := [], harness := (true, "d6c19baefbe47bb8997dd6bb8371383e2aad68d5bd29c1f2a28d74dab8262904"), looks := true }, kinds := [], alts := [], laidByText := true, laidKinds := [.handle], laidTests := true, laidLooks := .later }
def ChangeUndoesUptoCardSaid : Prop := Claim7.holds Tryz.pinned (.plain (OpenSpec.upto changeUndoesSpec)) changeUndoesUptoCard

/-- THE SECOND FORM's CARD OF 'transomlaw13.ModelDoes'. -/
def modelDoesUptoCard : Claim7 := { stood := { row := modelDoesUptoRow, standIns := [], harness := (true, "d6c19baefbe47bb8997dd6bb8371383e2aad68d5bd29c1f2a28d74dab8262904"), looks := true }, kinds := [], alts := [], laidByText := true, laidKinds := [.handle], laidTests := true, laidLooks := .later }
def ModelDoesUptoCardSaid : Prop := Claim7.holds Tryz.pinned (.plain (OpenSpec.upto modelDoesSpec)) modelDoesUptoCard

/-- THE SECOND FORM's CARD OF 'transomlaw13.ModelBounds'. -/
def modelBoundsUptoCard : Claim7 := { stood := { row := modelBoundsUptoRow, standIns := [], harness := (true, "d6c19baefbe47bb8997dd6bb8371383e2aad68d5bd29c1f2a28d74dab8262904"), looks := true }, kinds := [], alts := [], laidByText := true, laidKinds := [.handle], laidTests := true, laidLooks := .later }
def ModelBoundsUptoCardSaid : Prop := Claim7.holds Tryz.pinned (.plain (OpenSpec.upto modelBoundsSpec)) modelBoundsUptoCard

/-- THE SECOND FORM's CARD OF 'transomlaw13.ModelKeeps'. -/
def modelKeepsUptoCard : Claim7 := { stood := { row := modelKeepsUptoRow, standIns := [], harness := (true, "d6c19baefbe47bb8997dd6bb8371383e2aad68d5bd29c1f2a28d74dab8262904"), looks := true }, kinds := [], alts := [], laidByText := true, laidKinds := [.handle], laidTests := true, laidLooks := .later }
def ModelKeepsUptoCardSaid : Prop := Claim7.holds Tryz.pinned (.plain (OpenSpec.upto modelKeepsSpec)) modelKeepsUptoCard

/-- THE SECOND FORM's CARD OF 'transomlaw13.ModelCounts'. -/
def modelCountsUptoCard : Claim7 := { stood := { row := modelCountsUptoRow, standIns := [], harness := (true, "d6c19baefbe47bb8997dd6bb8371383e2aad68d5bd29c1f2a28d74dab8262904"), looks := true }, kinds := [], alts := [], laidByText := true, laidKinds := [.handle], laidTests := true, laidLooks := .later }
def ModelCountsUptoCardSaid : Prop := Claim7.holds Tryz.pinned (.plain (OpenSpec.upto modelCountsSpec)) modelCountsUptoCard

/-- THE SECOND FORM's CARD OF 'transomlaw13.ModelReads'. -/
def modelReadsUptoCard : Claim7 := { stood := { row := modelReadsUptoRow, standIns := [], harness := (true, "d6c19baefbe47bb8997dd6bb8371383e2aad68d5bd29c1f2a28d74dab8262904"), looks := true }, kinds := [], alts := [], laidByText := true, laidKinds := [.handle], laidTests := true, laidLooks := .later }
def ModelReadsUptoCardSaid : Prop := Claim7.holds Tryz.pinned (.plain (OpenSpec.upto modelReadsSpec)) modelReadsUptoCard

/-- THE SECOND FORM's CARD OF 'transomlaw13.ModelRuns'. -/
def modelRunsUptoCard : Claim7 := { stood := { row := modelRunsUptoRow, standIns := [], harness := (true, "d6c19baefbe47bb8997dd6bb8371383e2aad68d5bd29c1f2a28d74dab8262904"), looks := true }, kinds := [], alts := [], laidByText := true, laidKinds := [.handle], laidTests := true, laidLooks := .later }
def ModelRunsUptoCardSaid : Prop := Claim7.holds Tryz.pinned (.plain (OpenSpec.upto modelRunsSpec)) modelRunsUptoCard
end Rows
end Go.Proofs.YtbajncpfmemdgaaGreatDoor
