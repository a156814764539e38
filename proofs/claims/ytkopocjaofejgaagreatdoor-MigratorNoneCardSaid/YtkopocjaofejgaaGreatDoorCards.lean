/-
  DERIVED. GIVEN WITH THE SEED: THE CARDS: each row of YtkopocjaofejgaaGreatDoorRows.lean that lists a variable, with what it lists TIED to the program's text (the seventh form; the later family's looks); each row that meets fmt, with fmt's text TOLD by the authors' own Lean function (tested against real Go, not proved from fmt's source: count such statements apart). THE CARD IS WHAT COUNTS. Prove the row's statement (the work); the ties are given (YtkopocjaofejgaaGreatDoorTie.lean); close each card by the builder's one call (the guide's Derived/Test/ToyasCard.lean, 'card_holds'). Laid BY PROGRAM, IN A SANDBOX (cutbox-door.mjs). By AI agents, Wed Nov 11 2026. No macro, syntax, notation, axiom, sorry.
-/
import Derived.Test.YtkopocjaofejgaaGreatDoorRows
import GoSem.ClaimSeven
namespace Go.Proofs.YtkopocjaofejgaaGreatDoor
namespace Rows

/-- THE TIED CARD OF 'transomlaw33.MigratorNone'. -/
def migratorNoneCard : Claim7 := { stood := { row := migratorNoneRow, standIns := [], harness := (true, "68d50d6a516db3e82c0563c71a9b42c2d8040881885d4ae4f425877f48707d24"), looks := true }, kinds := [], alts := [], laidByText := true, laidKinds := [.handle], laidTests := true, laidLooks := .later }
def MigratorNoneCardSaid : Prop := Claim7.holds Tryz.pinned (.plain (OpenSpec.ofChange migratorNoneSpec)) migratorNoneCard

/-- THE TIED CARD OF 'transomlaw31.TxnNone'. -/
def txnNoneCard : Claim7 := { stood := { row := txnNoneRow, standIns := [], harness := (true, "68d50d6a516db3e82c0563c71a9b42c2d8040881885d4ae4f425877f48707d24"), looks := true }, kinds := [], alts := [], laidByText := true, laidKinds := [.handle], laidTests := true, laidLooks := .later }
def TxnNoneCardSaid : Prop := Claim7.holds Tryz.pinned (.plain (OpenSpec.ofChange txnNoneSpec)) txnNoneCard

/-- THE TIED CARD OF 'transomlaw32.SessionNone'. -/
def sessionNoneCard : Claim7 := { stood := { row := sessionNoneRow, standIns := [], harness := (true, "68d50d6a516db3e82c0563c71a9b42c2d8040881885d4ae4f425877f48707d24"), looks := true }, kinds := [], alts := [], laidByText := true, laidKinds := [.handle], laidTests := true, laidLooks := .later }
def SessionNoneCardSaid : Prop := Claim7.holds Tryz.pinned (.plain (OpenSpec.ofChange sessionNoneSpec)) sessionNoneCard

/-- THE TIED CARD OF 'transomlaw35.EngineNone'. -/
def engineNoneCard : Claim7 := { stood := { row := engineNoneRow, standIns := [], harness := (true, "68d50d6a516db3e82c0563c71a9b42c2d8040881885d4ae4f425877f48707d24"), looks := true }, kinds := [], alts := [], laidByText := true, laidKinds := [.handle], laidTests := true, laidLooks := .later }
def EngineNoneCardSaid : Prop := Claim7.holds Tryz.pinned (.plain (OpenSpec.ofChange engineNoneSpec)) engineNoneCard

/-- THE SECOND FORM's CARD OF 'transomlaw33.MigratorNone'. -/
def migratorNoneUptoCard : Claim7 := { stood := { row := migratorNoneUptoRow, standIns := [], harness := (true, "68d50d6a516db3e82c0563c71a9b42c2d8040881885d4ae4f425877f48707d24"), looks := true }, kinds := [], alts := [], laidByText := true, laidKinds := [.handle], laidTests := true, laidLooks := .later }
def MigratorNoneUptoCardSaid : Prop := Claim7.holds Tryz.pinned (.plain (OpenSpec.upto migratorNoneSpec)) migratorNoneUptoCard

/-- THE SECOND FORM's CARD OF 'transomlaw31.TxnNone'. -/
def txnNoneUptoCard : Claim7 := { stood := { row := txnNoneUptoRow, standIns := [], harness := (true, "68d50d6a516db3e82c0563c71a9b42c2d8040881885d4ae4f425877f48707d24"), looks := true }, kinds := [], alts := [], laidByText := true, laidKinds := [.handle], laidTests := true, laidLooks := .later }
def TxnNoneUptoCardSaid : Prop := Claim7.holds Tryz.pinned (.plain (OpenSpec.upto txnNoneSpec)) txnNoneUptoCard

/-- THE SECOND FORM's CARD OF 'transomlaw32.SessionNone'. -/
def sessionNoneUptoCard : Claim7 := { stood := { row := sessionNoneUptoRow, standIns := [], harness := (true, "68d50d6a516db3e82c0563c71a9b42c2d8040881885d4ae4f425877f48707d24"), looks := true }, kinds := [], alts := [], laidByText := true, laidKinds := [.handle], laidTests := true, laidLooks := .later }
def SessionNoneUptoCardSaid : Prop := Claim7.holds Tryz.pinned (.plain (OpenSpec.upto sessionNoneSpec)) sessionNoneUptoCard

/-- THE SECOND FORM's CARD OF 'transomlaw35.EngineNone'. -/
def engineNoneUptoCard : Claim7 := { stood := { row := engineNoneUptoRow, standIns := [], harness := (true, "68d50d6a516db3e82c0563c71a9b42c2d8040881885d4ae4f425877f48707d24"), looks := true }, kinds := [], alts := [], laidByText := true, laidKinds := [.handle], laidTests := true, laidLooks := .later }
def EngineNoneUptoCardSaid : Prop := Claim7.holds Tryz.pinned (.plain (OpenSpec.upto engineNoneSpec)) engineNoneUptoCard
end Rows
end Go.Proofs.YtkopocjaofejgaaGreatDoor
