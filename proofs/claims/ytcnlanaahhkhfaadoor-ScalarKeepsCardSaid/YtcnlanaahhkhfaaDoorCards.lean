/-
  DERIVED. GIVEN WITH THE SEED: THE CARDS: each row of YtcnlanaahhkhfaaDoorRows.lean that lists a variable, with what it lists TIED to the program's text (the seventh form; the later family's looks); each row that meets fmt, with fmt's text TOLD by the authors' own Lean function (tested against real Go, not proved from fmt's source: count such statements apart). THE CARD IS WHAT COUNTS. Prove the row's statement (the work); the ties are given (YtcnlanaahhkhfaaDoorTie.lean); close each card by the builder's one call (the guide's Derived/Test/ToyasCard.lean, 'card_holds'). Laid BY PROGRAM, IN A SANDBOX (cutbox-door.mjs). By AI agents, Wed Nov 11 2026. No macro, syntax, notation, axiom, sorry.
-/
import Derived.Test.YtcnlanaahhkhfaaDoorRows
import GoSem.ClaimSeven
namespace Go.Proofs.YtcnlanaahhkhfaaDoor
namespace Rows

/-- THE TIED CARD OF 'hopperlaw20.ScalarRights'. -/
def scalarRightsCard : Claim7 := { stood := { row := scalarRightsRow, standIns := [], harness := (true, "aeb858b27ea730beb7a94c6efa67d7fdf272025f69f20890291feb2f55503435"), looks := false }, kinds := [], alts := [], laidByText := true, laidKinds := [.data, .data, .data], laidTests := true, laidLooks := .later }
def ScalarRightsCardSaid : Prop := Claim7.holds Tryd.pinned (.plain (OpenSpec.ofChange scalarRightsSpec)) scalarRightsCard

/-- THE TIED CARD OF 'hopperlaw20.ScalarValues'. -/
def scalarValuesCard : Claim7 := { stood := { row := scalarValuesRow, standIns := [], harness := (true, "aeb858b27ea730beb7a94c6efa67d7fdf272025f69f20890291feb2f55503435"), looks := false }, kinds := [], alts := [], laidByText := true, laidKinds := [.data, .data, .data], laidTests := true, laidLooks := .later }
def ScalarValuesCardSaid : Prop := Claim7.holds Tryd.pinned (.plain (OpenSpec.ofChange scalarValuesSpec)) scalarValuesCard

/-- THE TIED CARD OF 'hopperlaw20.ScalarRows'. -/
def scalarRowsCard : Claim7 := { stood := { row := scalarRowsRow, standIns := [], harness := (true, "aeb858b27ea730beb7a94c6efa67d7fdf272025f69f20890291feb2f55503435"), looks := false }, kinds := [], alts := [], laidByText := true, laidKinds := [.data, .data, .data], laidTests := true, laidLooks := .later }
def ScalarRowsCardSaid : Prop := Claim7.holds Tryd.pinned (.plain (OpenSpec.ofChange scalarRowsSpec)) scalarRowsCard

/-- THE TIED CARD OF 'hopperlaw20.ScalarLong'. -/
def scalarLongCard : Claim7 := { stood := { row := scalarLongRow, standIns := [], harness := (true, "aeb858b27ea730beb7a94c6efa67d7fdf272025f69f20890291feb2f55503435"), looks := false }, kinds := [], alts := [], laidByText := true, laidKinds := [.data, .data, .data], laidTests := true, laidLooks := .later }
def ScalarLongCardSaid : Prop := Claim7.holds Tryd.pinned (.plain (OpenSpec.ofChange scalarLongSpec)) scalarLongCard

/-- THE TIED CARD OF 'hopperlaw20.ScalarParts'. -/
def scalarPartsCard : Claim7 := { stood := { row := scalarPartsRow, standIns := [], harness := (true, "aeb858b27ea730beb7a94c6efa67d7fdf272025f69f20890291feb2f55503435"), looks := false }, kinds := [], alts := [], laidByText := true, laidKinds := [.data, .data, .data], laidTests := true, laidLooks := .later }
def ScalarPartsCardSaid : Prop := Claim7.holds Tryd.pinned (.plain (OpenSpec.ofChange scalarPartsSpec)) scalarPartsCard

/-- THE TIED CARD OF 'hopperlaw20.ScalarKeeps'. -/
def scalarKeepsCard : Claim7 := { stood := { row := scalarKeepsRow, standIns := [], harness := (true, "aeb858b27ea730beb7a94c6efa67d7fdf272025f69f20890291feb2f55503435"), looks := false }, kinds := [], alts := [], laidByText := true, laidKinds := [.data, .data, .data], laidTests := true, laidLooks := .later }
def ScalarKeepsCardSaid : Prop := Claim7.holds Tryd.pinned (.plain (OpenSpec.ofChange scalarKeepsSpec)) scalarKeepsCard

/-- THE SECOND FORM's CARD OF 'hopperlaw20.ScalarRights'. -/
def scalarRightsUptoCard : Claim7 := { stood := { row := scalarRightsUptoRow, standIns := [], harness := (true, "aeb858b27ea730beb7a94c6efa67d7fdf272025f69f20890291feb2f55503435"), looks := false }, kinds := [], alts := [], laidByText := true, laidKinds := [.data, .data, .data], laidTests := true, laidLooks := .later }
def ScalarRightsUptoCardSaid : Prop := Claim7.holds Tryd.pinned (.plain (OpenSpec.upto scalarRightsSpec)) scalarRightsUptoCard

/-- THE SECOND FORM's CARD OF 'hopperlaw20.ScalarValues'. -/
def scalarValuesUptoCard : Claim7 := { stood := { row := scalarValuesUptoRow, standIns := [], harness := (true, "aeb858b27ea730beb7a94c6efa67d7fdf272025f69f20890291feb2f55503435"), looks := false }, kinds := [], alts := [], laidByText := true, laidKinds := [.data, .data, .data], laidTests := true, laidLooks := .later }
def ScalarValuesUptoCardSaid : Prop := Claim7.holds Tryd.pinned (.plain (OpenSpec.upto scalarValuesSpec)) scalarValuesUptoCard

/-- THE SECOND FORM's CARD OF 'hopperlaw20.ScalarRows'. -/
def scalarRowsUptoCard : Claim7 := { stood := { row := scalarRowsUptoRow, standIns := [], harness := (true, "aeb858b27ea730beb7a94c6efa67d7fdf272025f69f20890291feb2f55503435"), looks := false }, kinds := [], alts := [], laidByText := true, laidKinds := [.data, .data, .data], laidTests := true, laidLooks := .later }
def ScalarRowsUptoCardSaid : Prop := Claim7.holds Tryd.pinned (.plain (OpenSpec.upto scalarRowsSpec)) scalarRowsUptoCard

/-- THE SECOND FORM's CARD OF 'hopperlaw20.ScalarLong'. -/
def scalarLongUptoCard : Claim7 := { stood := { row := scalarLongUptoRow, standIns := [], harness := (true, "aeb858b27ea730beb7a94c6efa67d7fdf272025f69f20890291feb2f55503435"), looks := false }, kinds := [], alts := [], laidByText := true, laidKinds := [.data, .data, .data], laidTests := true, laidLooks := .later }
def ScalarLongUptoCardSaid : Prop := Claim7.holds Tryd.pinned (.plain (OpenSpec.upto scalarLongSpec)) scalarLongUptoCard

/-- THE SECOND FORM's CARD OF 'hopperlaw20.ScalarParts'. -/
def scalarPartsUptoCard : Claim7 := { stood := { row := scalarPartsUptoRow, standIns := [], harness := (true, "aeb858b27ea730beb7a94c6efa67d7fdf272025f69f20890291feb2f55503435"), looks := false }, kinds := [], alts := [], laidByText := true, laidKinds := [.data, .data, .data], laidTests := true, laidLooks := .later }
def ScalarPartsUptoCardSaid : Prop := Claim7.holds Tryd.pinned (.plain (OpenSpec.upto scalarPartsSpec)) scalarPartsUptoCard

/-- THE SECOND FORM's CARD OF 'hopperlaw20.ScalarKeeps'. -/
def scalarKeepsUptoCard : Claim7 := { stood := { row := scalarKeepsUptoRow, standIns := [], harness := (true, "aeb858b27ea730beb7a94c6efa67d7fdf272025f69f20890291feb2f55503435"), looks := false }, kinds := [], alts := [], laidByText := true, laidKinds := [.data, .data, .data], laidTests := true, laidLooks := .later }
def ScalarKeepsUptoCardSaid : Prop := Claim7.holds Tryd.pinned (.plain (OpenSpec.upto scalarKeepsSpec)) scalarKeepsUptoCard
end Rows
end Go.Proofs.YtcnlanaahhkhfaaDoor
