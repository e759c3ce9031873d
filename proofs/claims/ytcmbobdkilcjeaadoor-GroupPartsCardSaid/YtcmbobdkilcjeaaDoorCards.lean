/-
  DERIVED. GIVEN WITH THE SEED: THE CARDS: each row of YtcmbobdkilcjeaaDoorRows.lean that lists a variable, with what it lists TIED to the program's text (the seventh form; the later family's looks); each row that meets fmt, with fmt's text TOLD by the authors' own Lean function (tested against real Go, not proved from fmt's source: count such statements apart). THE CARD IS WHAT COUNTS. Prove the row's statement (the work); the ties are given (YtcmbobdkilcjeaaDoorTie.lean); close each card by the builder's one call (the guide's Derived/Test/ToyasCard.lean, 'card_holds'). Laid BY PROGRAM, IN A SANDBOX (cutbox-door.mjs). By AI agents, Wed Nov 11 2026. No macro, syntax, notation, axiom, sorry.
-/
import Derived.Test.YtcmbobdkilcjeaaDoorRows
import GoSem.ClaimSeven
namespace Go.Proofs.YtcmbobdkilcjeaaDoor
namespace Rows

/-- THE TIED CARD OF 'hopperlaw22.GroupBys'. -/
def groupBysCard : Claim7 := { stood := { row := groupBysRow, standIns := [], harness := (true, "b7e91edd5064253d0e2194815db2b742b1c436d122903a17b555db8f60e8c77d"), looks := false }, kinds := [], alts := [], laidByText := true, laidKinds := [.data, .data, .data], laidTests := true, laidLooks := .later }
def GroupBysCardSaid : Prop := Claim7.holds Tryd.pinned (.plain (OpenSpec.ofChange groupBysSpec)) groupBysCard

/-- THE TIED CARD OF 'hopperlaw22.GroupParts'. -/
def groupPartsCard : Claim7 := { stood := { row := groupPartsRow, standIns := [], harness := (true, "b7e91edd5064253d0e2194815db2b742b1c436d122903a17b555db8f60e8c77d"), looks := false }, kinds := [], alts := [], laidByText := true, laidKinds := [.data, .data, .data], laidTests := true, laidLooks := .later }
def GroupPartsCardSaid : Prop := Claim7.holds Tryd.pinned (.plain (OpenSpec.ofChange groupPartsSpec)) groupPartsCard

/-- THE TIED CARD OF 'hopperlaw22.GroupWhole'. -/
def groupWholeCard : Claim7 := { stood := { row := groupWholeRow, standIns := [], harness := (true, "b7e91edd5064253d0e2194815db2b742b1c436d122903a17b555db8f60e8c77d"), looks := false }, kinds := [], alts := [], laidByText := true, laidKinds := [.data, .data, .data], laidTests := true, laidLooks := .later }
def GroupWholeCardSaid : Prop := Claim7.holds Tryd.pinned (.plain (OpenSpec.ofChange groupWholeSpec)) groupWholeCard

/-- THE TIED CARD OF 'hopperlaw22.GroupKeeps'. -/
def groupKeepsCard : Claim7 := { stood := { row := groupKeepsRow, standIns := [], harness := (true, "b7e91edd5064253d0e2194815db2b742b1c436d122903a17b555db8f60e8c77d"), looks := false }, kinds := [], alts := [], laidByText := true, laidKinds := [.data, .data, .data], laidTests := true, laidLooks := .later }
def GroupKeepsCardSaid : Prop := Claim7.holds Tryd.pinned (.plain (OpenSpec.ofChange groupKeepsSpec)) groupKeepsCard

/-- THE SECOND FORM's CARD OF 'hopperlaw22.GroupBys'. -/
def groupBysUptoCard : Claim7 := { stood := { row := groupBysUptoRow, standIns := [], harness := (true, "b7e91edd5064253d0e2194815db2b742b1c436d122903a17b555db8f60e8c77d"), looks := false }, kinds := [], alts := [], laidByText := true, laidKinds := [.data, .data, .data], laidTests := true, laidLooks := .later }
def GroupBysUptoCardSaid : Prop := Claim7.holds Tryd.pinned (.plain (OpenSpec.upto groupBysSpec)) groupBysUptoCard

/-- THE SECOND FORM's CARD OF 'hopperlaw22.GroupParts'. -/
def groupPartsUptoCard : Claim7 := { stood := { row := groupPartsUptoRow, standIns := [], harness := (true, "b7e91edd5064253d0e2194815db2b742b1c436d122903a17b555db8f60e8c77d"), looks := false }, kinds := [], alts := [], laidByText := true, laidKinds := [.data, .data, .data], laidTests := true, laidLooks := .later }
def GroupPartsUptoCardSaid : Prop := Claim7.holds Tryd.pinned (.plain (OpenSpec.upto groupPartsSpec)) groupPartsUptoCard

/-- THE SECOND FORM's CARD OF 'hopperlaw22.GroupWhole'. -/
def groupWholeUptoCard : Claim7 := { stood := { row := groupWholeUptoRow, standIns := [], harness := (true, "b7e91edd5064253d0e2194815db2b742b1c436d122903a17b555db8f60e8c77d"), looks := false }, kinds := [], alts := [], laidByText := true, laidKinds := [.data, .data, .data], laidTests := true, laidLooks := .later }
def GroupWholeUptoCardSaid : Prop := Claim7.holds Tryd.pinned (.plain (OpenSpec.upto groupWholeSpec)) groupWholeUptoCard

/-- THE SECOND FORM's CARD OF 'hopperlaw22.GroupKeeps'. -/
def groupKeepsUptoCard : Claim7 := { stood := { row := groupKeepsUptoRow, standIns := [], harness := (true, "b7e91edd5064253d0e2194815db2b742b1c436d122903a17b555db8f60e8c77d"), looks := false }, kinds := [], alts := [], laidByText := true, laidKinds := [.data, .data, .data], laidTests := true, laidLooks := .later }
def GroupKeepsUptoCardSaid : Prop := Claim7.holds Tryd.pinned (.plain (OpenSpec.upto groupKeepsSpec)) groupKeepsUptoCard
end Rows
end Go.Proofs.YtcmbobdkilcjeaaDoor
