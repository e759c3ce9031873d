/-
  No cell of these rows narrows 'for every input' (looked for: loops, veiled, ifaces, maps, wideKeys, modest, calm, conditions, laid).
  DERIVED. THE GIVEN ROWS OF THIS SEAT. 5 by the template 'for every input the law returns true; each argument reads behind the call as it read before'; 0 by the template 'total and deterministic' (their statements: YtlmoajmpgapnnaaTotals.lean).
  GIVEN WITH THE SEED: the statements are not yours to turn. If you find one false, say at which input.
  Laid BY PROGRAM, IN A SANDBOX (cutbox-rows.mjs): the forced cells as the released guide's own fill.sh prints them over the translation b7648f75abb4b397… (all of the seat's roots in one cut). By AI agents, Wed Nov 11 2026. No macro, syntax, notation, axiom, sorry.
-/
import Derived.Test.YtlmoajmpgapnnaaChecked
import GoSem.Claim
import GoSem.ClaimJoined
import GoSem.ClaimMapViews
import Derived.JoinedTies
import Derived.KernelRfl
namespace Go.Proofs.Ytlmoajmpgapnnaa
/- THE CELL 'sum', in the pinned program and in every row, IS THE sha256 OF THE DUMP (.gsa) THAT YtlmoajmpgapnnaaProg.lean LOADS. Nothing in Lean hashes anything: it is a label: what it is worth is what the hold of that sum in a sandbox is worth. -/
noncomputable def Try.pinned : Pinned := { name := "ytlmoajmpgapnnaa", sum := "b7648f75abb4b3976b4c5f428138ef8ee9e6f6f09617ad4c4f6f6aa1c2931271", checked := Try.checked }
namespace Rows
def none {H : Type} : Left H := { results := [], args := [] }

/-- 'hopperlaw14.SeekCodes': WHATEVER THE INPUT: true; the input reads as it did. -/
def seekCodesSpec : ChangeSpec := { name := "seekCodes", fn := fun _ => fun
  | [d1, d2] => { results := [.lit (.bool true)], args := [d1, d2] }
  | _ => none }
def seekCodesRow : OpenClaim := { program := "ytlmoajmpgapnnaa", sum := "b7648f75abb4b3976b4c5f428138ef8ee9e6f6f09617ad4c4f6f6aa1c2931271", func := "hopper/hopperlaw14.SeekCodes", spec := "seekCodes", unfollowed := true, recurses := true, apart := false }
def SeekCodesSaid : Prop := seekCodesRow.holds Try.pinned (OpenSpec.ofChange seekCodesSpec)

/-- ITS FALSE NEIGHBOUR: 'it returns false'. Refute it at one input. -/
def seekCodesWrong : ChangeSpec := { name := "seekCodes", fn := fun _ => fun
  | [d1, d2] => { results := [.lit (.bool false)], args := [d1, d2] }
  | _ => none }
def SeekCodesWrongFalsely : Prop := seekCodesRow.holds Try.pinned (OpenSpec.ofChange seekCodesWrong)

/-- 'hopperlaw14.SeekPrefixes': WHATEVER THE INPUT: true; the input reads as it did. -/
def seekPrefixesSpec : ChangeSpec := { name := "seekPrefixes", fn := fun _ => fun
  | [d1, d2] => { results := [.lit (.bool true)], args := [d1, d2] }
  | _ => none }
def seekPrefixesRow : OpenClaim := { program := "ytlmoajmpgapnnaa", sum := "b7648f75abb4b3976b4c5f428138ef8ee9e6f6f09617ad4c4f6f6aa1c2931271", func := "hopper/hopperlaw14.SeekPrefixes", spec := "seekPrefixes", unfollowed := true, recurses := true, apart := false }
def SeekPrefixesSaid : Prop := seekPrefixesRow.holds Try.pinned (OpenSpec.ofChange seekPrefixesSpec)

/-- ITS FALSE NEIGHBOUR: 'it returns false'. Refute it at one input. -/
def seekPrefixesWrong : ChangeSpec := { name := "seekPrefixes", fn := fun _ => fun
  | [d1, d2] => { results := [.lit (.bool false)], args := [d1, d2] }
  | _ => none }
def SeekPrefixesWrongFalsely : Prop := seekPrefixesRow.holds Try.pinned (OpenSpec.ofChange seekPrefixesWrong)

/-- 'hopperlaw14.SeekMaps': WHATEVER THE INPUT: true; the input reads as it did. -/
def seekMapsSpec : ChangeSpec := { name := "seekMaps", fn := fun _ => fun
  | [d1, d2] => { results := [.lit (.bool true)], args := [d1, d2] }
  | _ => none }
def seekMapsRow : OpenClaim := { program := "ytlmoajmpgapnnaa", sum := "b7648f75abb4b3976b4c5f428138ef8ee9e6f6f09617ad4c4f6f6aa1c2931271", func := "hopper/hopperlaw14.SeekMaps", spec := "seekMaps", unfollowed := true, recurses := true, apart := false }
def SeekMapsSaid : Prop := seekMapsRow.holds Try.pinned (OpenSpec.ofChange seekMapsSpec)

/-- ITS FALSE NEIGHBOUR: 'it returns false'. Refute it at one input. -/
def seekMapsWrong : ChangeSpec := { name := "seekMaps", fn := fun _ => fun
  | [d1, d2] => { results := [.lit (.bool false)], args := [d1, d2] }
  | _ => none }
def SeekMapsWrongFalsely : Prop := seekMapsRow.holds Try.pinned (OpenSpec.ofChange seekMapsWrong)

/-- 'hopperlaw14.SeekBounds': WHATEVER THE INPUT: true; the input reads as it did. -/
def seekBoundsSpec : ChangeSpec := { name := "seekBounds", fn := fun _ => fun
  | [d1, d2] => { results := [.lit (.bool true)], args := [d1, d2] }
  | _ => none }
def seekBoundsRow : OpenClaim := { program := "ytlmoajmpgapnnaa", sum := "b7648f75abb4b3976b4c5f428138ef8ee9e6f6f09617ad4c4f6f6aa1c2931271", func := "hopper/hopperlaw14.SeekBounds", spec := "seekBounds", unfollowed := true, recurses := true, apart := false }
def SeekBoundsSaid : Prop := seekBoundsRow.holds Try.pinned (OpenSpec.ofChange seekBoundsSpec)

/-- ITS FALSE NEIGHBOUR: 'it returns false'. Refute it at one input. -/
def seekBoundsWrong : ChangeSpec := { name := "seekBounds", fn := fun _ => fun
  | [d1, d2] => { results := [.lit (.bool false)], args := [d1, d2] }
  | _ => none }
def SeekBoundsWrongFalsely : Prop := seekBoundsRow.holds Try.pinned (OpenSpec.ofChange seekBoundsWrong)

/-- 'hopperlaw14.SeekAll': WHATEVER THE INPUT: true; the input reads as it did. -/
def seekAllSpec : ChangeSpec := { name := "seekAll", fn := fun _ => fun
  | [d] => { results := [.lit (.bool true)], args := [d] }
  | _ => none }
def seekAllRow : OpenClaim := { program := "ytlmoajmpgapnnaa", sum := "b7648f75abb4b3976b4c5f428138ef8ee9e6f6f09617ad4c4f6f6aa1c2931271", func := "hopper/hopperlaw14.SeekAll", spec := "seekAll", unfollowed := true, recurses := true, apart := false }
def SeekAllSaid : Prop := seekAllRow.holds Try.pinned (OpenSpec.ofChange seekAllSpec)

/-- ITS FALSE NEIGHBOUR: 'it returns false'. Refute it at one input. -/
def seekAllWrong : ChangeSpec := { name := "seekAll", fn := fun _ => fun
  | [d] => { results := [.lit (.bool false)], args := [d] }
  | _ => none }
def SeekAllWrongFalsely : Prop := seekAllRow.holds Try.pinned (OpenSpec.ofChange seekAllWrong)

/- THE SECOND FORM. 'bulk': how many values and letters a reading holds, each counted each time it is reached (what is shared counts as often as it is met; a slice's spare places count too). A statement '..UptoSaid' is the law's where the arguments, and the package variables that the reading takes, are together of bulk at most 1048576: NARROWER than '..Said'. Prove '..Said' where nothing that the law and all that it calls make is longer than what came in: it says more and counts as full. Else prove '..UptoSaid'. A law counts once. -/
mutual
def uptoBulk {H : Type} : DataW H → Nat
  | .lit (.string bytes) => bytes.length + 1
  | .lit _ => 1
  | .nil => 1
  | .ptr d => uptoBulk d + 1
  | .slice elems spare => uptoBulkAll elems + uptoBulkAll spare + 1
  | .agg parts => uptoBulkAll parts + 1
  | .iface _ d => uptoBulk d + 1
  | .map entries => uptoBulkEntries entries + 1
  | .held _ => 1
def uptoBulkAll {H : Type} : List (DataW H) → Nat
  | [] => 0
  | d :: r => uptoBulk d + uptoBulkAll r
def uptoBulkEntries {H : Type} : List (Lit × DataW H) → Nat
  | [] => 0
  | x :: r => uptoBulkEntry x + uptoBulkEntries r
def uptoBulkEntry {H : Type} : Lit × DataW H → Nat
  | (.string bytes, d) => bytes.length + uptoBulk d + 1
  | (_, d) => uptoBulk d + 1
 end
def uptoSmall : (H : Type) → List (DataW H) → Bool := fun _ ds => decide (uptoBulkAll ds ≤ 1048576)
def OpenSpec.upto (s : _root_.Go.ChangeSpec) : _root_.Go.OpenSpec := { _root_.Go.OpenSpec.ofChange s with cond := some uptoSmall }

/-- 'hopperlaw14.SeekCodes', WHERE WHAT IT READS IS OF BULK AT MOST 1048576: true; the input reads as it did. -/
def seekCodesUptoRow : OpenClaim := { program := "ytlmoajmpgapnnaa", sum := "b7648f75abb4b3976b4c5f428138ef8ee9e6f6f09617ad4c4f6f6aa1c2931271", func := "hopper/hopperlaw14.SeekCodes", spec := "seekCodes", unfollowed := true, recurses := true, apart := false, narrowed := true }
def SeekCodesUptoSaid : Prop := seekCodesUptoRow.holds Try.pinned (OpenSpec.upto seekCodesSpec)

/-- 'hopperlaw14.SeekPrefixes', WHERE WHAT IT READS IS OF BULK AT MOST 1048576: true; the input reads as it did. -/
def seekPrefixesUptoRow : OpenClaim := { program := "ytlmoajmpgapnnaa", sum := "b7648f75abb4b3976b4c5f428138ef8ee9e6f6f09617ad4c4f6f6aa1c2931271", func := "hopper/hopperlaw14.SeekPrefixes", spec := "seekPrefixes", unfollowed := true, recurses := true, apart := false, narrowed := true }
def SeekPrefixesUptoSaid : Prop := seekPrefixesUptoRow.holds Try.pinned (OpenSpec.upto seekPrefixesSpec)

/-- 'hopperlaw14.SeekMaps', WHERE WHAT IT READS IS OF BULK AT MOST 1048576: true; the input reads as it did. -/
def seekMapsUptoRow : OpenClaim := { program := "ytlmoajmpgapnnaa", sum := "b7648f75abb4b3976b4c5f428138ef8ee9e6f6f09617ad4c4f6f6aa1c2931271", func := "hopper/hopperlaw14.SeekMaps", spec := "seekMaps", unfollowed := true, recurses := true, apart := false, narrowed := true }
def SeekMapsUptoSaid : Prop := seekMapsUptoRow.holds Try.pinned (OpenSpec.upto seekMapsSpec)

/-- 'hopperlaw14.SeekBounds', WHERE WHAT IT READS IS OF BULK AT MOST 1048576: true; the input reads as it did. -/
def seekBoundsUptoRow : OpenClaim := { program := "ytlmoajmpgapnnaa", sum := "b7648f75abb4b3976b4c5f428138ef8ee9e6f6f09617ad4c4f6f6aa1c2931271", func := "hopper/hopperlaw14.SeekBounds", spec := "seekBounds", unfollowed := true, recurses := true, apart := false, narrowed := true }
def SeekBoundsUptoSaid : Prop := seekBoundsUptoRow.holds Try.pinned (OpenSpec.upto seekBoundsSpec)

/-- 'hopperlaw14.SeekAll', WHERE WHAT IT READS IS OF BULK AT MOST 1048576: true; the input reads as it did. -/
def seekAllUptoRow : OpenClaim := { program := "ytlmoajmpgapnnaa", sum := "b7648f75abb4b3976b4c5f428138ef8ee9e6f6f09617ad4c4f6f6aa1c2931271", func := "hopper/hopperlaw14.SeekAll", spec := "seekAll", unfollowed := true, recurses := true, apart := false, narrowed := true }
def SeekAllUptoSaid : Prop := seekAllUptoRow.holds Try.pinned (OpenSpec.upto seekAllSpec)

end Rows
end Go.Proofs.Ytlmoajmpgapnnaa
