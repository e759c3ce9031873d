/-
  No cell of these rows narrows 'for every input' (looked for: loops, veiled, ifaces, maps, wideKeys, modest, calm, conditions, laid).
  DERIVED. THE GIVEN ROWS OF THIS SEAT. 6 by the template 'for every input the law returns true; each argument reads behind the call as it read before'; 0 by the template 'total and deterministic' (their statements: YtcnlanaahhkhfabTotals.lean).
  GIVEN WITH THE SEED: the statements are not yours to turn. If you find one false, say at which input.
  Laid BY PROGRAM, IN A SANDBOX (cutbox-rows.mjs): the forced cells as the released guide's own fill.sh prints them over the translation 3b08557524ce9d4b… (all of the seat's roots in one cut). By AI agents, Wed Nov 11 2026. No macro, syntax, notation, axiom, sorry.
-/
import Derived.Test.YtcnlanaahhkhfabChecked
import GoSem.Claim
import GoSem.ClaimJoined
import GoSem.ClaimMapViews
import Derived.JoinedTies
import Derived.KernelRfl
namespace Go.Proofs.Ytcnlanaahhkhfab
/- THE CELL 'sum', in the pinned program and in every row, IS THE sha256 OF THE DUMP (.gsa) THAT YtcnlanaahhkhfabProg.lean LOADS. Nothing in Lean hashes anything: it is a label: what it is worth is what the hold of that sum in a sandbox is worth. -/
noncomputable def Try.pinned : Pinned := { name := "ytcnlanaahhkhfab", sum := "3b08557524ce9d4bd9eec2426f70e38893e77aa39970994c699da8022672a0e7", checked := Try.checked }
namespace Rows
def none {H : Type} : Left H := { results := [], args := [] }

/-- 'hopperlaw10.SymbolPuts': WHATEVER THE INPUT: true; the input reads as it did. -/
def symbolPutsSpec : ChangeSpec := { name := "symbolPuts", fn := fun _ => fun
  | [d] => { results := [.lit (.bool true)], args := [d] }
  | _ => none }
def symbolPutsRow : OpenClaim := { program := "ytcnlanaahhkhfab", sum := "3b08557524ce9d4bd9eec2426f70e38893e77aa39970994c699da8022672a0e7", func := "hopper/hopperlaw10.SymbolPuts", spec := "symbolPuts", recurses := true, apart := false }
def SymbolPutsSaid : Prop := symbolPutsRow.holds Try.pinned (OpenSpec.ofChange symbolPutsSpec)

/-- ITS FALSE NEIGHBOUR: 'it returns false'. Refute it at one input. -/
def symbolPutsWrong : ChangeSpec := { name := "symbolPuts", fn := fun _ => fun
  | [d] => { results := [.lit (.bool false)], args := [d] }
  | _ => none }
def SymbolPutsWrongFalsely : Prop := symbolPutsRow.holds Try.pinned (OpenSpec.ofChange symbolPutsWrong)

/-- 'hopperlaw10.SymbolOrders': WHATEVER THE INPUT: true; the input reads as it did. -/
def symbolOrdersSpec : ChangeSpec := { name := "symbolOrders", fn := fun _ => fun
  | [d] => { results := [.lit (.bool true)], args := [d] }
  | _ => none }
def symbolOrdersRow : OpenClaim := { program := "ytcnlanaahhkhfab", sum := "3b08557524ce9d4bd9eec2426f70e38893e77aa39970994c699da8022672a0e7", func := "hopper/hopperlaw10.SymbolOrders", spec := "symbolOrders", recurses := true, apart := false }
def SymbolOrdersSaid : Prop := symbolOrdersRow.holds Try.pinned (OpenSpec.ofChange symbolOrdersSpec)

/-- ITS FALSE NEIGHBOUR: 'it returns false'. Refute it at one input. -/
def symbolOrdersWrong : ChangeSpec := { name := "symbolOrders", fn := fun _ => fun
  | [d] => { results := [.lit (.bool false)], args := [d] }
  | _ => none }
def SymbolOrdersWrongFalsely : Prop := symbolOrdersRow.holds Try.pinned (OpenSpec.ofChange symbolOrdersWrong)

/-- 'hopperlaw10.SymbolLongest': WHATEVER THE INPUT: true; the input reads as it did. -/
def symbolLongestSpec : ChangeSpec := { name := "symbolLongest", fn := fun _ => fun
  | [d1, d2] => { results := [.lit (.bool true)], args := [d1, d2] }
  | _ => none }
def symbolLongestRow : OpenClaim := { program := "ytcnlanaahhkhfab", sum := "3b08557524ce9d4bd9eec2426f70e38893e77aa39970994c699da8022672a0e7", func := "hopper/hopperlaw10.SymbolLongest", spec := "symbolLongest", recurses := true, apart := false }
def SymbolLongestSaid : Prop := symbolLongestRow.holds Try.pinned (OpenSpec.ofChange symbolLongestSpec)

/-- ITS FALSE NEIGHBOUR: 'it returns false'. Refute it at one input. -/
def symbolLongestWrong : ChangeSpec := { name := "symbolLongest", fn := fun _ => fun
  | [d1, d2] => { results := [.lit (.bool false)], args := [d1, d2] }
  | _ => none }
def SymbolLongestWrongFalsely : Prop := symbolLongestRow.holds Try.pinned (OpenSpec.ofChange symbolLongestWrong)

/-- 'hopperlaw10.SymbolKeeps': WHATEVER THE INPUT: true; the input reads as it did. -/
def symbolKeepsSpec : ChangeSpec := { name := "symbolKeeps", fn := fun _ => fun
  | [d] => { results := [.lit (.bool true)], args := [d] }
  | _ => none }
def symbolKeepsRow : OpenClaim := { program := "ytcnlanaahhkhfab", sum := "3b08557524ce9d4bd9eec2426f70e38893e77aa39970994c699da8022672a0e7", func := "hopper/hopperlaw10.SymbolKeeps", spec := "symbolKeeps", recurses := true, apart := false }
def SymbolKeepsSaid : Prop := symbolKeepsRow.holds Try.pinned (OpenSpec.ofChange symbolKeepsSpec)

/-- ITS FALSE NEIGHBOUR: 'it returns false'. Refute it at one input. -/
def symbolKeepsWrong : ChangeSpec := { name := "symbolKeeps", fn := fun _ => fun
  | [d] => { results := [.lit (.bool false)], args := [d] }
  | _ => none }
def SymbolKeepsWrongFalsely : Prop := symbolKeepsRow.holds Try.pinned (OpenSpec.ofChange symbolKeepsWrong)

/-- 'hopperlaw10.SymbolGets': WHATEVER THE INPUT: true; the input reads as it did. -/
def symbolGetsSpec : ChangeSpec := { name := "symbolGets", fn := fun _ => fun
  | [d] => { results := [.lit (.bool true)], args := [d] }
  | _ => none }
def symbolGetsRow : OpenClaim := { program := "ytcnlanaahhkhfab", sum := "3b08557524ce9d4bd9eec2426f70e38893e77aa39970994c699da8022672a0e7", func := "hopper/hopperlaw10.SymbolGets", spec := "symbolGets", recurses := true, apart := false }
def SymbolGetsSaid : Prop := symbolGetsRow.holds Try.pinned (OpenSpec.ofChange symbolGetsSpec)

/-- ITS FALSE NEIGHBOUR: 'it returns false'. Refute it at one input. -/
def symbolGetsWrong : ChangeSpec := { name := "symbolGets", fn := fun _ => fun
  | [d] => { results := [.lit (.bool false)], args := [d] }
  | _ => none }
def SymbolGetsWrongFalsely : Prop := symbolGetsRow.holds Try.pinned (OpenSpec.ofChange symbolGetsWrong)

/-- 'hopperlaw10.SymbolBack': WHATEVER THE INPUT: true; the input reads as it did. -/
def symbolBackSpec : ChangeSpec := { name := "symbolBack", fn := fun _ => fun
  | [d1, d2] => { results := [.lit (.bool true)], args := [d1, d2] }
  | _ => none }
def symbolBackRow : OpenClaim := { program := "ytcnlanaahhkhfab", sum := "3b08557524ce9d4bd9eec2426f70e38893e77aa39970994c699da8022672a0e7", func := "hopper/hopperlaw10.SymbolBack", spec := "symbolBack", recurses := true, apart := false }
def SymbolBackSaid : Prop := symbolBackRow.holds Try.pinned (OpenSpec.ofChange symbolBackSpec)

/-- ITS FALSE NEIGHBOUR: 'it returns false'. Refute it at one input. -/
def symbolBackWrong : ChangeSpec := { name := "symbolBack", fn := fun _ => fun
  | [d1, d2] => { results := [.lit (.bool false)], args := [d1, d2] }
  | _ => none }
def SymbolBackWrongFalsely : Prop := symbolBackRow.holds Try.pinned (OpenSpec.ofChange symbolBackWrong)

/- THE SECOND FORM. 'bulk': how many values and letters a reading holds, each counted each time it is reached (what is shared counts as often as it is met; a slice's spare places count too). A statement '..UptoSaid' is the law's where the arguments, and the package variables that the reading takes, are together of bulk at most 1048576: NARROWER than '..Said'. Prove '..Said' where nothing that the law and all that it calls make is longer than what came in: it says more and counts as full. Else prove '..UptoSaid'. A law counts once. -/
mutual
def uptoBulk {H : Type} : DataW H → Nat
  | .lit (.string bytes) => bytes.length + 1
  | .lit _ => 1
  | .nil => 1
  | .ptr d => uptoBulk d + 1
  | .slice elems spare => uptoBulkAll elems + uptoBulkAll spare + 1
  | .agg parts => uptoBulkAll parts + 1
  | .iface _ d => uptoBulk d + 1
  | .map entries => uptoBulkEntries entries + 1
  | .held _ => 1
def uptoBulkAll {H : Type} : List (DataW H) → Nat
  | [] => 0
  | d :: r => uptoBulk d + uptoBulkAll r
def uptoBulkEntries {H : Type} : List (Lit × DataW H) → Nat
  | [] => 0
  | x :: r => uptoBulkEntry x + uptoBulkEntries r
def uptoBulkEntry {H : Type} : Lit × DataW H → Nat
  | (.string bytes, d) => bytes.length + uptoBulk d + 1
  | (_, d) => uptoBulk d + 1
 end
def uptoSmall : (H : Type) → List (DataW H) → Bool := fun _ ds => decide (uptoBulkAll ds ≤ 1048576)
def OpenSpec.upto (s : _root_.Go.ChangeSpec) : _root_.Go.OpenSpec := { _root_.Go.OpenSpec.ofChange s with cond := some uptoSmall }

/-- 'hopperlaw10.SymbolPuts', WHERE WHAT IT READS IS OF BULK AT MOST 1048576: true; the input reads as it did. -/
def symbolPutsUptoRow : OpenClaim := { program := "ytcnlanaahhkhfab", sum := "3b08557524ce9d4bd9eec2426f70e38893e77aa39970994c699da8022672a0e7", func := "hopper/hopperlaw10.SymbolPuts", spec := "symbolPuts", recurses := true, apart := false, narrowed := true }
def SymbolPutsUptoSaid : Prop := symbolPutsUptoRow.holds Try.pinned (OpenSpec.upto symbolPutsSpec)

/-- 'hopperlaw10.SymbolOrders', WHERE WHAT IT READS IS OF BULK AT MOST 1048576: true; the input reads as it did. -/
def symbolOrdersUptoRow : OpenClaim := { program := "ytcnlanaahhkhfab", sum := "3b08557524ce9d4bd9eec2426f70e38893e77aa39970994c699da8022672a0e7", func := "hopper/hopperlaw10.SymbolOrders", spec := "symbolOrders", recurses := true, apart := false, narrowed := true }
def SymbolOrdersUptoSaid : Prop := symbolOrdersUptoRow.holds Try.pinned (OpenSpec.upto symbolOrdersSpec)

/-- 'hopperlaw10.SymbolLongest', WHERE WHAT IT READS IS OF BULK AT MOST 1048576: true; the input reads as it did. -/
def symbolLongestUptoRow : OpenClaim := { program := "ytcnlanaahhkhfab", sum := "3b08557524ce9d4bd9eec2426f70e38893e77aa39970994c699da8022672a0e7", func := "hopper/hopperlaw10.SymbolLongest", spec := "symbolLongest", recurses := true, apart := false, narrowed := true }
def SymbolLongestUptoSaid : Prop := symbolLongestUptoRow.holds Try.pinned (OpenSpec.upto symbolLongestSpec)

/-- 'hopperlaw10.SymbolKeeps', WHERE WHAT IT READS IS OF BULK AT MOST 1048576: true; the input reads as it did. -/
def symbolKeepsUptoRow : OpenClaim := { program := "ytcnlanaahhkhfab", sum := "3b08557524ce9d4bd9eec2426f70e38893e77aa39970994c699da8022672a0e7", func := "hopper/hopperlaw10.SymbolKeeps", spec := "symbolKeeps", recurses := true, apart := false, narrowed := true }
def SymbolKeepsUptoSaid : Prop := symbolKeepsUptoRow.holds Try.pinned (OpenSpec.upto symbolKeepsSpec)

/-- 'hopperlaw10.SymbolGets', WHERE WHAT IT READS IS OF BULK AT MOST 1048576: true; the input reads as it did. -/
def symbolGetsUptoRow : OpenClaim := { program := "ytcnlanaahhkhfab", sum := "3b08557524ce9d4bd9eec2426f70e38893e77aa39970994c699da8022672a0e7", func := "hopper/hopperlaw10.SymbolGets", spec := "symbolGets", recurses := true, apart := false, narrowed := true }
def SymbolGetsUptoSaid : Prop := symbolGetsUptoRow.holds Try.pinned (OpenSpec.upto symbolGetsSpec)

/-- 'hopperlaw10.SymbolBack', WHERE WHAT IT READS IS OF BULK AT MOST 1048576: true; the input reads as it did. -/
def symbolBackUptoRow : OpenClaim := { program := "ytcnlanaahhkhfab", sum := "3b08557524ce9d4bd9eec2426f70e38893e77aa39970994c699da8022672a0e7", func := "hopper/hopperlaw10.SymbolBack", spec := "symbolBack", recurses := true, apart := false, narrowed := true }
def SymbolBackUptoSaid : Prop := symbolBackUptoRow.holds Try.pinned (OpenSpec.upto symbolBackSpec)

end Rows
end Go.Proofs.Ytcnlanaahhkhfab
