/-
  No cell of these rows narrows 'for every input' (looked for: loops, veiled, ifaces, maps, wideKeys, modest, calm, conditions, laid).
  DERIVED. THE GIVEN ROWS OF THIS SEAT. 5 by the template 'for every input the law returns true; each argument reads behind the call as it read before'; 0 by the template 'total and deterministic' (their statements: YtihbadicabmagaaTotals.lean).
  GIVEN WITH THE SEED: the statements are not yours to turn. If you find one false, say at which input.
  Laid BY PROGRAM, IN A SANDBOX (cutbox-rows.mjs): the forced cells as the released guide's own fill.sh prints them over the translation 2aff9b1176752306… (all of the seat's roots in one cut). By AI agents, Wed Nov 11 2026. No macro, syntax, notation, axiom, sorry.
-/
import Derived.Test.YtihbadicabmagaaChecked
import GoSem.Claim
import GoSem.ClaimJoined
import GoSem.ClaimMapViews
import Derived.JoinedTies
import Derived.KernelRfl
namespace Go.Proofs.Ytihbadicabmagaa
/- THE CELL 'sum', in the pinned program and in every row, IS THE sha256 OF THE DUMP (.gsa) THAT YtihbadicabmagaaProg.lean LOADS. Nothing in Lean hashes anything: it is a label: what it is worth is what the hold of that sum in a sandbox is worth. -/
noncomputable def Try.pinned : Pinned := { name := "ytihbadicabmagaa", sum := "2aff9b11767523064105d93e6b9e2cd2a8cd0914124d1e3e74ca667584a5121f", checked := Try.checked }
namespace Rows
def none {H : Type} : Left H := { results := [], args := [] }

/-- 'hopperlaw15.GramMakes': WHATEVER THE INPUT: true; the input reads as it did. -/
def gramMakesSpec : ChangeSpec := { name := "gramMakes", fn := fun _ => fun
  | [d1, d2] => { results := [.lit (.bool true)], args := [d1, d2] }
  | _ => none }
def gramMakesRow : OpenClaim := { program := "ytihbadicabmagaa", sum := "2aff9b11767523064105d93e6b9e2cd2a8cd0914124d1e3e74ca667584a5121f", func := "hopper/hopperlaw15.GramMakes", spec := "gramMakes", unfollowed := true, recurses := true, apart := false }
def GramMakesSaid : Prop := gramMakesRow.holds Try.pinned (OpenSpec.ofChange gramMakesSpec)

/-- ITS FALSE NEIGHBOUR: 'it returns false'. Refute it at one input. -/
def gramMakesWrong : ChangeSpec := { name := "gramMakes", fn := fun _ => fun
  | [d1, d2] => { results := [.lit (.bool false)], args := [d1, d2] }
  | _ => none }
def GramMakesWrongFalsely : Prop := gramMakesRow.holds Try.pinned (OpenSpec.ofChange gramMakesWrong)

/-- 'hopperlaw15.GramAsks': WHATEVER THE INPUT: true; the input reads as it did. -/
def gramAsksSpec : ChangeSpec := { name := "gramAsks", fn := fun _ => fun
  | [d1, d2, d3, d4] => { results := [.lit (.bool true)], args := [d1, d2, d3, d4] }
  | _ => none }
def gramAsksRow : OpenClaim := { program := "ytihbadicabmagaa", sum := "2aff9b11767523064105d93e6b9e2cd2a8cd0914124d1e3e74ca667584a5121f", func := "hopper/hopperlaw15.GramAsks", spec := "gramAsks", unfollowed := true, recurses := true, apart := false }
def GramAsksSaid : Prop := gramAsksRow.holds Try.pinned (OpenSpec.ofChange gramAsksSpec)

/-- ITS FALSE NEIGHBOUR: 'it returns false'. Refute it at one input. -/
def gramAsksWrong : ChangeSpec := { name := "gramAsks", fn := fun _ => fun
  | [d1, d2, d3, d4] => { results := [.lit (.bool false)], args := [d1, d2, d3, d4] }
  | _ => none }
def GramAsksWrongFalsely : Prop := gramAsksRow.holds Try.pinned (OpenSpec.ofChange gramAsksWrong)

/-- 'hopperlaw15.GramKeeps': WHATEVER THE INPUT: true; the input reads as it did. -/
def gramKeepsSpec : ChangeSpec := { name := "gramKeeps", fn := fun _ => fun
  | [d] => { results := [.lit (.bool true)], args := [d] }
  | _ => none }
def gramKeepsRow : OpenClaim := { program := "ytihbadicabmagaa", sum := "2aff9b11767523064105d93e6b9e2cd2a8cd0914124d1e3e74ca667584a5121f", func := "hopper/hopperlaw15.GramKeeps", spec := "gramKeeps", unfollowed := true, recurses := true, apart := false }
def GramKeepsSaid : Prop := gramKeepsRow.holds Try.pinned (OpenSpec.ofChange gramKeepsSpec)

/-- ITS FALSE NEIGHBOUR: 'it returns false'. Refute it at one input. -/
def gramKeepsWrong : ChangeSpec := { name := "gramKeeps", fn := fun _ => fun
  | [d] => { results := [.lit (.bool false)], args := [d] }
  | _ => none }
def GramKeepsWrongFalsely : Prop := gramKeepsRow.holds Try.pinned (OpenSpec.ofChange gramKeepsWrong)

/-- 'hopperlaw15.GramHolds': WHATEVER THE INPUT: true; the input reads as it did. -/
def gramHoldsSpec : ChangeSpec := { name := "gramHolds", fn := fun _ => fun
  | [d1, d2, d3] => { results := [.lit (.bool true)], args := [d1, d2, d3] }
  | _ => none }
def gramHoldsRow : OpenClaim := { program := "ytihbadicabmagaa", sum := "2aff9b11767523064105d93e6b9e2cd2a8cd0914124d1e3e74ca667584a5121f", func := "hopper/hopperlaw15.GramHolds", spec := "gramHolds", inPlace := ["internal/bytealg.IndexByteString", "internal/bytealg.IndexString"], unfollowed := true, recurses := true, named := ["internal/bytealg.MaxLen"], apart := false }
def GramHoldsSaid : Prop := gramHoldsRow.holds Try.pinned (OpenSpec.ofChange gramHoldsSpec)

/-- ITS FALSE NEIGHBOUR: 'it returns false'. Refute it at one input. -/
def gramHoldsWrong : ChangeSpec := { name := "gramHolds", fn := fun _ => fun
  | [d1, d2, d3] => { results := [.lit (.bool false)], args := [d1, d2, d3] }
  | _ => none }
def GramHoldsWrongFalsely : Prop := gramHoldsRow.holds Try.pinned (OpenSpec.ofChange gramHoldsWrong)

/-- 'hopperlaw15.GramBack': WHATEVER THE INPUT: true; the input reads as it did. -/
def gramBackSpec : ChangeSpec := { name := "gramBack", fn := fun _ => fun
  | [d1, d2, d3] => { results := [.lit (.bool true)], args := [d1, d2, d3] }
  | _ => none }
def gramBackRow : OpenClaim := { program := "ytihbadicabmagaa", sum := "2aff9b11767523064105d93e6b9e2cd2a8cd0914124d1e3e74ca667584a5121f", func := "hopper/hopperlaw15.GramBack", spec := "gramBack", unfollowed := true, recurses := true, apart := false }
def GramBackSaid : Prop := gramBackRow.holds Try.pinned (OpenSpec.ofChange gramBackSpec)

/-- ITS FALSE NEIGHBOUR: 'it returns false'. Refute it at one input. -/
def gramBackWrong : ChangeSpec := { name := "gramBack", fn := fun _ => fun
  | [d1, d2, d3] => { results := [.lit (.bool false)], args := [d1, d2, d3] }
  | _ => none }
def GramBackWrongFalsely : Prop := gramBackRow.holds Try.pinned (OpenSpec.ofChange gramBackWrong)

/- THE SECOND FORM. 'bulk': how many values and letters a reading holds, each counted each time it is reached (what is shared counts as often as it is met; a slice's spare places count too). A statement '..UptoSaid' is the law's where the arguments, and the package variables that the reading takes, are together of bulk at most 1048576: NARROWER than '..Said'. Prove '..Said' where nothing that the law and all that it calls make is longer than what came in: it says more and counts as full. Else prove '..UptoSaid'. A law counts once. -/
mutual
def uptoBulk {H : Type} : DataW H → Nat
  | .lit (.string bytes) => bytes.length + 1
  | .lit _ => 1
  | .nil => 1
  | .ptr d => uptoBulk d + 1
  | .slice elems spare => uptoBulkAll elems + uptoBulkAll spare + 1
  | .agg parts => uptoBulkAll parts + 1
  | .iface _ d => uptoBulk d + 1
  | .map entries => uptoBulkEntries entries + 1
  | .held _ => 1
def uptoBulkAll {H : Type} : List (DataW H) → Nat
  | [] => 0
  | d :: r => uptoBulk d + uptoBulkAll r
def uptoBulkEntries {H : Type} : List (Lit × DataW H) → Nat
  | [] => 0
  | x :: r => uptoBulkEntry x + uptoBulkEntries r
def uptoBulkEntry {H : Type} : Lit × DataW H → Nat
  | (.string bytes, d) => bytes.length + uptoBulk d + 1
  | (_, d) => uptoBulk d + 1
 end
def uptoSmall : (H : Type) → List (DataW H) → Bool := fun _ ds => decide (uptoBulkAll ds ≤ 1048576)
def OpenSpec.upto (s : _root_.Go.ChangeSpec) : _root_.Go.OpenSpec := { _root_.Go.OpenSpec.ofChange s with cond := some uptoSmall }

/-- 'hopperlaw15.GramMakes', WHERE WHAT IT READS IS OF BULK AT MOST 1048576: true; the input reads as it did. -/
def gramMakesUptoRow : OpenClaim := { program := "ytihbadicabmagaa", sum := "2aff9b11767523064105d93e6b9e2cd2a8cd0914124d1e3e74ca667584a5121f", func := "hopper/hopperlaw15.GramMakes", spec := "gramMakes", unfollowed := true, recurses := true, apart := false, narrowed := true }
def GramMakesUptoSaid : Prop := gramMakesUptoRow.holds Try.pinned (OpenSpec.upto gramMakesSpec)

/-- 'hopperlaw15.GramAsks', WHERE WHAT IT READS IS OF BULK AT MOST 1048576: true; the input reads as it did. -/
def gramAsksUptoRow : OpenClaim := { program := "ytihbadicabmagaa", sum := "2aff9b11767523064105d93e6b9e2cd2a8cd0914124d1e3e74ca667584a5121f", func := "hopper/hopperlaw15.GramAsks", spec := "gramAsks", unfollowed := true, recurses := true, apart := false, narrowed := true }
def GramAsksUptoSaid : Prop := gramAsksUptoRow.holds Try.pinned (OpenSpec.upto gramAsksSpec)

/-- 'hopperlaw15.GramKeeps', WHERE WHAT IT READS IS OF BULK AT MOST 1048576: true; the input reads as it did. -/
def gramKeepsUptoRow : OpenClaim := { program := "ytihbadicabmagaa", sum := "2aff9b11767523064105d93e6b9e2cd2a8cd0914124d1e3e74ca667584a5121f", func := "hopper/hopperlaw15.GramKeeps", spec := "gramKeeps", unfollowed := true, recurses := true, apart := false, narrowed := true }
def GramKeepsUptoSaid : Prop := gramKeepsUptoRow.holds Try.pinned (OpenSpec.upto gramKeepsSpec)

/-- 'hopperlaw15.GramHolds', WHERE WHAT IT READS IS OF BULK AT MOST 1048576: true; the input reads as it did. -/
def gramHoldsUptoRow : OpenClaim := { program := "ytihbadicabmagaa", sum := "2aff9b11767523064105d93e6b9e2cd2a8cd0914124d1e3e74ca667584a5121f", func := "hopper/hopperlaw15.GramHolds", spec := "gramHolds", inPlace := ["internal/bytealg.IndexByteString", "internal/bytealg.IndexString"], unfollowed := true, recurses := true, named := ["internal/bytealg.MaxLen"], apart := false, narrowed := true }
def GramHoldsUptoSaid : Prop := gramHoldsUptoRow.holds Try.pinned (OpenSpec.upto gramHoldsSpec)

/-- 'hopperlaw15.GramBack', WHERE WHAT IT READS IS OF BULK AT MOST 1048576: true; the input reads as it did. -/
def gramBackUptoRow : OpenClaim := { program := "ytihbadicabmagaa", sum := "2aff9b11767523064105d93e6b9e2cd2a8cd0914124d1e3e74ca667584a5121f", func := "hopper/hopperlaw15.GramBack", spec := "gramBack", unfollowed := true, recurses := true, apart := false, narrowed := true }
def GramBackUptoSaid : Prop := gramBackUptoRow.holds Try.pinned (OpenSpec.upto gramBackSpec)

end Rows
end Go.Proofs.Ytihbadicabmagaa
