/- Of whatever strings, bits, string and gram: gram.Grams are the string's grams, and gram.Has and gram.May answer as the document does. -/
import Derived.Test.YtihbadicabmagaaZ20
import Derived.Test.YtihbadicabmagaaZ14
import Derived.Test.YtihbadicabmagaaRows
import Derived.Test.YtihbadicabmagaaChecked
import Derived.KernelRfl
namespace Go.Proofs.Ytihbadicabmagaa
open Go Go.Fw Go.Proofs
open Go.ChangeShapes Go.WideShapes Go.ChangeAt Go.RowKit
set_option maxHeartbeats 400000
set_option maxRecDepth 100000
theorem own_gramAsks : ownKnob Try.prog.godebug = none := by kernel_rfl
theorem laidOut_gramAsks : laidOutB Try.prog = true := by kernel_rfl
theorem gramAsks_lifted (os : Os) (started : os.Started) (H : Type) (enc : TypeId × Value → H) :
    ReturnsInHanded {} Try.checked os 4 .any (Rows.gramAsksSpec.pre6 enc Try.prog Try.f4 Rows.gramAsksRow.domain false) (Rows.gramAsksSpec.post enc Try.prog Try.f4 false true false false) := by
  refine returnsInHanded_of_change_sized (C := Try.checked) own_gramAsks started (by kernel_rfl) Try.func4
    (ChangeSpec.witness6 (enc := enc) (C := Try.checked) false ⟨#[], #[.slice none 0 0, .int .u16 0, .string ⟨#[]⟩, .int .u32 0], []⟩ 8 (by kernel_rfl) (by kernel_rfl) (by kernel_rfl) (by kernel_rfl)) ?_
  intro W base args ds gs before hval hW hcnd hsz0 _
  have hW' := hW
  obtain ⟨p, q, hA, hV, rfl, hfz, hnd⟩ := hW
  obtain ⟨rfl, rfl⟩ := trodVars_none hV
  refine (law_calls (L := [22, 9, 35, 36, 4]) (by kernel_rfl) laidOut_gramAsks Try.func4 (by kernel_rfl) (by kernel_rfl) (by kernel_rfl) (by kernel_rfl) gramAsks_law hval hA (fun _ hx => absurd hx List.not_mem_nil)).mono fun e W' ⟨he, bel, ht⟩ => ?_
  subst he
  have hds : ∃ d0 d1 d2 d3, ds = [d0, d1, d2, d3] := by
    obtain ⟨v0, vs0, x0, ds0, p0, q0, _, rfl, _, _, r0⟩ := trodAll_cons hA
    obtain ⟨v1, vs1, x1, ds1, p1, q1, _, rfl, _, _, r1⟩ := trodAll_cons r0
    obtain ⟨v2, vs2, x2, ds2, p2, q2, _, rfl, _, _, r2⟩ := trodAll_cons r1
    obtain ⟨v3, vs3, x3, ds3, p3, q3, _, rfl, _, _, r3⟩ := trodAll_cons r2
    obtain ⟨_, rfl, _⟩ := trodAll_nil r3
    exact ⟨x0, x1, x2, x3, rfl⟩
  obtain ⟨d0, d1, d2, d3, rfl⟩ := hds
  exact ⟨_, rfl, _, _, _, [], _, [], hW', trodAll_mk1 (shut_bool Try.underlying4 _), ht, rfl, bel.frame _, fun h => by cases h⟩
theorem gramAsks_holds : Rows.GramAsksSaid :=
  OpenClaim.holds_of_wide 4 Try.f4 rfl rfl rfl rfl rfl rfl rfl ⟨rfl, rfl, rfl, rfl, rfl⟩ rfl rfl rfl rfl rfl (by kernel_rfl) Try.func4 (by kernel_rfl)
    (of_decide_eq_true (by kernel_rfl)) (by unfold Func.isWrapper; first | (rw [if_pos (by decide +kernel)]; kernel_rfl) | (rw [if_neg (by decide +kernel)]; exact ⟨rfl, rfl⟩))
    (fun os started H enc _ => gramAsks_lifted os started H enc)
end Go.Proofs.Ytihbadicabmagaa
