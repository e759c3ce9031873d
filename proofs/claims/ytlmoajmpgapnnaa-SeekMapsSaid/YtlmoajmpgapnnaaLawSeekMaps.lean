/- Of whatever two lists of strings, SeekMaps answers true: codes of the one dictionary in the other, and both put together; no condition. -/
import Derived.Test.YtlmoajmpgapnnaaZ19
import Derived.Test.YtlmoajmpgapnnaaZ13
import Derived.Test.YtlmoajmpgapnnaaRows
import Derived.Test.YtlmoajmpgapnnaaChecked
import Derived.KernelRfl
namespace Go.Proofs.Ytlmoajmpgapnnaa
open Go Go.Fw Go.Proofs
open Go.ChangeShapes Go.WideShapes Go.ChangeAt Go.RowKit
set_option maxHeartbeats 400000
set_option maxRecDepth 100000
theorem own_seekMaps : ownKnob Try.prog.godebug = none := by kernel_rfl
theorem laidOut_seekMaps : laidOutB Try.prog = true := by kernel_rfl
theorem seekMaps_lifted (os : Os) (started : os.Started) (H : Type) (enc : TypeId × Value → H) :
    ReturnsInHanded {} Try.checked os 5 .any (Rows.seekMapsSpec.pre6 enc Try.prog Try.f5 Rows.seekMapsRow.domain false) (Rows.seekMapsSpec.post enc Try.prog Try.f5 false true false false) := by
  refine returnsInHanded_of_change_sized (C := Try.checked) own_seekMaps started (by kernel_rfl) Try.func5
    (ChangeSpec.witness6 (enc := enc) (C := Try.checked) false ⟨#[], #[.slice none 0 0, .slice none 0 0], []⟩ 8 (by kernel_rfl) (by kernel_rfl) (by kernel_rfl) (by kernel_rfl)) ?_
  intro W base args ds gs before hval hW hcnd hsz0 _
  have hW' := hW
  obtain ⟨p, q, hA, hV, rfl, hfz, hnd⟩ := hW
  obtain ⟨rfl, rfl⟩ := trodVars_none hV
  refine (law_calls (L := [22, 9, 4]) (by kernel_rfl) laidOut_seekMaps Try.func5 (by kernel_rfl) (by kernel_rfl) (by kernel_rfl) (by kernel_rfl) seekMaps_law hval hA (fun _ hx => absurd hx List.not_mem_nil)).mono fun e W' ⟨he, bel, ht⟩ => ?_
  subst he
  have hds : ∃ d0 d1, ds = [d0, d1] := by
    obtain ⟨v0, vs0, x0, ds0, p0, q0, _, rfl, _, _, r0⟩ := trodAll_cons hA
    obtain ⟨v1, vs1, x1, ds1, p1, q1, _, rfl, _, _, r1⟩ := trodAll_cons r0
    obtain ⟨_, rfl, _⟩ := trodAll_nil r1
    exact ⟨x0, x1, rfl⟩
  obtain ⟨d0, d1, rfl⟩ := hds
  exact ⟨_, rfl, _, _, _, [], _, [], hW', trodAll_mk1 (shut_bool Try.underlying4 _), ht, rfl, bel.frame _, fun h => by cases h⟩
theorem seekMaps_holds : Rows.SeekMapsSaid :=
  OpenClaim.holds_of_wide 5 Try.f5 rfl rfl rfl rfl rfl rfl rfl ⟨rfl, rfl, rfl, rfl, rfl⟩ rfl rfl rfl rfl rfl (by kernel_rfl) Try.func5 (by kernel_rfl)
    (of_decide_eq_true (by kernel_rfl)) (by unfold Func.isWrapper; first | (rw [if_pos (by decide +kernel)]; kernel_rfl) | (rw [if_neg (by decide +kernel)]; exact ⟨rfl, rfl⟩))
    (fun os started H enc _ => seekMaps_lifted os started H enc)
end Go.Proofs.Ytlmoajmpgapnnaa
