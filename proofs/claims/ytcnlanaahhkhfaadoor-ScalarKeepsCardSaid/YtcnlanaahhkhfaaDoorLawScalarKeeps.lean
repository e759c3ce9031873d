/- Whatever it is given, the law ScalarKeeps answers true and leaves what it was given as it was, where the library's tables hold what the program's text lays. -/
import Derived.Test.YtcnlanaahhkhfaaDoorZ18
import Derived.Test.YtcnlanaahhkhfaaDoorZ13
import Derived.Test.YtcnlanaahhkhfaaDoorZ17
import Derived.Test.YtcnlanaahhkhfaaDoorRows
import Derived.Test.YtcnlanaahhkhfaaDoorCards
import Derived.Test.YtcnlanaahhkhfaaDoorTie
import Derived.Test.YtcnlanaahhkhfaaDoorChecked
import Derived.KernelRfl
import Derived.Lay
import Derived.LaidLaws
import Derived.Handed
import Derived.SevenTiedAt
import Derived.Stop.LaidErr
namespace Go.Proofs.YtcnlanaahhkhfaaDoor
open Go Go.Fw Go.Proofs
open Go.ChangeShapes Go.WideShapes Go.ChangeAt Go.RowKit
set_option maxHeartbeats 4000000
set_option maxRecDepth 100000
theorem tab0_datum : Rows.laid_internal_strconv_uint64pow10 (H := Unit) = Lib.tabData .u64 Lib.pow10Tab := by kernel_rfl
theorem tab0_scalarKeeps {W : World} (h : laidMetH Tryd.prog Rows.scalarKeepsRow.laid W) : Lib.TabIs Tryd.prog W "internal/strconv.uint64pow10" .u64 Lib.pow10Tab := by
  have h0 : laidMet Tryd.prog Rows.scalarKeepsRow.laid W := h
  have h1 := laidMet.tail h0
  have h2 := laidMet.tail h1
  exact Lib.tabIs_of_head (g := 0) (n := 20) (e := 69) (by kernel_rfl) (t := 76) (by kernel_rfl) (by kernel_rfl) (by kernel_rfl) (by kernel_rfl) (by kernel_rfl) (tab0_datum ▸ h2)
theorem own_scalarKeeps : ownKnob Tryd.prog.godebug = none := by kernel_rfl
theorem laidOut_scalarKeeps : laidOutB Tryd.prog = true := by kernel_rfl
theorem met_scalarKeeps (os : Os) : laidMetH Tryd.prog Rows.scalarKeepsRow.laid ((World.laidAll Tryd.prog os Rows.scalarKeepsRow.laid).forCall (fun _ _ => 0) ⟨#[], #[.slice none 0 0], []⟩).memory :=
  show laidMet _ _ _ from laidMet_laidAll #[.slice none 0 0] (by kernel_rfl) (by kernel_rfl)
theorem scalarKeeps_lifted (os : Os) (started : os.Started) (H : Type) (enc : TypeId × Value → H) :
    ReturnsInHanded {} Tryd.checked os 8 .any (fun w args => (Rows.scalarKeepsSpec.pre enc Tryd.prog Tryd.f8 Rows.scalarKeepsRow.domain false w args ∧ laidMetH Tryd.prog Rows.scalarKeepsRow.laid w) ∧ sizedMet enc Tryd.prog Tryd.f8 (OpenSpec.ofChange Rows.scalarKeepsSpec) false w args) (Rows.scalarKeepsSpec.post enc Tryd.prog Tryd.f8 false true false false) := by
  refine returnsInHanded_of_change_and (C := Tryd.checked) (X := fun w _ => laidMetH Tryd.prog Rows.scalarKeepsRow.laid w) (fun _ _ _ hh h => h.of_heap hh) own_scalarKeeps started (by kernel_rfl) Tryd.func8
    (ChangeSpec.witness_shaped (enc := enc) (C := Tryd.checked) (os := os) (X := fun w _ => laidMetH Tryd.prog Rows.scalarKeepsRow.laid w) false (World.laidAll Tryd.prog os Rows.scalarKeepsRow.laid) #[.slice none 0 0] 8 (World.laidAll_os _ _ _) (World.shaped_of_ZipB (by kernel_rfl) (by kernel_rfl)) (by kernel_rfl) (by kernel_rfl) (by kernel_rfl) (met_scalarKeeps os)) ?_
  intro W base args ds gs before hval hW hcnd hsz0 hL _
  have hW' := hW
  obtain ⟨p, q, hA, hV, rfl, hfz, hnd⟩ := hW
  obtain ⟨rfl, rfl⟩ := trodVars_none hV
  have hG : TabsG (fun b => b < W.heap.size) W := fun x hx => by
      simp only [tabList, List.mem_cons, List.not_mem_nil, or_false] at hx
      subst hx
      exact tabG_of (by kernel_rfl) (tab0_scalarKeeps hL)
  refine (law_calls (L := [28, 32, 4, 9]) (by kernel_rfl) laidOut_scalarKeeps Tryd.func8 (by kernel_rfl) (by kernel_rfl) (by kernel_rfl) (by kernel_rfl) scalarKeeps_law hval hA hG).mono fun e W' ⟨he, bel, ht⟩ => ?_
  subst he
  have hds : ∃ d0, ds = [d0] := by
    obtain ⟨v0, vs0, x0, ds0, p0, q0, _, rfl, _, _, r0⟩ := trodAll_cons hA
    obtain ⟨_, rfl, _⟩ := trodAll_nil r0
    exact ⟨x0, rfl⟩
  obtain ⟨d0, rfl⟩ := hds
  exact ⟨_, rfl, _, _, _, [], _, [], hW', trodAll_mk1 (shut_bool Tryd.underlying4 _), ht, rfl, bel.frame _, fun h => by cases h⟩
theorem scalarKeeps_row : Rows.ScalarKeepsSaid :=
  OpenClaim.holds_of_wide 8 Tryd.f8 rfl rfl rfl rfl rfl rfl rfl ⟨rfl, rfl, rfl, rfl, rfl⟩ rfl rfl rfl rfl rfl (by kernel_rfl) Tryd.func8 (by kernel_rfl)
    (of_decide_eq_true (by kernel_rfl)) (by unfold Func.isWrapper; first | (rw [if_pos (by decide +kernel)]; kernel_rfl) | (rw [if_neg (by decide +kernel)]; exact ⟨rfl, rfl⟩))
    (fun os started H enc _ => scalarKeeps_lifted os started H enc)
theorem scalarKeeps_holds : Rows.ScalarKeepsCardSaid :=
  Claim7.holds_tied_plain_at .later [] [.data, .data, .data] true (true, "aeb858b27ea730beb7a94c6efa67d7fdf272025f69f20890291feb2f55503435") false
    scalarKeeps_row (fun _ h => by cases h) (by kernel_rfl) (fun _ h => by cases h) scalarKeeps_row_tie rfl ⟨rfl, rfl⟩ (by kernel_rfl) rfl
    (fun f fn hf hfn => by
      obtain rfl : f = 8 := Option.some.inj ((show Tryd.prog.funcNamed Rows.scalarKeepsRow.func = some 8 by kernel_rfl).symm.trans hf) |>.symm
      obtain rfl : fn = Tryd.f8 := (Option.some.inj (Tryd.func8.symm.trans hfn)).symm
      exact ⟨by kernel_rfl, fun j t ht => by
        have hall : ∀ t ∈ Tryd.f8.params.toList, Tryd.prog.wantsStandIn t = false := fun t ht => of_all_false (by kernel_rfl) ht
        exact hall t (List.mem_of_getElem? (by simpa using ht))⟩)
    (by kernel_rfl)
end Go.Proofs.YtcnlanaahhkhfaaDoor
