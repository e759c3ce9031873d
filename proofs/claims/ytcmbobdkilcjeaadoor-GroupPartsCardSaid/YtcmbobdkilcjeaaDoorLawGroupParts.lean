/- Law GroupParts of groups holds for every input: rows are in one group just if their keys are alike, groups are numbered as their first rows stand, and the counts of rows sum up to all. -/
import Derived.Test.YtcmbobdkilcjeaaDoorZ22
import Derived.Test.YtcmbobdkilcjeaaDoorZ14
import Derived.Test.YtcmbobdkilcjeaaDoorZ20
import Derived.Test.YtcmbobdkilcjeaaDoorRows
import Derived.Test.YtcmbobdkilcjeaaDoorCards
import Derived.Test.YtcmbobdkilcjeaaDoorTie
import Derived.Test.YtcmbobdkilcjeaaDoorChecked
import Derived.KernelRfl
import Derived.Lay
import Derived.LaidLaws
import Derived.Handed
import Derived.SevenTiedAt
import Derived.Stop.LaidErr
namespace Go.Proofs.YtcmbobdkilcjeaaDoor
open Go Go.Fw Go.Proofs
open Go.ChangeShapes Go.WideShapes Go.ChangeAt Go.RowKit
set_option maxHeartbeats 4000000
set_option maxRecDepth 100000
theorem tab0_datum : Rows.laid_internal_strconv_uint64pow10 (H := Unit) = Lib.tabData .u64 Lib.pow10Tab := by kernel_rfl
theorem tab0_groupParts {W : World} (h : laidMetH Tryd.prog Rows.groupPartsRow.laid W) : Lib.TabIs Tryd.prog W "internal/strconv.uint64pow10" .u64 Lib.pow10Tab := by
  have h0 : laidMet Tryd.prog Rows.groupPartsRow.laid W := h
  have h1 := laidMet.tail h0
  have h2 := laidMet.tail h1
  exact Lib.tabIs_of_head (g := 0) (n := 20) (e := 43) (by kernel_rfl) (t := 100) (by kernel_rfl) (by kernel_rfl) (by kernel_rfl) (by kernel_rfl) (by kernel_rfl) (tab0_datum ▸ h2)
theorem own_groupParts : ownKnob Tryd.prog.godebug = none := by kernel_rfl
theorem laidOut_groupParts : laidOutB Tryd.prog = true := by kernel_rfl
theorem met_groupParts (os : Os) : laidMetH Tryd.prog Rows.groupPartsRow.laid ((World.laidAll Tryd.prog os Rows.groupPartsRow.laid).forCall (fun _ _ => 0) ⟨#[], #[.slice none 0 0, .int .i64 0, .slice none 0 0], []⟩).memory :=
  show laidMet _ _ _ from laidMet_laidAll #[.slice none 0 0, .int .i64 0, .slice none 0 0] (by kernel_rfl) (by kernel_rfl)
theorem groupParts_lifted (os : Os) (started : os.Started) (H : Type) (enc : TypeId × Value → H) :
    ReturnsInHanded {} Tryd.checked os 4 .any (fun w args => (Rows.groupPartsSpec.pre enc Tryd.prog Tryd.f4 Rows.groupPartsRow.domain false w args ∧ laidMetH Tryd.prog Rows.groupPartsRow.laid w) ∧ sizedMet enc Tryd.prog Tryd.f4 (OpenSpec.ofChange Rows.groupPartsSpec) false w args) (Rows.groupPartsSpec.post enc Tryd.prog Tryd.f4 false true false false) := by
  refine returnsInHanded_of_change_and (C := Tryd.checked) (X := fun w _ => laidMetH Tryd.prog Rows.groupPartsRow.laid w) (fun _ _ _ hh h => h.of_heap hh) own_groupParts started (by kernel_rfl) Tryd.func4
    (ChangeSpec.witness_shaped (enc := enc) (C := Tryd.checked) (os := os) (X := fun w _ => laidMetH Tryd.prog Rows.groupPartsRow.laid w) false (World.laidAll Tryd.prog os Rows.groupPartsRow.laid) #[.slice none 0 0, .int .i64 0, .slice none 0 0] 8 (World.laidAll_os _ _ _) (World.shaped_of_ZipB (by kernel_rfl) (by kernel_rfl)) (by kernel_rfl) (by kernel_rfl) (by kernel_rfl) (met_groupParts os)) ?_
  intro W base args ds gs before hval hW hcnd hsz0 hL _
  have hW' := hW
  obtain ⟨p, q, hA, hV, rfl, hfz, hnd⟩ := hW
  obtain ⟨rfl, rfl⟩ := trodVars_none hV
  have hG : TabsG (fun b => b < W.heap.size) W := fun x hx => by
      simp only [tabList, List.mem_cons, List.not_mem_nil, or_false] at hx
      subst hx
      exact tabG_of (by kernel_rfl) (tab0_groupParts hL)
  refine (law_calls (L := [22, 37, 36, 4, 9, 3, 23]) (by kernel_rfl) laidOut_groupParts Tryd.func4 (by kernel_rfl) (by kernel_rfl) (by kernel_rfl) (by kernel_rfl) groupParts_law hval hA hG (VarsG.none rfl)).mono fun e W' ⟨he, bel, ht⟩ => ?_
  subst he
  have hds : ∃ d0 d1 d2, ds = [d0, d1, d2] := by
    obtain ⟨v0, vs0, x0, ds0, p0, q0, _, rfl, _, _, r0⟩ := trodAll_cons hA
    obtain ⟨v1, vs1, x1, ds1, p1, q1, _, rfl, _, _, r1⟩ := trodAll_cons r0
    obtain ⟨v2, vs2, x2, ds2, p2, q2, _, rfl, _, _, r2⟩ := trodAll_cons r1
    obtain ⟨_, rfl, _⟩ := trodAll_nil r2
    exact ⟨x0, x1, x2, rfl⟩
  obtain ⟨d0, d1, d2, rfl⟩ := hds
  exact ⟨_, rfl, _, _, _, [], _, [], hW', trodAll_mk1 (shut_bool Tryd.underlying4 _), ht, rfl, bel.frame _, fun h => by cases h⟩
theorem groupParts_row : Rows.GroupPartsSaid :=
  OpenClaim.holds_of_wide 4 Tryd.f4 rfl rfl rfl rfl rfl rfl rfl ⟨rfl, rfl, rfl, rfl, rfl⟩ rfl rfl rfl rfl rfl (by kernel_rfl) Tryd.func4 (by kernel_rfl)
    (of_decide_eq_true (by kernel_rfl)) (by unfold Func.isWrapper; first | (rw [if_pos (by decide +kernel)]; kernel_rfl) | (rw [if_neg (by decide +kernel)]; exact ⟨rfl, rfl⟩))
    (fun os started H enc _ => groupParts_lifted os started H enc)
theorem groupParts_holds : Rows.GroupPartsCardSaid :=
  Claim7.holds_tied_plain_at .later [] [.data, .data, .data] true (true, "b7e91edd5064253d0e2194815db2b742b1c436d122903a17b555db8f60e8c77d") false
    groupParts_row (fun _ h => by cases h) (by kernel_rfl) (fun _ h => by cases h) groupParts_row_tie rfl ⟨rfl, rfl⟩ (by kernel_rfl) rfl
    (fun f fn hf hfn => by
      obtain rfl : f = 4 := Option.some.inj ((show Tryd.prog.funcNamed Rows.groupPartsRow.func = some 4 by kernel_rfl).symm.trans hf) |>.symm
      obtain rfl : fn = Tryd.f4 := (Option.some.inj (Tryd.func4.symm.trans hfn)).symm
      exact ⟨by kernel_rfl, fun j t ht => by
        have hall : ∀ t ∈ Tryd.f4.params.toList, Tryd.prog.wantsStandIn t = false := fun t ht => of_all_false (by kernel_rfl) ht
        exact hall t (List.mem_of_getElem? (by simpa using ht))⟩)
    (by kernel_rfl)
end Go.Proofs.YtcmbobdkilcjeaaDoor
