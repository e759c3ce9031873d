/- The law GramBack, of all arguments up to a size: what gram.Write puts, gram.Read reads back. -/
import Derived.Test.YtihbadicabmagaaZ21
import Derived.Test.YtihbadicabmagaaZ14
import Derived.JoinedCond
import Derived.Test.YtihbadicabmagaaZ16
import Derived.Test.YtihbadicabmagaaZ19
import Derived.Test.YtihbadicabmagaaRows
import Derived.Test.YtihbadicabmagaaChecked
import Derived.KernelRfl
namespace Go.Proofs.Ytihbadicabmagaa
open Go Go.Fw Go.Proofs
open Go.ChangeShapes Go.WideShapes Go.ChangeAt Go.RowKit
set_option maxHeartbeats 400000
set_option maxRecDepth 100000
theorem own_gramBack : ownKnob Try.prog.godebug = none := by kernel_rfl
theorem laidOut_gramBack : laidOutB Try.prog = true := by kernel_rfl
mutual
theorem bulk_eq {H : Type} : ∀ d : DataW H, Rows.uptoBulk d = bulkW d
  | .lit (.string _) => by simp only [Rows.uptoBulk, bulkW]
  | .lit (.int _ _) => by simp only [Rows.uptoBulk, bulkW]
  | .lit (.bool _) => by simp only [Rows.uptoBulk, bulkW]
  | .lit (.float ..) => by simp only [Rows.uptoBulk, bulkW]
  | .lit .nil => by simp only [Rows.uptoBulk, bulkW]
  | .nil => by simp only [Rows.uptoBulk, bulkW]
  | .ptr d => by simp only [Rows.uptoBulk, bulkW, bulk_eq d]
  | .slice e r => by simp only [Rows.uptoBulk, bulkW, bulk_eqs e, bulk_eqs r]
  | .agg l => by simp only [Rows.uptoBulk, bulkW, bulk_eqs l]
  | .iface _ d => by simp only [Rows.uptoBulk, bulkW, bulk_eq d]
  | .map l => by simp only [Rows.uptoBulk, bulkW, bulk_eqm l]
  | .held _ => by simp only [Rows.uptoBulk, bulkW]
theorem bulk_eqs {H : Type} : ∀ l : List (DataW H), Rows.uptoBulkAll l = bulkWl l
  | [] => by simp only [Rows.uptoBulkAll, bulkWl]
  | d :: r => by simp only [Rows.uptoBulkAll, bulkWl, bulk_eq d, bulk_eqs r]
theorem bulk_eqm {H : Type} : ∀ l : List (Lit × DataW H), Rows.uptoBulkEntries l = bulkWm l
  | [] => by simp only [Rows.uptoBulkEntries, bulkWm]
  | x :: r => by simp only [Rows.uptoBulkEntries, bulkWm, bulk_eqe x, bulk_eqm r]
theorem bulk_eqe {H : Type} : ∀ x : Lit × DataW H, Rows.uptoBulkEntry x = bulkWe x
  | (.string _, d) => by simp only [Rows.uptoBulkEntry, bulkWe, bulk_eq d]
  | (.int _ _, d) => by simp only [Rows.uptoBulkEntry, bulkWe, bulk_eq d]
  | (.bool _, d) => by simp only [Rows.uptoBulkEntry, bulkWe, bulk_eq d]
  | (.float .., d) => by simp only [Rows.uptoBulkEntry, bulkWe, bulk_eq d]
  | (.nil, d) => by simp only [Rows.uptoBulkEntry, bulkWe, bulk_eq d]
end
theorem gramBack_lifted (os : Os) (started : os.Started) (H : Type) (enc : TypeId × Value → H) (F : Stop.Interp) :
    ReturnsInHanded {} Try.checked os 7 .any ((Rows.OpenSpec.upto Rows.gramBackSpec).pre6 enc Try.prog Try.f7 Rows.gramBackUptoRow.domain false) (((Rows.OpenSpec.upto Rows.gramBackSpec).at F).post enc Try.prog Try.f7 false true false false) := by
  refine returnsInHanded_of_condS (C := Try.checked) (k := Rows.uptoSmall) rfl own_gramBack started (by kernel_rfl) Try.func7
    (OpenSpec.witness (enc := enc) (C := Try.checked) (k := Rows.uptoSmall) rfl false ⟨#[], #[.slice none 0 0, .int .u16 0, .slice none 0 0], []⟩ 8 (by kernel_rfl) (by kernel_rfl) (by kernel_rfl) (x := ([.nil, .lit (.int .u16 0), .nil], [], [])) (by kernel_rfl) (by kernel_rfl) (by kernel_rfl)) ?_
  intro W base args ds gs before hsh hval hW hcnd hkk _
  have hW' := hW
  obtain ⟨p, q, hA, hV, rfl, hfz, hnd⟩ := hW
  obtain ⟨rfl, rfl⟩ := trodVars_none hV
  have hbk : bulkWl ds ≤ 1048576 := by
    have h1 : Rows.uptoBulkAll (ds ++ []) ≤ 1048576 := of_decide_eq_true hkk
    rw [List.append_nil, bulk_eqs] at h1
    exact h1
  refine (law_callsB (L := [22, 9, 35, 45, 5, 4]) (by kernel_rfl) laidOut_gramBack Try.func7 (by kernel_rfl) (by kernel_rfl) (by kernel_rfl) (by kernel_rfl) gramBack_law hval hA hbk (fun _ hx => absurd hx List.not_mem_nil) (fun x hx => by
    rw [List.mem_singleton.1 (show x ∈ [0] from hx)]
    obtain ⟨m, hm⟩ := Go.Proofs.Try.laysM144.s1_3 W hsh
    exact ⟨block_of_cell hm, m, hm⟩)).mono fun e W' ⟨he, bel, ht⟩ => ?_
  subst he
  have hds : ∃ d0 d1 d2, ds = [d0, d1, d2] := by
    obtain ⟨v0, vs0, x0, ds0, p0, q0, _, rfl, _, _, r0⟩ := trodAll_cons hA
    obtain ⟨v1, vs1, x1, ds1, p1, q1, _, rfl, _, _, r1⟩ := trodAll_cons r0
    obtain ⟨v2, vs2, x2, ds2, p2, q2, _, rfl, _, _, r2⟩ := trodAll_cons r1
    obtain ⟨_, rfl, _⟩ := trodAll_nil r2
    exact ⟨x0, x1, x2, rfl⟩
  obtain ⟨d0, d1, d2, rfl⟩ := hds
  exact ⟨_, rfl, _, _, _, [], _, [], hW', trodAll_mk1 (shut_bool Try.underlying4 _), ht, rfl, bel.frame _, fun h => by cases h⟩
theorem gramBack_holds : Rows.GramBackUptoSaid :=
  OpenClaim.holds_of_cond 7 Try.f7 rfl rfl rfl rfl rfl rfl rfl ⟨rfl, rfl, rfl, rfl, rfl⟩ rfl rfl rfl rfl rfl (by kernel_rfl) Try.func7 (by kernel_rfl)
    (of_decide_eq_true (by kernel_rfl)) (by unfold Func.isWrapper; first | (rw [if_pos (by decide +kernel)]; kernel_rfl) | (rw [if_neg (by decide +kernel)]; exact ⟨rfl, rfl⟩))
    (fun os started H enc _ F => gramBack_lifted os started H enc F)
end Go.Proofs.Ytihbadicabmagaa
