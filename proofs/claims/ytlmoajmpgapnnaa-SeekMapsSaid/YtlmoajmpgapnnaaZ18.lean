/- What the proofs of this seat lean on, part 18: a symbolic machine that is shown sound, walks through functions, plain laws. -/
import Derived.Test.YtlmoajmpgapnnaaZ16
import Derived.Test.YtlmoajmpgapnnaaZ17
import Derived.Lib.ItoaNum
import Derived.Test.YtlmoajmpgapnnaaZ13
namespace Go.Fw
open Go Go.Proofs
set_option maxHeartbeats 10000000
set_option maxRecDepth 100000
set_option linter.constructorNameAsVariable false
set_option linter.unusedVariables false
set_option linter.unusedSimpArgs false
theorem len32_con (x : Nat) (hx : x < 4294967296) : Has Try.prog 71 [CV.d (D.int .u32 (x : Int))] (fun rs _ => rs = [CV.d (D.int .i64 (bl x : Nat))]) := by
  have e : Lib.bitLen x = bl x := by
    by_cases h0 : x = 0
    · subst h0; rfl
    · have h1 := Go.Lib.bitLenAux_bounds 64 x (by omega) h0
      have h2 : bl x ≤ Lib.bitLen x := bl_le.2 h1.2.2
      have h3 : Lib.bitLen x ≤ bl x := Go.Lib.bitLenAux_le 64 x _ (bl_le.1 (Nat.le_refl _))
      omega
  rw [← e]
  exact int_has (fn := Try.f71) (by kernel_rfl) (by kernel_rfl) (by kernel_rfl) .u32 .i64 x _ fun w => Try.bits_Len32 x w (by omega) (by omega)
theorem max_con (l : List Nat) (h0 : 0 < l.length) (hl : l.length ≤ 1000000000) (hx : ∀ x ∈ l, x < 4294967296) : Has Try.prog 73 [CV.d (D.sl 1 (l.map natD))] (fun rs _ => rs = [CV.d (D.int .i64 (maxN l))]) := by
  refine Has_of_run (fn := Try.f73) (M := M0) fol (by kernel_rfl) 5 noPlan [] [] (by kernel_rfl) (Nat.le_of_ble_eq_true rfl) ?_
  (repeat' ((conv => whnf); first | done | (refine And.intro (fun h => ?_) (fun h => ?_) <;> (try simp only [Bool.or_eq_true, Bool.and_eq_true, Bool.or_eq_false_iff, Bool.and_eq_false_iff, toNat_pred, toNat_succ, toNat_addn, toNat_subn, decide_eq_true_eq, decide_eq_false_iff_not, Bool.not_eq_true', Bool.not_eq_false', List.length_map, Int.toNat_natCast, Int.not_lt, Int.not_le, Bool.not_eq_true, Bool.false_eq_true, Bool.true_eq_false, Bool.not_true, Bool.not_false, reduceCtorEq, beq_iff_eq, Bool.not_eq_eq_eq_not, bne_iff_ne, ne_eq, decide_not, Decidable.not_not, Classical.not_not] at h)) | exact (rfl : (_ : AV) = _) | exact (rfl : (_ : St) = _) | refine Exists.intro (α := AV) AV.dead (And.intro (fun h => Bool.noConfusion h) ?_) | apply ex_av | (refine fun (h : (_ : Bool) = true) => ?_; have h' := h; (try simp only [Bool.or_eq_true, Bool.and_eq_true, Bool.or_eq_false_iff, Bool.and_eq_false_iff, toNat_pred, toNat_succ, toNat_addn, toNat_subn, decide_eq_true_eq, decide_eq_false_iff_not, Bool.not_eq_true', Bool.not_eq_false', List.length_map, Int.toNat_natCast, Int.not_lt, Int.not_le, Bool.not_eq_true, Bool.false_eq_true, Bool.true_eq_false, Bool.not_true, Bool.not_false, reduceCtorEq, beq_iff_eq, Bool.not_eq_eq_eq_not, bne_iff_ne, ne_eq, decide_not, Decidable.not_not, Classical.not_not] at h')) | (refine And.intro (a := Both _ _ _) ?_ ?_; (refine ⟨fun h => ?_, fun h => ?_⟩ <;> first | rfl | exact h | exact Bool.noConfusion h | (rw [h]; rfl) | (rw [h]; simp only [Bool.not_false, Bool.not_true, Bool.and_true]; assumption) | (simp_all; done) | fail); skip) | refine And.intro rfl ?_ | refine Two.mk ?_ ?_ | refine And.intro (allU8_bytes _) ?_ | (refine And.intro (a := (_ : Bool) = true) ?_ ?_; (first | assumption | exact decide_eq_true (by assumption) | (rw [Bool.not_eq_true']; exact decide_eq_false (by assumption)) | (rw [Bool.not_not]; exact decide_eq_true (by assumption)) | (simp_all; done) | fail); skip) | refine And.intro (Or.inr rfl) ?_ | refine And.intro (Nat.le_of_ble_eq_true rfl) ?_ | refine And.intro (decide_eq_false (by omega)) ?_ | refine And.intro (show Program.stoodInHeld _ _ = _ by kernel_rfl) (And.intro (by kernel_rfl) ?_) | refine And.intro (show Nat.beq _ _ = _ from rfl) (And.intro (by decide) ?_) | refine And.intro ⟨rfl, rfl⟩ ?_ | refine And.intro ⟨rfl, rfl, trivial⟩ ?_ | refine And.intro (Int.natCast_nonneg _) ?_ | refine Or.inl (And.intro rfl (And.intro rfl (And.intro rfl (And.intro rfl ?_)))) | refine Or.inl (And.intro rfl (And.intro rfl ?_)) | refine Or.inr (And.intro (Nat.le_of_ble_eq_true rfl) ?_) | refine Or.inl (And.intro (by unfold in64; omega) ?_) | refine And.intro (by first | omega | (simp only [dlen, true_and, and_true, Nat.le_refl, List.length_map, List.length_append, List.length_cons, List.length_nil, List.length_take, List.length_drop, List.length_replicate, Int.toNat_natCast, List.append_nil] <;> omega) | fail) ?_ | refine And.intro (allU8_bytes _) ?_ | refine And.intro (show elemsP _ _ _ by repeat' (first | exact rfl | exact trivial | constructor)) ?_ | (refine Loops.by (M := M0) 5 noPlan fol (by kernel_rfl) (ι := Nat × Nat) (fun ⟨k, m⟩ => ⟨[(0, AV.d (D.sl 1 (l.map natD))), (3, AV.d (D.int .i64 m)), (4, AV.d (D.int .i64 k))], [], 16⟩) (fun ⟨k, m⟩ => 1 ≤ k ∧ k ≤ l.length ∧ m = maxN (l.take k)) (fun ⟨k, m⟩ => l.length - k) (fun p hI => ?_) ((1, l.getD 0 default)) ⟨Nat.le_refl _, h0, by rw [maxN_take h0]; simp [maxN]⟩ (Forget.mk' ⟨⟨rfl, rfl⟩, ⟨rfl, rfl⟩, ⟨rfl, rfl⟩, trivial⟩ trivial rfl rfl); obtain ⟨k, m⟩ := p; obtain ⟨h1, h2, rfl⟩ := hI) | (refine fun x hx => ?_; (try simp (disch := omega) only [Int.tdiv_eq_ediv_of_nonneg, Int.tmod_eq_emod_of_nonneg, bx, Bool.true_or, Bool.false_or, Bool.or_false, Bool.or_true, Bool.and_true, Bool.true_and, Bool.false_and, Bool.and_false, cond_true, cond_false, if_true, if_false, Bool.false_eq_true, min_nn, max_nn, min_ln, min_nl, max_ln, max_nl, getD_map, str_of_bytes, take_bytes, take_data, wrap_u64, wrap_u32, wrap_u8, shr_i64, shr_u64, shr_u32, shl_i64, shl_u64, Int.reduceToNat, Int.reducePow, Int.pow_succ, Int.pow_zero, Int.one_mul, Int.reduceMul, wrap_id, wrap_u8_nat, wrap_i64_u8, byteD_mk, map_snoc, map_app, set_map, take_map', drop_map', Nat.sub_zero, List.length_map, List.length_append, List.length_cons, List.length_nil, Int.toNat_natCast, List.drop_zero, List.take_succ_cons, List.take_zero, List.take_length, List.nil_append, List.append_nil, Nat.zero_add, toNat_pred, toNat_succ, toNat_addn, toNat_subn] at hx); subst hx) | rw [List.take_length] | (rw [List.take_of_length_le]; rotate_left; (first | omega | (simp only [dlen, true_and, and_true, Nat.le_refl, List.length_map, List.length_append, List.length_cons, List.length_nil, List.length_take, List.length_drop, List.length_replicate, Int.toNat_natCast, List.append_nil] <;> omega) | fail)) | refine fun h => ?_ | fail)); all_goals (try exact (AV.dead : AV)); all_goals (try (conv => whnf))
  · omega
  · refine ⟨(k + 1, max (maxN (l.take k)) (l.getD k default)), ⟨⟨by omega, by omega, (maxN_take (by omega)).symm⟩, by show l.length - (k + 1) < l.length - k; omega⟩, ?_⟩
    exact (Forget.mk' ⟨⟨rfl, rfl⟩, ⟨rfl, rfl⟩, ⟨rfl, rfl⟩, trivial⟩ trivial rfl rfl)
theorem packWidth_con (l : List Nat) (hl : l.length ≤ 1000000000) (hx : ∀ x ∈ l, x < 4294967296) : Has Try.prog 55 [CV.d (D.sl 1 (l.map natD))] (fun rs _ => rs = [CV.d (D.int .i64 (widN l))] ) := by
  have hm : maxN l ≤ 4294967295 := maxN_le.2 (fun x h9 ↦ Nat.le_of_lt_succ (hx x h9))
  refine Has_of_run (fn := Try.f55) (M := M0) fol (by kernel_rfl) 3 noPlan [] [] (by kernel_rfl) (Nat.le_of_ble_eq_true rfl) ?_
  (repeat' ((conv => whnf); first | done | (refine And.intro (fun h => ?_) (fun h => ?_) <;> (try simp only [Bool.or_eq_true, Bool.and_eq_true, Bool.or_eq_false_iff, Bool.and_eq_false_iff, toNat_pred, toNat_succ, toNat_addn, toNat_subn, decide_eq_true_eq, decide_eq_false_iff_not, Bool.not_eq_true', Bool.not_eq_false', List.length_map, Int.toNat_natCast, Int.not_lt, Int.not_le, Bool.not_eq_true, Bool.false_eq_true, Bool.true_eq_false, Bool.not_true, Bool.not_false, reduceCtorEq, beq_iff_eq, Bool.not_eq_eq_eq_not, bne_iff_ne, ne_eq, decide_not, Decidable.not_not, Classical.not_not] at h)) | exact (rfl : (_ : AV) = _) | exact (rfl : (_ : St) = _) | refine Exists.intro (α := AV) AV.dead (And.intro (fun h => Bool.noConfusion h) ?_) | apply ex_av | (refine fun (h : (_ : Bool) = true) => ?_; have h' := h; (try simp only [Bool.or_eq_true, Bool.and_eq_true, Bool.or_eq_false_iff, Bool.and_eq_false_iff, toNat_pred, toNat_succ, toNat_addn, toNat_subn, decide_eq_true_eq, decide_eq_false_iff_not, Bool.not_eq_true', Bool.not_eq_false', List.length_map, Int.toNat_natCast, Int.not_lt, Int.not_le, Bool.not_eq_true, Bool.false_eq_true, Bool.true_eq_false, Bool.not_true, Bool.not_false, reduceCtorEq, beq_iff_eq, Bool.not_eq_eq_eq_not, bne_iff_ne, ne_eq, decide_not, Decidable.not_not, Classical.not_not] at h')) | (refine And.intro (a := Both _ _ _) ?_ ?_; (refine ⟨fun h => ?_, fun h => ?_⟩ <;> first | rfl | exact h | exact Bool.noConfusion h | (rw [h]; rfl) | (rw [h]; simp only [Bool.not_false, Bool.not_true, Bool.and_true]; assumption) | (simp_all; done) | fail); skip) | refine And.intro rfl ?_ | refine Two.mk ?_ ?_ | refine And.intro (allU8_bytes _) ?_ | (refine And.intro (a := (_ : Bool) = true) ?_ ?_; (first | assumption | exact decide_eq_true (by assumption) | (rw [Bool.not_eq_true']; exact decide_eq_false (by assumption)) | (rw [Bool.not_not]; exact decide_eq_true (by assumption)) | (simp_all; done) | fail); skip) | refine And.intro (Or.inr rfl) ?_ | refine And.intro (Nat.le_of_ble_eq_true rfl) ?_ | refine And.intro (decide_eq_false (by omega)) ?_ | refine And.intro (show Program.stoodInHeld _ _ = _ by kernel_rfl) (And.intro (by kernel_rfl) ?_) | refine And.intro (show Nat.beq _ _ = _ from rfl) (And.intro (by decide) ?_) | refine And.intro ⟨rfl, rfl⟩ ?_ | refine And.intro ⟨rfl, rfl, trivial⟩ ?_ | refine And.intro (Int.natCast_nonneg _) ?_ | refine Or.inl (And.intro rfl (And.intro rfl (And.intro rfl (And.intro rfl ?_)))) | refine Or.inl (And.intro rfl (And.intro rfl ?_)) | refine Or.inr (And.intro (Nat.le_of_ble_eq_true rfl) ?_) | refine Or.inl (And.intro (by unfold in64; omega) ?_) | refine And.intro (by first | omega | (simp only [dlen, true_and, and_true, Nat.le_refl, List.length_map, List.length_append, List.length_cons, List.length_nil, List.length_take, List.length_drop, List.length_replicate, Int.toNat_natCast, List.append_nil] <;> omega) | fail) ?_ | refine And.intro (allU8_bytes _) ?_ | refine And.intro (show elemsP _ _ _ by repeat' (first | exact rfl | exact trivial | constructor)) ?_ | (refine (max_con l (by omega) hl hx).mono fun rs bs hr => ?_; subst hr) | (refine (len32_con _ (by omega)).mono fun rs bs hr => ?_; subst hr) | (refine fun x hx => ?_; (try simp (disch := omega) only [Int.tdiv_eq_ediv_of_nonneg, Int.tmod_eq_emod_of_nonneg, bx, Bool.true_or, Bool.false_or, Bool.or_false, Bool.or_true, Bool.and_true, Bool.true_and, Bool.false_and, Bool.and_false, cond_true, cond_false, if_true, if_false, Bool.false_eq_true, min_nn, max_nn, min_ln, min_nl, max_ln, max_nl, getD_map, str_of_bytes, take_bytes, take_data, wrap_u64, wrap_u32, wrap_u8, shr_i64, shr_u64, shr_u32, shl_i64, shl_u64, Int.reduceToNat, Int.reducePow, Int.pow_succ, Int.pow_zero, Int.one_mul, Int.reduceMul, wrap_id, wrap_u8_nat, wrap_i64_u8, byteD_mk, map_snoc, map_app, set_map, take_map', drop_map', Nat.sub_zero, List.length_map, List.length_append, List.length_cons, List.length_nil, Int.toNat_natCast, List.drop_zero, List.take_succ_cons, List.take_zero, List.take_length, List.nil_append, List.append_nil, Nat.zero_add, toNat_pred, toNat_succ, toNat_addn, toNat_subn] at hx); subst hx) | rw [List.take_length] | (rw [List.take_of_length_le]; rotate_left; (first | omega | (simp only [dlen, true_and, and_true, Nat.le_refl, List.length_map, List.length_append, List.length_cons, List.length_nil, List.length_take, List.length_drop, List.length_replicate, Int.toNat_natCast, List.append_nil] <;> omega) | fail)) | refine fun h => ?_ | fail)); all_goals (try exact (AV.dead : AV)); all_goals (try (conv => whnf))
  · have h0 : l = [] := List.eq_nil_of_length_eq_zero (by omega)
    subst h0; rfl
  · exact ri (by rw [bl_maxN])
end Go.Fw
namespace Go.Fw
open Go Go.Proofs
set_option maxHeartbeats 10000000
set_option maxRecDepth 100000
set_option linter.constructorNameAsVariable false
set_option linter.unusedVariables false
set_option linter.unusedSimpArgs false
theorem size_con (n w : Nat) (hn : n ≤ 1000000) (hw : w ≤ 1000) : Has Try.prog 52 [CV.d (D.int .i64 n), CV.d (D.int .i64 w)] (fun rs _ => rs = [CV.d (D.int .i64 (sizeP n w))] ) := by
  have hm : n * w ≤ 1000000000 := Nat.mul_le_mul hn hw
  refine Has_of_run (fn := Try.f52) (M := M0) fol (by kernel_rfl) 5 noPlan [] [] (by kernel_rfl) (Nat.le_of_ble_eq_true rfl) ?_
  (repeat' ((conv => whnf); first | done | (refine And.intro (fun h => ?_) (fun h => ?_) <;> (try simp only [Bool.or_eq_true, Bool.and_eq_true, Bool.or_eq_false_iff, Bool.and_eq_false_iff, toNat_pred, toNat_succ, toNat_addn, toNat_subn, decide_eq_true_eq, decide_eq_false_iff_not, Bool.not_eq_true', Bool.not_eq_false', List.length_map, Int.toNat_natCast, Int.not_lt, Int.not_le, Bool.not_eq_true, Bool.false_eq_true, Bool.true_eq_false, Bool.not_true, Bool.not_false, reduceCtorEq, beq_iff_eq, Bool.not_eq_eq_eq_not, bne_iff_ne, ne_eq, decide_not, Decidable.not_not, Classical.not_not] at h)) | exact (rfl : (_ : AV) = _) | exact (rfl : (_ : St) = _) | refine Exists.intro (α := AV) AV.dead (And.intro (fun h => Bool.noConfusion h) ?_) | apply ex_av | (refine fun (h : (_ : Bool) = true) => ?_; have h' := h; (try simp only [Bool.or_eq_true, Bool.and_eq_true, Bool.or_eq_false_iff, Bool.and_eq_false_iff, toNat_pred, toNat_succ, toNat_addn, toNat_subn, decide_eq_true_eq, decide_eq_false_iff_not, Bool.not_eq_true', Bool.not_eq_false', List.length_map, Int.toNat_natCast, Int.not_lt, Int.not_le, Bool.not_eq_true, Bool.false_eq_true, Bool.true_eq_false, Bool.not_true, Bool.not_false, reduceCtorEq, beq_iff_eq, Bool.not_eq_eq_eq_not, bne_iff_ne, ne_eq, decide_not, Decidable.not_not, Classical.not_not] at h')) | (refine And.intro (a := Both _ _ _) ?_ ?_; (refine ⟨fun h => ?_, fun h => ?_⟩ <;> first | rfl | exact h | exact Bool.noConfusion h | (rw [h]; rfl) | (rw [h]; simp only [Bool.not_false, Bool.not_true, Bool.and_true]; assumption) | (simp_all; done) | fail); skip) | refine And.intro rfl ?_ | refine Two.mk ?_ ?_ | refine And.intro (allU8_bytes _) ?_ | (refine And.intro (a := (_ : Bool) = true) ?_ ?_; (first | assumption | exact decide_eq_true (by assumption) | (rw [Bool.not_eq_true']; exact decide_eq_false (by assumption)) | (rw [Bool.not_not]; exact decide_eq_true (by assumption)) | (simp_all; done) | fail); skip) | refine And.intro (Or.inr rfl) ?_ | refine And.intro (Nat.le_of_ble_eq_true rfl) ?_ | refine And.intro (decide_eq_false (by omega)) ?_ | refine And.intro (show Program.stoodInHeld _ _ = _ by kernel_rfl) (And.intro (by kernel_rfl) ?_) | refine And.intro (show Nat.beq _ _ = _ from rfl) (And.intro (by decide) ?_) | refine And.intro ⟨rfl, rfl⟩ ?_ | refine And.intro ⟨rfl, rfl, trivial⟩ ?_ | refine And.intro (Int.natCast_nonneg _) ?_ | refine Or.inl (And.intro rfl (And.intro rfl (And.intro rfl (And.intro rfl ?_)))) | refine Or.inl (And.intro rfl (And.intro rfl ?_)) | refine Or.inr (And.intro (Nat.le_of_ble_eq_true rfl) ?_) | refine Or.inl (And.intro (by unfold in64; omega) ?_) | refine And.intro (by first | omega | (simp only [dlen, true_and, and_true, Nat.le_refl, List.length_map, List.length_append, List.length_cons, List.length_nil, List.length_take, List.length_drop, List.length_replicate, Int.toNat_natCast, List.append_nil] <;> omega) | fail) ?_ | refine And.intro (allU8_bytes _) ?_ | refine And.intro (show elemsP _ _ _ by repeat' (first | exact rfl | exact trivial | constructor)) ?_ | (refine fun x hx => ?_; (try simp (disch := omega) only [Int.tdiv_eq_ediv_of_nonneg, Int.tmod_eq_emod_of_nonneg, bx, Bool.true_or, Bool.false_or, Bool.or_false, Bool.or_true, Bool.and_true, Bool.true_and, Bool.false_and, Bool.and_false, cond_true, cond_false, if_true, if_false, Bool.false_eq_true, min_nn, max_nn, min_ln, min_nl, max_ln, max_nl, getD_map, str_of_bytes, take_bytes, take_data, wrap_u64, wrap_u32, wrap_u8, shr_i64, shr_u64, shr_u32, shl_i64, shl_u64, Int.reduceToNat, Int.reducePow, Int.pow_succ, Int.pow_zero, Int.one_mul, Int.reduceMul, wrap_id, wrap_u8_nat, wrap_i64_u8, byteD_mk, map_snoc, map_app, set_map, take_map', drop_map', Nat.sub_zero, List.length_map, List.length_append, List.length_cons, List.length_nil, Int.toNat_natCast, List.drop_zero, List.take_succ_cons, List.take_zero, List.take_length, List.nil_append, List.append_nil, Nat.zero_add, toNat_pred, toNat_succ, toNat_addn, toNat_subn] at hx); subst hx) | rw [List.take_length] | (rw [List.take_of_length_le]; rotate_left; (first | omega | (simp only [dlen, true_and, and_true, Nat.le_refl, List.length_map, List.length_append, List.length_cons, List.length_nil, List.length_take, List.length_drop, List.length_replicate, Int.toNat_natCast, List.append_nil] <;> omega) | fail)) | refine fun h => ?_ | fail)); all_goals (try exact (AV.dead : AV)); all_goals (try (conv => whnf))
  exact ri (by unfold sizeP; omega)
theorem get_con (b : List UInt8) (w i : Nat) (hb : b.length ≤ 1000000000) (hw : w ≤ 32) (hi : i ≤ 1000000) : Has Try.prog 53 [CV.d (D.sl 1 (b.map byteD)), CV.d (D.int .i64 w), CV.d (D.int .i64 i)] (fun rs _ => rs = [CV.d (D.int .i64 (getP b w i))] ) := by
  have hm : i * w ≤ 32000000 := Nat.mul_le_mul hi hw
  refine Has_of_run (fn := Try.f53) (M := M0) fol (by kernel_rfl) 10 noPlan [] [] (by kernel_rfl) (Nat.le_of_ble_eq_true rfl) ?_
  (repeat' ((conv => whnf); first | done | (refine And.intro (fun h => ?_) (fun h => ?_) <;> (try simp only [Bool.or_eq_true, Bool.and_eq_true, Bool.or_eq_false_iff, Bool.and_eq_false_iff, toNat_pred, toNat_succ, toNat_addn, toNat_subn, decide_eq_true_eq, decide_eq_false_iff_not, Bool.not_eq_true', Bool.not_eq_false', List.length_map, Int.toNat_natCast, Int.not_lt, Int.not_le, Bool.not_eq_true, Bool.false_eq_true, Bool.true_eq_false, Bool.not_true, Bool.not_false, reduceCtorEq, beq_iff_eq, Bool.not_eq_eq_eq_not, bne_iff_ne, ne_eq, decide_not, Decidable.not_not, Classical.not_not] at h)) | exact (rfl : (_ : AV) = _) | exact (rfl : (_ : St) = _) | refine Exists.intro (α := AV) AV.dead (And.intro (fun h => Bool.noConfusion h) ?_) | apply ex_av | (refine fun (h : (_ : Bool) = true) => ?_; have h' := h; (try simp only [Bool.or_eq_true, Bool.and_eq_true, Bool.or_eq_false_iff, Bool.and_eq_false_iff, toNat_pred, toNat_succ, toNat_addn, toNat_subn, decide_eq_true_eq, decide_eq_false_iff_not, Bool.not_eq_true', Bool.not_eq_false', List.length_map, Int.toNat_natCast, Int.not_lt, Int.not_le, Bool.not_eq_true, Bool.false_eq_true, Bool.true_eq_false, Bool.not_true, Bool.not_false, reduceCtorEq, beq_iff_eq, Bool.not_eq_eq_eq_not, bne_iff_ne, ne_eq, decide_not, Decidable.not_not, Classical.not_not] at h')) | (refine And.intro (a := Both _ _ _) ?_ ?_; (refine ⟨fun h => ?_, fun h => ?_⟩ <;> first | rfl | exact h | exact Bool.noConfusion h | (rw [h]; rfl) | (rw [h]; simp only [Bool.not_false, Bool.not_true, Bool.and_true]; assumption) | (simp_all; done) | fail); skip) | refine And.intro rfl ?_ | refine Two.mk ?_ ?_ | refine And.intro (allU8_bytes _) ?_ | (refine And.intro (a := (_ : Bool) = true) ?_ ?_; (first | assumption | exact decide_eq_true (by assumption) | (rw [Bool.not_eq_true']; exact decide_eq_false (by assumption)) | (rw [Bool.not_not]; exact decide_eq_true (by assumption)) | (simp_all; done) | fail); skip) | refine And.intro (Or.inr rfl) ?_ | refine And.intro (Nat.le_of_ble_eq_true rfl) ?_ | refine And.intro (decide_eq_false (by omega)) ?_ | refine And.intro (show Program.stoodInHeld _ _ = _ by kernel_rfl) (And.intro (by kernel_rfl) ?_) | refine And.intro (show Nat.beq _ _ = _ from rfl) (And.intro (by decide) ?_) | refine And.intro ⟨rfl, rfl⟩ ?_ | refine And.intro ⟨rfl, rfl, trivial⟩ ?_ | refine And.intro (Int.natCast_nonneg _) ?_ | refine Or.inl (And.intro rfl (And.intro rfl (And.intro rfl (And.intro rfl ?_)))) | refine Or.inl (And.intro rfl (And.intro rfl ?_)) | refine Or.inr (And.intro (Nat.le_of_ble_eq_true rfl) ?_) | refine Or.inl (And.intro (by unfold in64; omega) ?_) | refine And.intro (by first | omega | (simp only [dlen, true_and, and_true, Nat.le_refl, List.length_map, List.length_append, List.length_cons, List.length_nil, List.length_take, List.length_drop, List.length_replicate, Int.toNat_natCast, List.append_nil] <;> omega) | fail) ?_ | refine And.intro (allU8_bytes _) ?_ | refine And.intro (show elemsP _ _ _ by repeat' (first | exact rfl | exact trivial | constructor)) ?_ | (refine Loops.by (M := M0) 10 noPlan fol (by kernel_rfl) (ι := Nat) (fun k => ⟨[(0, AV.d (D.sl 1 (b.map byteD))), (1, AV.d (D.int .i64 w)), (2, AV.d (D.int .i64 i)), (7, AV.d (D.int .i64 (getU b w i k))), (10, AV.d (D.int .i64 w)), (11, AV.d (D.int .i64 k))], [], 16⟩) (fun k => k ≤ w) (fun k => w - k) (fun k hI => ?_) (0) (Nat.zero_le _) (Forget.mk' ⟨⟨rfl, rfl⟩, ⟨rfl, rfl⟩, ⟨rfl, rfl⟩, ⟨rfl, rfl⟩, ⟨rfl, rfl⟩, ⟨rfl, rfl⟩, trivial⟩ trivial rfl rfl); have hu := getU_lt b w i k; have h32 : 2 ^ k ≤ 2 ^ 32 := Nat.pow_le_pow_right (by omega) (by omega)) | (refine fun x hx => ?_; (try simp (disch := omega) only [Int.tdiv_eq_ediv_of_nonneg, Int.tmod_eq_emod_of_nonneg, bx, Bool.true_or, Bool.false_or, Bool.or_false, Bool.or_true, Bool.and_true, Bool.true_and, Bool.false_and, Bool.and_false, cond_true, cond_false, if_true, if_false, Bool.false_eq_true, min_nn, max_nn, min_ln, min_nl, max_ln, max_nl, getD_map, str_of_bytes, take_bytes, take_data, wrap_u64, wrap_u32, wrap_u8, shr_i64, shr_u64, shr_u32, shl_i64, shl_u64, Int.reduceToNat, Int.reducePow, Int.pow_succ, Int.pow_zero, Int.one_mul, Int.reduceMul, wrap_id, wrap_u8_nat, wrap_i64_u8, byteD_mk, map_snoc, map_app, set_map, take_map', drop_map', Nat.sub_zero, List.length_map, List.length_append, List.length_cons, List.length_nil, Int.toNat_natCast, List.drop_zero, List.take_succ_cons, List.take_zero, List.take_length, List.nil_append, List.append_nil, Nat.zero_add, toNat_pred, toNat_succ, toNat_addn, toNat_subn] at hx); subst hx) | rw [List.take_length] | (rw [List.take_of_length_le]; rotate_left; (first | omega | (simp only [dlen, true_and, and_true, Nat.le_refl, List.length_map, List.length_append, List.length_cons, List.length_nil, List.length_take, List.length_drop, List.length_replicate, Int.toNat_natCast, List.append_nil] <;> omega) | fail)) | refine fun h => ?_ | fail)); all_goals (try exact (AV.dead : AV)); all_goals (try (conv => whnf))
  · rw [get_bits (by omega)]
    exact ⟨k + 1, ⟨by omega, by omega⟩, (Forget.mk' ⟨⟨rfl, rfl⟩, ⟨rfl, rfl⟩, ⟨rfl, rfl⟩, ⟨rfl, rfl⟩, ⟨rfl, rfl⟩, ⟨rfl, rfl⟩, trivial⟩ trivial rfl rfl)⟩
  · refine ⟨k + 1, ⟨by omega, by omega⟩, ?_⟩
    rw [← get_none (by assumption)]
    exact (Forget.mk' ⟨⟨rfl, rfl⟩, ⟨rfl, rfl⟩, ⟨rfl, rfl⟩, ⟨rfl, rfl⟩, ⟨rfl, rfl⟩, ⟨rfl, rfl⟩, trivial⟩ trivial rfl rfl)
  · exact ri (by rw [getP, show w = k by omega])
end Go.Fw
namespace Go.Fw
open Go Go.Proofs
set_option maxHeartbeats 10000000
set_option maxRecDepth 100000
set_option linter.constructorNameAsVariable false
set_option linter.unusedVariables false
set_option linter.unusedSimpArgs false
def pl54 : Nat → Plan
  | 13 => tks 0 [0, 0, 0, 0, 1, 0, 0, 0, 0, 0, 0, 0, 0, 0, 0] (.one 15 (.done))
  | _ => .done
theorem packPut_con (l : List Nat) (w : Nat) (hl : l.length ≤ 1000000) (hw : w ≤ 32) (hx : ∀ x ∈ l, x < 2 ^ w) : Has Try.prog 54 [CV.d (D.sl 1 (l.map natD)), CV.d (D.int .i64 w)] (fun rs _ => rs = [CV.own 5 1 ((putP l w).map byteD), CV.d (D.int .i64 0)] ) := by
  have hm : l.length * w ≤ 32000000 := Nat.mul_le_mul hl hw; have hsz : sizeP l.length w ≤ 4000001 := (by unfold sizeP; omega)
  have hb5 : Try.prog.bytesOf 5 = 1 := by kernel_rfl
  refine Has_of_run (fn := Try.f54) (M := M0) fol (by kernel_rfl) 11 pl54 [.own] [] (by kernel_rfl) (Nat.le_of_ble_eq_true rfl) ?_
  (repeat' ((conv => whnf); first | done | (refine And.intro (fun h => ?_) (fun h => ?_) <;> (try simp only [Bool.or_eq_true, Bool.and_eq_true, Bool.or_eq_false_iff, Bool.and_eq_false_iff, toNat_pred, toNat_succ, toNat_addn, toNat_subn, decide_eq_true_eq, decide_eq_false_iff_not, Bool.not_eq_true', Bool.not_eq_false', List.length_map, Int.toNat_natCast, Int.not_lt, Int.not_le, Bool.not_eq_true, Bool.false_eq_true, Bool.true_eq_false, Bool.not_true, Bool.not_false, reduceCtorEq, beq_iff_eq, Bool.not_eq_eq_eq_not, bne_iff_ne, ne_eq, decide_not, Decidable.not_not, Classical.not_not, upP_len] at h)) | exact (rfl : (_ : AV) = _) | exact (rfl : (_ : St) = _) | refine Exists.intro (α := AV) AV.dead (And.intro (fun h => Bool.noConfusion h) ?_) | apply ex_av | (refine fun (h : (_ : Bool) = true) => ?_; have h' := h; (try simp only [Bool.or_eq_true, Bool.and_eq_true, Bool.or_eq_false_iff, Bool.and_eq_false_iff, toNat_pred, toNat_succ, toNat_addn, toNat_subn, decide_eq_true_eq, decide_eq_false_iff_not, Bool.not_eq_true', Bool.not_eq_false', List.length_map, Int.toNat_natCast, Int.not_lt, Int.not_le, Bool.not_eq_true, Bool.false_eq_true, Bool.true_eq_false, Bool.not_true, Bool.not_false, reduceCtorEq, beq_iff_eq, Bool.not_eq_eq_eq_not, bne_iff_ne, ne_eq, decide_not, Decidable.not_not, Classical.not_not, upP_len] at h')) | (refine And.intro (a := Both _ _ _) ?_ ?_; (refine ⟨fun h => ?_, fun h => ?_⟩ <;> first | rfl | exact h | exact Bool.noConfusion h | (rw [h]; rfl) | (rw [h]; simp only [Bool.not_false, Bool.not_true, Bool.and_true]; assumption) | (simp_all; done) | fail); skip) | refine And.intro rfl ?_ | refine Two.mk ?_ ?_ | refine And.intro (allU8_bytes _) ?_ | (refine And.intro (a := (_ : Bool) = true) ?_ ?_; (first | assumption | exact decide_eq_true (by assumption) | (rw [Bool.not_eq_true']; exact decide_eq_false (by assumption)) | (rw [Bool.not_not]; exact decide_eq_true (by assumption)) | (simp_all; done) | fail); skip) | refine And.intro (Or.inr rfl) ?_ | refine And.intro (Nat.le_of_ble_eq_true rfl) ?_ | refine And.intro (decide_eq_false (by omega)) ?_ | refine And.intro (show Program.stoodInHeld _ _ = _ by kernel_rfl) (And.intro (by kernel_rfl) ?_) | refine And.intro (show Nat.beq _ _ = _ from rfl) (And.intro (by decide) ?_) | refine And.intro ⟨rfl, rfl⟩ ?_ | refine And.intro ⟨rfl, rfl, trivial⟩ ?_ | refine And.intro (Int.natCast_nonneg _) ?_ | refine Or.inl (And.intro rfl (And.intro rfl (And.intro rfl (And.intro rfl ?_)))) | refine Or.inl (And.intro rfl (And.intro rfl ?_)) | refine Or.inr (And.intro (Nat.le_of_ble_eq_true rfl) ?_) | refine Or.inl (And.intro (by unfold in64; omega) ?_) | refine And.intro (by first | omega | (simp only [dlen, true_and, and_true, Nat.le_refl, List.length_map, List.length_append, List.length_cons, List.length_nil, List.length_take, List.length_drop, List.length_replicate, Int.toNat_natCast, List.append_nil, hb5, upP_len] <;> omega) | fail) ?_ | refine And.intro (allU8_bytes _) ?_ | refine And.intro (show elemsP _ _ _ by repeat' (first | exact rfl | exact trivial | constructor)) ?_ | (refine (size_con l.length w (by omega) (by omega)).mono fun rs bs hr => ?_; subst hr) | (refine Loops.by (M := M0) 11 pl54 fol (by kernel_rfl) (ι := Nat × List D) (fun ⟨i, a⟩ => ⟨[(1, AV.d (D.int .i64 w)), (6, AV.ref [6] 16 1 0 (sizeP l.length w)), (22, AV.d (D.sl 1 (l.map natD))), (23, AV.d (D.int .i64 l.length)), (24, AV.d (D.int .i64 i))], [([6], 16, AO.row 5 1 a)], 17⟩) (fun ⟨i, a⟩ => i ≤ l.length ∧ a = (upP l w (i * w) (sizeP l.length w)).map byteD) (fun ⟨i, a⟩ => l.length - i) (fun p hI => ?_) ((0, List.replicate (sizeP l.length w) (D.int .u8 0))) ⟨Nat.zero_le _, by rw [Nat.zero_mul, upP_zero, List.map_replicate]; rfl⟩ (Forget.mk' ⟨⟨rfl, rfl⟩, ⟨rfl, rfl⟩, ⟨rfl, rfl⟩, ⟨rfl, rfl⟩, ⟨rfl, rfl⟩, trivial⟩ ⟨⟨rfl, rfl, rfl⟩, trivial⟩ rfl rfl); obtain ⟨i, a⟩ := p; obtain ⟨hi, rfl⟩ := hI) | (refine Loops.by (M := M0) 11 pl54 fol (by kernel_rfl) (ι := Nat × List D) (fun ⟨k, a⟩ => ⟨[(1, AV.d (D.int .i64 w)), (6, AV.ref [6] 16 1 0 (sizeP l.length w)), (7, AV.d (D.int .i64 i)), (8, AV.d (D.int .i64 (l.getD i default))), (22, AV.d (D.sl 1 (l.map natD))), (23, AV.d (D.int .i64 l.length)), (24, AV.d (D.int .i64 i)), (37, AV.d (D.int .i64 w)), (38, AV.d (D.int .i64 k))], [([6], 16, AO.row 5 1 a)], 17⟩) (fun ⟨k, a⟩ => k ≤ w ∧ a = (upP l w (i * w + k) (sizeP l.length w)).map byteD) (fun ⟨k, a⟩ => w - k) (fun p hI => ?_) ((0, (upP l w (i * w) (sizeP l.length w)).map byteD)) ⟨Nat.zero_le _, rfl⟩ (Forget.mk' ⟨⟨rfl, rfl⟩, ⟨rfl, rfl⟩, ⟨rfl, rfl⟩, ⟨rfl, rfl⟩, ⟨rfl, rfl⟩, ⟨rfl, rfl⟩, ⟨rfl, rfl⟩, ⟨rfl, rfl⟩, ⟨rfl, rfl⟩, trivial⟩ ⟨⟨rfl, rfl, rfl⟩, trivial⟩ rfl rfl); obtain ⟨k, a⟩ := p; obtain ⟨hk, rfl⟩ := hI; have hmi : i * w ≤ 32000000 := Nat.mul_le_mul (show i ≤ 1000000 by omega) hw; have hlt : k < w → i * w + k < l.length * w := fun hk' => at_lt (by omega) hk'; have hs2 : sizeP l.length w = (l.length * w + 7) / 8 := rfl; have hul := upP_len l w (i * w + k) (sizeP l.length w)) | (refine fun x hx => ?_; (try simp (disch := omega) only [Int.tdiv_eq_ediv_of_nonneg, Int.tmod_eq_emod_of_nonneg, bx, Bool.true_or, Bool.false_or, Bool.or_false, Bool.or_true, Bool.and_true, Bool.true_and, Bool.false_and, Bool.and_false, cond_true, cond_false, if_true, if_false, Bool.false_eq_true, min_nn, max_nn, min_ln, min_nl, max_ln, max_nl, getD_map, str_of_bytes, take_bytes, take_data, wrap_u64, wrap_u32, wrap_u8, shr_i64, shr_u64, shr_u32, shl_i64, shl_u64, Int.reduceToNat, Int.reducePow, Int.pow_succ, Int.pow_zero, Int.one_mul, Int.reduceMul, wrap_id, wrap_u8_nat, wrap_i64_u8, byteD_mk, map_snoc, map_app, set_map, take_map', drop_map', Nat.sub_zero, List.length_map, List.length_append, List.length_cons, List.length_nil, Int.toNat_natCast, List.drop_zero, List.take_succ_cons, List.take_zero, List.take_length, List.nil_append, List.append_nil, Nat.zero_add, toNat_pred, toNat_succ, toNat_addn, toNat_subn, upP_len] at hx); subst hx) | rw [List.take_length] | (rw [List.take_of_length_le]; rotate_left; (first | omega | (simp only [dlen, true_and, and_true, Nat.le_refl, List.length_map, List.length_append, List.length_cons, List.length_nil, List.length_take, List.length_drop, List.length_replicate, Int.toNat_natCast, List.append_nil, hb5, upP_len] <;> omega) | fail)) | refine fun h => ?_ | fail)); all_goals (try exact (AV.dead : AV)); all_goals (try (conv => whnf))
  all_goals first
    | (exfalso; omega)
    | exact put_no (hx _ (nat_getD (i := i) (by omega))) (by assumption)
    | (refine ⟨(k + 1, _), ⟨⟨by omega, ?_⟩, by show w - (k + 1) < w - k; omega⟩, (Forget.mk' ⟨⟨rfl, rfl⟩, ⟨rfl, rfl⟩, ⟨rfl, rfl⟩, ⟨rfl, rfl⟩, ⟨rfl, rfl⟩, ⟨rfl, rfl⟩, ⟨rfl, rfl⟩, ⟨rfl, rfl⟩, ⟨rfl, rfl⟩, trivial⟩ ⟨⟨rfl, rfl, rfl⟩, trivial⟩ rfl rfl)⟩
       exact set11 (by omega) hw (hx _ (nat_getD (i := i) (by omega))) (by have := hlt (by omega); omega))
    | (refine ⟨(i + 1, _), ⟨⟨by omega, ?_⟩, by show l.length - (i + 1) < l.length - i; omega⟩, (Forget.mk' ⟨⟨rfl, rfl⟩, ⟨rfl, rfl⟩, ⟨rfl, rfl⟩, ⟨rfl, rfl⟩, ⟨rfl, rfl⟩, trivial⟩ ⟨⟨rfl, rfl, rfl⟩, trivial⟩ rfl rfl)⟩
       rw [show i * w + k = (i + 1) * w by rw [Nat.add_mul]; omega])
    | (have e : i = l.length := (by omega); rw [e]; rfl)
    | (trace_state; fail)
end Go.Fw
namespace Go.Fw
open Go
set_option linter.unusedVariables false
set_option linter.unusedSimpArgs false
theorem readP_eq {b : List UInt8} {n r n1 n2 n3 w : Nat} {e many e1 e2 e3 : Int} {c u : List UInt8} (h1 : mostS b n e many = (r, n1, e1)) (h2 : takeB b n1 e1 1 = (c, n2, e2)) (hw : byteOf1 c = (w : Int))
    (h3 : takeB b n2 e2 (sizeP r w : Nat) = (u, n3, e3)) : readP b n e many = if 32 < w then ([], n2, failE e2 3) else if u.length < sizeP r w then ([], n3, e3) else
      if widN ((List.range r).map (getP u w)) = w ∧ putP ((List.range r).map (getP u w)) w = u then ((List.range r).map (getP u w), n3, e3) else ([], n3, failE e3 3) := by
  simp only [readP, h1, h2, hw, Int.toNat_natCast, h3]
theorem getP_lt (b : List UInt8) (w i : Nat) : getP b w i < 2 ^ w := getU_lt b w i w
theorem gets_lt {u : List UInt8} {r w : Nat} : ∀ x ∈ (List.range r).map (getP u w), x < 2 ^ w := fun x hx => by
  obtain ⟨i, _, rfl⟩ := List.mem_map.1 hx
  exact getP_lt u w i
theorem gets_lt32 {u : List UInt8} {r w : Nat} (hw : w ≤ 32) : ∀ x ∈ (List.range r).map (getP u w), x < 4294967296 := fun x hx => by
  have h1 := gets_lt x hx
  have h2 : 2 ^ w ≤ 2 ^ 32 := Nat.pow_le_pow_right (by omega) hw
  omega
theorem gets_len {u : List UInt8} {r w : Nat} : ((List.range r).map (getP u w)).length = r := by simp
theorem gets_snoc {u : List UInt8} {i w : Nat} : (List.range i).map (getP u w) ++ [getP u w i] = (List.range (i + 1)).map (getP u w) := by simp [List.range_succ]
theorem takeB_len (b : List UInt8) (n : Nat) (e k : Int) : (takeB b n e k).1.length ≤ b.length := by
  unfold takeB
  split
  · simp
  · split
    · simp
    · split
      · simp
      · simp only [List.length_take, List.length_drop]; omega
end Go.Fw
namespace Go.Fw
open Go Go.Proofs
set_option maxHeartbeats 10000000
set_option maxRecDepth 100000
set_option linter.constructorNameAsVariable false
set_option linter.unusedVariables false
set_option linter.unusedSimpArgs false
theorem write03_con (l : List Nat) (hl : l.length ≤ 100000) (hx : ∀ x ∈ l, x < 4294967296) : Has Try.prog 46 [CV.d (D.sl 1 (l.map natD))] (fun rs _ => rs = [CV.own 5 1 ((pkW l).map byteD)] ) := by
  have hw : widN l ≤ 32 := widN_w hx; have hq := putN_len 8 l.length (by omega); have hpl := putP_len l (widN l); have hm : l.length * widN l ≤ 3200000 := Nat.mul_le_mul hl hw; have hpz : sizeP l.length (widN l) = (l.length * widN l + 7) / 8 := rfl
  have hb5 : Try.prog.bytesOf 5 = 1 := by kernel_rfl
  refine Has_of_run (fn := Try.f46) (M := M0) fol (by kernel_rfl) 5 noPlan [.own] [] (by kernel_rfl) (Nat.le_of_ble_eq_true rfl) ?_
  (repeat' ((conv => whnf); first | done | (refine And.intro (fun h => ?_) (fun h => ?_) <;> (try simp only [Bool.or_eq_true, Bool.and_eq_true, Bool.or_eq_false_iff, Bool.and_eq_false_iff, toNat_pred, toNat_succ, toNat_addn, toNat_subn, decide_eq_true_eq, decide_eq_false_iff_not, Bool.not_eq_true', Bool.not_eq_false', List.length_map, Int.toNat_natCast, Int.not_lt, Int.not_le, Bool.not_eq_true, Bool.false_eq_true, Bool.true_eq_false, Bool.not_true, Bool.not_false, reduceCtorEq, beq_iff_eq, Bool.not_eq_eq_eq_not, bne_iff_ne, ne_eq, decide_not, Decidable.not_not, Classical.not_not] at h)) | exact (rfl : (_ : AV) = _) | exact (rfl : (_ : St) = _) | refine Exists.intro (α := AV) AV.dead (And.intro (fun h => Bool.noConfusion h) ?_) | apply ex_av | (refine fun (h : (_ : Bool) = true) => ?_; have h' := h; (try simp only [Bool.or_eq_true, Bool.and_eq_true, Bool.or_eq_false_iff, Bool.and_eq_false_iff, toNat_pred, toNat_succ, toNat_addn, toNat_subn, decide_eq_true_eq, decide_eq_false_iff_not, Bool.not_eq_true', Bool.not_eq_false', List.length_map, Int.toNat_natCast, Int.not_lt, Int.not_le, Bool.not_eq_true, Bool.false_eq_true, Bool.true_eq_false, Bool.not_true, Bool.not_false, reduceCtorEq, beq_iff_eq, Bool.not_eq_eq_eq_not, bne_iff_ne, ne_eq, decide_not, Decidable.not_not, Classical.not_not] at h')) | (refine And.intro (a := Both _ _ _) ?_ ?_; (refine ⟨fun h => ?_, fun h => ?_⟩ <;> first | rfl | exact h | exact Bool.noConfusion h | (rw [h]; rfl) | (rw [h]; simp only [Bool.not_false, Bool.not_true, Bool.and_true]; assumption) | (simp_all; done) | fail); skip) | refine And.intro rfl ?_ | refine Two.mk ?_ ?_ | refine And.intro (allU8_bytes _) ?_ | (refine And.intro (a := (_ : Bool) = true) ?_ ?_; (first | assumption | exact decide_eq_true (by assumption) | (rw [Bool.not_eq_true']; exact decide_eq_false (by assumption)) | (rw [Bool.not_not]; exact decide_eq_true (by assumption)) | (simp_all; done) | fail); skip) | refine And.intro (Or.inr rfl) ?_ | refine And.intro (Nat.le_of_ble_eq_true rfl) ?_ | refine And.intro (decide_eq_false (by omega)) ?_ | refine And.intro (show Program.stoodInHeld _ _ = _ by kernel_rfl) (And.intro (by kernel_rfl) ?_) | refine And.intro (show Nat.beq _ _ = _ from rfl) (And.intro (by decide) ?_) | refine And.intro ⟨rfl, rfl⟩ ?_ | refine And.intro ⟨rfl, rfl, trivial⟩ ?_ | refine And.intro (Int.natCast_nonneg _) ?_ | refine Or.inl (And.intro rfl (And.intro rfl (And.intro rfl (And.intro rfl ?_)))) | refine Or.inl (And.intro rfl (And.intro rfl ?_)) | refine Or.inr (And.intro (Nat.le_of_ble_eq_true rfl) ?_) | refine Or.inl (And.intro (by unfold in64; omega) ?_) | refine And.intro (by first | omega | (simp only [dlen, true_and, and_true, Nat.le_refl, List.length_map, List.length_append, List.length_cons, List.length_nil, List.length_take, List.length_drop, List.length_replicate, Int.toNat_natCast, List.append_nil, hb5] <;> omega) | fail) ?_ | refine And.intro (allU8_bytes _) ?_ | refine And.intro (show elemsP _ _ _ by repeat' (first | exact rfl | exact trivial | constructor)) ?_ | (refine (width03_con l (by omega) hx).mono fun rs bs hr => ?_; subst hr) | (refine (put03_con l (widN l) (by omega) hw (fun x h => widN_lt h)).mono fun rs bs hr => ?_; subst hr) | (refine (put01_con l.length (by omega)).mono fun rs bs hr => ?_; subst hr) | (refine fun x hx => ?_; (try simp (disch := omega) only [Int.tdiv_eq_ediv_of_nonneg, Int.tmod_eq_emod_of_nonneg, bx, Bool.true_or, Bool.false_or, Bool.or_false, Bool.or_true, Bool.and_true, Bool.true_and, Bool.false_and, Bool.and_false, cond_true, cond_false, if_true, if_false, Bool.false_eq_true, min_nn, max_nn, min_ln, min_nl, max_ln, max_nl, getD_map, str_of_bytes, take_bytes, take_data, wrap_u64, wrap_u32, wrap_u8, shr_i64, shr_u64, shr_u32, shl_i64, shl_u64, Int.reduceToNat, Int.reducePow, Int.pow_succ, Int.pow_zero, Int.one_mul, Int.reduceMul, wrap_id, wrap_u8_nat, wrap_i64_u8, byteD_mk, map_snoc, map_app, set_map, take_map', drop_map', Nat.sub_zero, List.length_map, List.length_append, List.length_cons, List.length_nil, Int.toNat_natCast, List.drop_zero, List.take_succ_cons, List.take_zero, List.take_length, List.nil_append, List.append_nil, Nat.zero_add, toNat_pred, toNat_succ, toNat_addn, toNat_subn] at hx); subst hx) | rw [List.take_length] | (rw [List.take_of_length_le]; rotate_left; (first | omega | (simp only [dlen, true_and, and_true, Nat.le_refl, List.length_map, List.length_append, List.length_cons, List.length_nil, List.length_take, List.length_drop, List.length_replicate, Int.toNat_natCast, List.append_nil, hb5] <;> omega) | fail)) | refine fun h => ?_ | fail)); all_goals (try exact (AV.dead : AV)); all_goals (try (conv => whnf))
  rw [byte_of (n := widN l) (by omega)]; simp [pkW]
def pl56 : Nat → Plan
  | 6 => tks 0 [0, 0, 0, 1, 0, 0, 0, 1, 0] (.done)
  | _ => .done
theorem equal_con (a b : List UInt8) : Has Try.prog 56 [CV.d (D.sl 1 (a.map byteD)), CV.d (D.sl 1 (b.map byteD))] (fun rs _ => rs = [CV.d (D.bool (decide (a = b)))]) := by
  refine Has_of_run (fn := Try.f56) (M := M0) fol (by kernel_rfl) 6 pl56 [] [] (by kernel_rfl) (Nat.le_of_ble_eq_true rfl) ?_
  (repeat' ((conv => whnf); first | done | (refine And.intro (fun h => ?_) (fun h => ?_) <;> (try simp only [Bool.or_eq_true, Bool.and_eq_true, Bool.or_eq_false_iff, Bool.and_eq_false_iff, toNat_pred, toNat_succ, toNat_addn, toNat_subn, decide_eq_true_eq, decide_eq_false_iff_not, Bool.not_eq_true', Bool.not_eq_false', List.length_map, Int.toNat_natCast, Int.not_lt, Int.not_le, Bool.not_eq_true, Bool.false_eq_true, Bool.true_eq_false, Bool.not_true, Bool.not_false, reduceCtorEq, beq_iff_eq, Bool.not_eq_eq_eq_not, bne_iff_ne, ne_eq, decide_not, Decidable.not_not, Classical.not_not] at h)) | exact (rfl : (_ : AV) = _) | exact (rfl : (_ : St) = _) | refine Exists.intro (α := AV) AV.dead (And.intro (fun h => Bool.noConfusion h) ?_) | apply ex_av | (refine fun (h : (_ : Bool) = true) => ?_; have h' := h; (try simp only [Bool.or_eq_true, Bool.and_eq_true, Bool.or_eq_false_iff, Bool.and_eq_false_iff, toNat_pred, toNat_succ, toNat_addn, toNat_subn, decide_eq_true_eq, decide_eq_false_iff_not, Bool.not_eq_true', Bool.not_eq_false', List.length_map, Int.toNat_natCast, Int.not_lt, Int.not_le, Bool.not_eq_true, Bool.false_eq_true, Bool.true_eq_false, Bool.not_true, Bool.not_false, reduceCtorEq, beq_iff_eq, Bool.not_eq_eq_eq_not, bne_iff_ne, ne_eq, decide_not, Decidable.not_not, Classical.not_not] at h')) | (refine And.intro (a := Both _ _ _) ?_ ?_; (refine ⟨fun h => ?_, fun h => ?_⟩ <;> first | rfl | exact h | exact Bool.noConfusion h | (rw [h]; rfl) | (rw [h]; simp only [Bool.not_false, Bool.not_true, Bool.and_true]; assumption) | (simp_all; done) | fail); skip) | refine And.intro rfl ?_ | refine Two.mk ?_ ?_ | refine And.intro (allU8_bytes _) ?_ | (refine And.intro (a := (_ : Bool) = true) ?_ ?_; (first | assumption | exact decide_eq_true (by assumption) | (rw [Bool.not_eq_true']; exact decide_eq_false (by assumption)) | (rw [Bool.not_not]; exact decide_eq_true (by assumption)) | (simp_all; done) | fail); skip) | refine And.intro (Or.inr rfl) ?_ | refine And.intro (Nat.le_of_ble_eq_true rfl) ?_ | refine And.intro (decide_eq_false (by omega)) ?_ | refine And.intro (show Program.stoodInHeld _ _ = _ by kernel_rfl) (And.intro (by kernel_rfl) ?_) | refine And.intro (show Nat.beq _ _ = _ from rfl) (And.intro (by decide) ?_) | refine And.intro ⟨rfl, rfl⟩ ?_ | refine And.intro ⟨rfl, rfl, trivial⟩ ?_ | refine And.intro (Int.natCast_nonneg _) ?_ | refine Or.inl (And.intro rfl (And.intro rfl (And.intro rfl (And.intro rfl ?_)))) | refine Or.inl (And.intro rfl (And.intro rfl ?_)) | refine Or.inr (And.intro (Nat.le_of_ble_eq_true rfl) ?_) | refine Or.inl (And.intro (by unfold in64; omega) ?_) | refine And.intro (by first | omega | (simp only [dlen, true_and, and_true, Nat.le_refl, List.length_map, List.length_append, List.length_cons, List.length_nil, List.length_take, List.length_drop, List.length_replicate, Int.toNat_natCast, List.append_nil] <;> omega) | fail) ?_ | refine And.intro (allU8_bytes _) ?_ | refine And.intro (show elemsP _ _ _ by repeat' (first | exact rfl | exact trivial | constructor)) ?_ | (refine Loops.by (M := M0) 6 pl56 fol (by kernel_rfl) (ι := Nat) (fun i => ⟨[(0, AV.d (D.sl 1 (a.map byteD))), (1, AV.d (D.sl 1 (b.map byteD))), (12, AV.d (D.int .i64 a.length)), (13, AV.d (D.int .i64 i))], [], 16⟩) (fun i => i ≤ a.length ∧ ∀ j, j < i → a.getD j default = b.getD j default) (fun i => a.length - i) (fun i hI => ?_) (0) ⟨Nat.zero_le _, fun j h => absurd h (Nat.not_lt_zero _)⟩ (Forget.mk' ⟨⟨rfl, rfl⟩, ⟨rfl, rfl⟩, ⟨rfl, rfl⟩, ⟨rfl, rfl⟩, trivial⟩ trivial rfl rfl); obtain ⟨hi, hok⟩ := hI) | (refine fun x hx => ?_; (try simp (disch := omega) only [Int.tdiv_eq_ediv_of_nonneg, Int.tmod_eq_emod_of_nonneg, bx, Bool.true_or, Bool.false_or, Bool.or_false, Bool.or_true, Bool.and_true, Bool.true_and, Bool.false_and, Bool.and_false, cond_true, cond_false, if_true, if_false, Bool.false_eq_true, min_nn, max_nn, min_ln, min_nl, max_ln, max_nl, getD_map, str_of_bytes, take_bytes, take_data, wrap_u64, wrap_u32, wrap_u8, shr_i64, shr_u64, shr_u32, shl_i64, shl_u64, Int.reduceToNat, Int.reducePow, Int.pow_succ, Int.pow_zero, Int.one_mul, Int.reduceMul, wrap_id, wrap_u8_nat, wrap_i64_u8, byteD_mk, map_snoc, map_app, set_map, take_map', drop_map', Nat.sub_zero, List.length_map, List.length_append, List.length_cons, List.length_nil, Int.toNat_natCast, List.drop_zero, List.take_succ_cons, List.take_zero, List.take_length, List.nil_append, List.append_nil, Nat.zero_add, toNat_pred, toNat_succ, toNat_addn, toNat_subn] at hx); subst hx) | rw [List.take_length] | (rw [List.take_of_length_le]; rotate_left; (first | omega | (simp only [dlen, true_and, and_true, Nat.le_refl, List.length_map, List.length_append, List.length_cons, List.length_nil, List.length_take, List.length_drop, List.length_replicate, Int.toNat_natCast, List.append_nil] <;> omega) | fail)) | refine fun h => ?_ | fail)); all_goals (try exact (AV.dead : AV)); all_goals (try (conv => whnf))
  all_goals first
    | exact rb (by rw [decide_eq_false]; rintro rfl; simp_all)
    | exact ⟨i + 1, ⟨⟨by omega, upto_succ hok (UInt8.toNat_inj.1 (by omega))⟩, by omega⟩, (Forget.mk' ⟨⟨rfl, rfl⟩, ⟨rfl, rfl⟩, ⟨rfl, rfl⟩, ⟨rfl, rfl⟩, trivial⟩ trivial rfl rfl)⟩
    | exact rb (by rw [decide_eq_true]; exact ext_getD (by omega) (fun j hj => hok j (by omega)))
    | (trace_state; fail)
end Go.Fw
namespace Go.Fw
open Go
set_option linter.unusedVariables false
set_option linter.unusedSimpArgs false
 
theorem Has.normR {P : Program} {g : FuncId} {args : List CV} {R R' : List CV → List CV → Prop} (h : Has P g args R) (hr : ∀ rs bs, R rs bs → ∃ rs', rs'.map CV.norm = rs.map CV.norm ∧ R' rs' bs) : Has P g args R' := by
  constructor
  intro F w vs fp h1 h2 h3 h4
  have key : ∀ v w', (∃ rs az F' vr f1 f2, R rs az ∧ Left F w vs fp rs az v w' F' vr f1 f2) → ∃ rs az F' vr f1 f2, R' rs az ∧ Left F w vs fp rs az v w' F' vr f1 f2 := by
    rintro v w' ⟨rs, az, F', vr, f1, f2, hR, l⟩
    obtain ⟨rs', he, hR'⟩ := hr rs az hR
    exact ⟨rs', az, F', vr, f1, f2, hR', l.res, (CRl_norm rs' vr f1).1 (he ▸ (CRl_norm rs vr f1).2 l.rs), l.az, l.nodup, l.sep, l.lt, l.sub, l.keep, l.new, l.os, l.tape, l.output, l.size⟩
  have := h.con F w vs fp h1 h2 h3 h4
  unfold Enters at this ⊢
  split at this
  · exact key _ _ this
  · refine this.mono fun e w' he => ?_
    cases e
    · exact key _ _ he
    · exact he
    · exact he
  · exact this.mono fun v w' he => key _ _ he
  · exact this.elim
theorem norm_nil (z z' : Nat) : D.norm (.sl z []) = D.norm (.sl z' []) := rfl
end Go.Fw
namespace Go.Fw
open Go Go.Proofs
set_option maxHeartbeats 10000000
set_option maxRecDepth 100000
set_option linter.constructorNameAsVariable false
set_option linter.unusedVariables false
set_option linter.unusedSimpArgs false
def M38 : FuncId → List Mode := fun g => if g = 37 then [.own] else if g = 39 then [.own] else if g = 50 then [.own] else if g = 51 then [.own] else []
theorem read_step (b c u : List UInt8) (n r n1 n2 n3 w : Nat) (e many e1 e2 e3 : Int) (hb : b.length ≤ 1000000000) (hn : n ≤ b.length) (h0 : 0 ≤ many) (hm : many ≤ 100000) (h1 : mostS b n e many = (r, n1, e1)) (h2 : takeB b n1 e1 1 = (c, n2, e2)) (hw : byteOf1 c = (w : Int)) (h3 : takeB b n2 e2 (sizeP r w : Nat) = (u, n3, e3)) (hn1 : n1 ≤ b.length) (hn2 : n2 ≤ b.length) (hn3 : n3 ≤ b.length) (hr : (r : Int) ≤ many) (hul : u.length ≤ b.length) : Has Try.prog 38 [curC b n e, CV.d (D.int .i64 many)] (fun rs bs => (∃ z, (z = 1 ∨ (readP b n e many).1 = []) ∧ rs = [CV.d (D.sl z ((readP b n e many).1.map natD))]) ∧ bs = [curC b (readP b n e many).2.1 (readP b n e many).2.2, .gone] ) := by
  rw [readP_eq h1 h2 hw h3]
  have hb3 : Try.prog.bytesOf 3 = 8 := by kernel_rfl
  refine Has_of_run (fn := Try.f38) (M := M38) fol (by kernel_rfl) 12 noPlan [] [true] (by kernel_rfl) (Nat.le_of_ble_eq_true rfl) ?_
  (repeat' ((conv => whnf); first | done | (refine And.intro (fun h => ?_) (fun h => ?_) <;> (try simp only [Bool.or_eq_true, Bool.and_eq_true, Bool.or_eq_false_iff, Bool.and_eq_false_iff, toNat_pred, toNat_succ, toNat_addn, toNat_subn, decide_eq_true_eq, decide_eq_false_iff_not, Bool.not_eq_true', Bool.not_eq_false', List.length_map, Int.toNat_natCast, Int.not_lt, Int.not_le, Bool.not_eq_true, Bool.false_eq_true, Bool.true_eq_false, Bool.not_true, Bool.not_false, reduceCtorEq, beq_iff_eq, Bool.not_eq_eq_eq_not, bne_iff_ne, ne_eq, decide_not, Decidable.not_not, Classical.not_not, gets_len, List.length_range] at h)) | exact (rfl : (_ : AV) = _) | exact (rfl : (_ : St) = _) | refine Exists.intro (α := AV) AV.dead (And.intro (fun h => Bool.noConfusion h) ?_) | apply ex_av | (refine fun (h : (_ : Bool) = true) => ?_; have h' := h; (try simp only [Bool.or_eq_true, Bool.and_eq_true, Bool.or_eq_false_iff, Bool.and_eq_false_iff, toNat_pred, toNat_succ, toNat_addn, toNat_subn, decide_eq_true_eq, decide_eq_false_iff_not, Bool.not_eq_true', Bool.not_eq_false', List.length_map, Int.toNat_natCast, Int.not_lt, Int.not_le, Bool.not_eq_true, Bool.false_eq_true, Bool.true_eq_false, Bool.not_true, Bool.not_false, reduceCtorEq, beq_iff_eq, Bool.not_eq_eq_eq_not, bne_iff_ne, ne_eq, decide_not, Decidable.not_not, Classical.not_not, gets_len, List.length_range] at h')) | (refine And.intro (a := Both _ _ _) ?_ ?_; (refine ⟨fun h => ?_, fun h => ?_⟩ <;> first | rfl | exact h | exact Bool.noConfusion h | (rw [h]; rfl) | (rw [h]; simp only [Bool.not_false, Bool.not_true, Bool.and_true]; assumption) | (simp_all; done) | fail); skip) | refine And.intro rfl ?_ | refine Two.mk ?_ ?_ | refine And.intro (allU8_bytes _) ?_ | (refine And.intro (a := (_ : Bool) = true) ?_ ?_; (first | assumption | exact decide_eq_true (by assumption) | (rw [Bool.not_eq_true']; exact decide_eq_false (by assumption)) | (rw [Bool.not_not]; exact decide_eq_true (by assumption)) | (simp_all; done) | fail); skip) | refine And.intro (Or.inr rfl) ?_ | refine And.intro (Nat.le_of_ble_eq_true rfl) ?_ | refine And.intro (decide_eq_false (by omega)) ?_ | refine And.intro (show Program.stoodInHeld _ _ = _ by kernel_rfl) (And.intro (by kernel_rfl) ?_) | refine And.intro (show Nat.beq _ _ = _ from rfl) (And.intro (by decide) ?_) | refine And.intro ⟨rfl, rfl⟩ ?_ | refine And.intro ⟨rfl, rfl, trivial⟩ ?_ | refine And.intro (Int.natCast_nonneg _) ?_ | refine Or.inl (And.intro rfl (And.intro rfl (And.intro rfl (And.intro rfl ?_)))) | refine Or.inl (And.intro rfl (And.intro rfl ?_)) | refine Or.inr (And.intro (Nat.le_of_ble_eq_true rfl) ?_) | refine Or.inl (And.intro (by unfold in64; omega) ?_) | refine And.intro (by first | omega | (simp only [dlen, true_and, and_true, Nat.le_refl, List.length_map, List.length_append, List.length_cons, List.length_nil, List.length_take, List.length_drop, List.length_replicate, Int.toNat_natCast, List.append_nil, hb3, gets_len, List.length_range] <;> omega) | fail) ?_ | refine And.intro (allU8_bytes _) ?_ | refine And.intro (show elemsP _ _ _ by repeat' (first | exact rfl | exact trivial | constructor)) ?_ | (refine (curMost_con _ _ _ _ hb (by assumption)).mono fun rs bs hr => ?_; obtain ⟨rfl, rfl⟩ := hr; simp only [h1]) | (refine (curByte_con _ _ _ hb (by assumption)).mono fun rs bs hr => ?_; obtain ⟨rfl, rfl⟩ := hr; simp only [h2, hw]) | (refine (curFail_con _ _ _ _).mono fun rs bs hr => ?_; obtain ⟨rfl, rfl⟩ := hr) | (refine (size_con r w (by omega) (by omega)).mono fun rs bs hr => ?_; subst hr) | (refine (curBytes_con _ _ _ _ hb (by assumption)).mono fun rs bs hr => ?_; obtain ⟨rfl, rfl⟩ := hr; simp only [h3]) | (refine (get_con u w _ (by omega) (by omega) (by omega)).mono fun rs bs hr => ?_; subst hr) | (refine (packPut_con _ w (by rw [gets_len]; omega) (by omega) gets_lt).mono fun rs bs hr => ?_; subst hr) | (refine (packWidth_con _ (by rw [gets_len]; omega) (gets_lt32 (by omega))).mono fun rs bs hr => ?_; subst hr) | (refine (equal_con _ u).mono fun rs bs hr => ?_; subst hr) | (refine Loops.by (M := M38) 12 noPlan fol (by kernel_rfl) (ι := Nat) (fun i => ⟨[(0, AV.addr [0] 0 0), (6, AV.d (D.int .i64 w)), (7, AV.d (D.sl 1 (u.map byteD))), (8, AV.ref [8] 16 1 0 (((List.range i).map (getP u w)).map natD).length), (32, AV.d (D.int .i64 r)), (33, AV.d (D.int .i64 i))], [([0], 0, AO.box 62 [AV.d (D.sl 1 (b.map byteD)), AV.d (D.int .i64 n3), AV.d (D.int .i64 e3)]), ([8], 16, AO.row 3 1 (((List.range i).map (getP u w)).map natD))], 17⟩) (fun i => i ≤ r) (fun i => r - i) (fun i hI => ?_) (0) (Nat.zero_le _) (Forget.mk' ⟨⟨rfl, rfl⟩, ⟨rfl, rfl⟩, ⟨rfl, rfl⟩, ⟨rfl, rfl⟩, ⟨rfl, rfl⟩, ⟨rfl, rfl⟩, trivial⟩ ⟨⟨rfl, rfl, rfl⟩, ⟨rfl, rfl, rfl⟩, trivial⟩ rfl rfl)) | (refine fun x hx => ?_; (try simp (disch := omega) only [Int.tdiv_eq_ediv_of_nonneg, Int.tmod_eq_emod_of_nonneg, bx, Bool.true_or, Bool.false_or, Bool.or_false, Bool.or_true, Bool.and_true, Bool.true_and, Bool.false_and, Bool.and_false, cond_true, cond_false, if_true, if_false, Bool.false_eq_true, min_nn, max_nn, min_ln, min_nl, max_ln, max_nl, getD_map, str_of_bytes, take_bytes, take_data, wrap_u64, wrap_u32, wrap_u8, shr_i64, shr_u64, shr_u32, shl_i64, shl_u64, Int.reduceToNat, Int.reducePow, Int.pow_succ, Int.pow_zero, Int.one_mul, Int.reduceMul, wrap_id, wrap_u8_nat, wrap_i64_u8, byteD_mk, map_snoc, map_app, set_map, take_map', drop_map', Nat.sub_zero, List.length_map, List.length_append, List.length_cons, List.length_nil, Int.toNat_natCast, List.drop_zero, List.take_succ_cons, List.take_zero, List.take_length, List.nil_append, List.append_nil, Nat.zero_add, toNat_pred, toNat_succ, toNat_addn, toNat_subn, gets_len, List.length_range, snocN, gets_snoc] at hx); subst hx) | rw [List.take_length] | (rw [List.take_of_length_le]; rotate_left; (first | omega | (simp only [dlen, true_and, and_true, Nat.le_refl, List.length_map, List.length_append, List.length_cons, List.length_nil, List.length_take, List.length_drop, List.length_replicate, Int.toNat_natCast, List.append_nil, hb3, gets_len, List.length_range] <;> omega) | fail)) | refine fun h => ?_ | fail)); all_goals (try exact (AV.dead : AV)); all_goals (try (conv => whnf))
  all_goals first
    | (rw [if_pos (by omega)]; exact ⟨⟨_, .inr rfl, rfl⟩, rfl⟩)
    | (rw [if_neg (by omega), if_pos (by omega)]; exact ⟨⟨_, .inr rfl, rfl⟩, rfl⟩)
    | exact ⟨i + 1, ⟨by omega, by omega⟩, (Forget.mk' ⟨⟨rfl, rfl⟩, ⟨rfl, rfl⟩, ⟨rfl, rfl⟩, ⟨rfl, rfl⟩, ⟨rfl, rfl⟩, ⟨rfl, rfl⟩, trivial⟩ ⟨⟨rfl, rfl, rfl⟩, ⟨rfl, rfl, rfl⟩, trivial⟩ rfl rfl)⟩
    | (have hir : i = r := by omega
       subst hir
       have h32 : ¬ 32 < w := by omega
       have hul' : ¬ u.length < sizeP i w := by omega
       rw [if_neg h32, if_neg hul']
       by_cases hc : widN ((List.range i).map (getP u w)) = w ∧ putP ((List.range i).map (getP u w)) w = u
       · first
           | (exfalso; omega)
           | (exfalso; exact absurd hc.2 (by assumption))
           | (rw [if_pos hc]; exact ⟨⟨_, .inl rfl, rfl⟩, rfl⟩)
           | (trace_state; fail)
       · first
           | (rw [if_neg hc]; exact ⟨⟨_, .inr rfl, rfl⟩, rfl⟩)
           | exact absurd ⟨by omega, by assumption⟩ hc
           | (trace_state; fail))
    | (trace_state; fail)
theorem packRead_con (b : List UInt8) (n : Nat) (e many : Int) (hb : b.length ≤ 1000000000) (hn : n ≤ b.length) (h0 : 0 ≤ many) (hm : many ≤ 100000) : Has Try.prog 38 [curC b n e, CV.d (D.int .i64 many)] (fun rs bs => rs = [CV.d (D.sl 1 ((readP b n e many).1.map natD))] ∧ bs = [curC b (readP b n e many).2.1 (readP b n e many).2.2, .gone]) := by
  have l1 : (mostS b n e many).2.1 ≤ b.length := mostS_le hn
  have l2 : (takeB b (mostS b n e many).2.1 (mostS b n e many).2.2 1).2.1 ≤ b.length := takeB_le l1
  have hw := byteOf1_le (takeB b (mostS b n e many).2.1 (mostS b n e many).2.2 1).1
  have l3 := takeB_le (k := (sizeP (mostS b n e many).1 (byteOf1 (takeB b (mostS b n e many).2.1 (mostS b n e many).2.2 1).1).toNat : Nat)) (e := (takeB b (mostS b n e many).2.1 (mostS b n e many).2.2 1).2.2) l2
  refine (read_step b _ _ n _ _ _ _ (byteOf1 (takeB b (mostS b n e many).2.1 (mostS b n e many).2.2 1).1).toNat e many _ _ _ hb hn h0 hm rfl rfl (Int.toNat_of_nonneg hw.1).symm rfl l1 l2 l3 (mostS_most b n e h0) (takeB_len _ _ _ _)).normR fun rs bs h => ?_
  obtain ⟨⟨z, hz, rfl⟩, rfl⟩ := h
  refine ⟨_, ?_, rfl, rfl⟩
  rcases hz with rfl | hz
  · rfl
  · rw [hz]; rfl
end Go.Fw
namespace Go.Fw
open Go
set_option linter.unusedVariables false
set_option linter.unusedSimpArgs false
def lastB (l : List ByteArray) : ByteArray := l.getD (l.length - 1) default
theorem lastB_snoc (l : List ByteArray) (s : ByteArray) : lastB (l ++ [s]) = s := by
  simp [lastB, List.getD_eq_getElem?_getD]
theorem lastB_one (s : ByteArray) : lastB [s] = s := rfl
theorem takGo_bad {b : List UInt8} {m n : Nat} {out : List ByteArray} {p : ByteArray} {e : Int} (h : ¬ (textS b (mostS b n e (p.size : Int)).2.1 (mostS b n e (p.size : Int)).2.2).2.2 = 0) :
    takGo b (m + 1) out p n e = (false, [], (textS b (mostS b n e (p.size : Int)).2.1 (mostS b n e (p.size : Int)).2.2).2.1, (textS b (mostS b n e (p.size : Int)).2.1 (mostS b n e (p.size : Int)).2.2).2.2) := by
  simp only [takGo, if_neg h]
theorem takGo_ok {b : List UInt8} {m n : Nat} {out : List ByteArray} {p : ByteArray} {e : Int} (h : (textS b (mostS b n e (p.size : Int)).2.1 (mostS b n e (p.size : Int)).2.2).2.2 = 0) :
    takGo b (m + 1) out p n e = takGo b m (out ++ [p.extract 0 (mostS b n e (p.size : Int)).1 ++ (textS b (mostS b n e (p.size : Int)).2.1 (mostS b n e (p.size : Int)).2.2).1])
      (p.extract 0 (mostS b n e (p.size : Int)).1 ++ (textS b (mostS b n e (p.size : Int)).2.1 (mostS b n e (p.size : Int)).2.2).1) (textS b (mostS b n e (p.size : Int)).2.1 (mostS b n e (p.size : Int)).2.2).2.1
      (if lcpS p (p.extract 0 (mostS b n e (p.size : Int)).1 ++ (textS b (mostS b n e (p.size : Int)).2.1 (mostS b n e (p.size : Int)).2.2).1) = (mostS b n e (p.size : Int)).1 then 0 else 3) := by
  simp only [takGo, if_pos h]
theorem takS_bad {b : List UInt8} {cnt size n n' : Nat} {e e' : Int} {o : List ByteArray} (h : takGo b (cnt - 1) [(textS b n e).1] (textS b n e).1 (textS b n e).2.1 (textS b n e).2.2 = (false, o, n', e')) : takS b cnt size n e = ([], n', e') := by
  simp only [takS, h]
  rfl
theorem takS_good {b : List UInt8} {cnt size n n' : Nat} {e e' : Int} {o : List ByteArray} (h : takGo b (cnt - 1) [(textS b n e).1] (textS b n e).1 (textS b n e).2.1 (textS b n e).2.2 = (true, o, n', e')) : takS b cnt size n e = (o, n', if n + size = n' then e' else failE e' 3) := by
  simp only [takS, h]
  rfl
theorem textS_size (b : List UInt8) (n : Nat) (e : Int) : (textS b n e).1.size ≤ 4096 := by
  have h := mostS_most b n e (k := 4096) (by omega)
  simp only [textS]
  generalize mostS b n e 4096 = r at *
  show (strB _).data.toList.length ≤ _
  simp only [strB]
  unfold takeB
  split
  · simp
  · split
    · simp
    · split
      · simp
      · simp only [List.length_take, List.length_drop]; omega
theorem cat_size (p t : ByteArray) (k : Nat) : (p.extract 0 k ++ t).size ≤ p.size + t.size := by
  simp only [ByteArray.size_append, ByteArray.size_extract]; omega
theorem takGo_len : ∀ (b : List UInt8) (m : Nat) (out : List ByteArray) (p : ByteArray) (n : Nat) (e : Int), (takGo b m out p n e).2.1.length ≤ out.length + m
  | b, 0, out, p, n, e => by simp [takGo]
  | b, m + 1, out, p, n, e => by
    by_cases h : (textS b (mostS b n e (p.size : Int)).2.1 (mostS b n e (p.size : Int)).2.2).2.2 = 0
    · rw [takGo_ok h]
      have := takGo_len b m (out ++ [p.extract 0 (mostS b n e (p.size : Int)).1 ++ (textS b (mostS b n e (p.size : Int)).2.1 (mostS b n e (p.size : Int)).2.2).1]) (p.extract 0 (mostS b n e (p.size : Int)).1 ++ (textS b (mostS b n e (p.size : Int)).2.1 (mostS b n e (p.size : Int)).2.2).1) (textS b (mostS b n e (p.size : Int)).2.1 (mostS b n e (p.size : Int)).2.2).2.1 (if lcpS p (p.extract 0 (mostS b n e (p.size : Int)).1 ++ (textS b (mostS b n e (p.size : Int)).2.1 (mostS b n e (p.size : Int)).2.2).1) = (mostS b n e (p.size : Int)).1 then 0 else 3)
      simp only [List.length_append, List.length_cons, List.length_nil] at this
      omega
    · rw [takGo_bad h]
      simp
theorem takGo_le : ∀ (b : List UInt8) (m : Nat) (out : List ByteArray) (p : ByteArray) (n : Nat) (e : Int), n ≤ b.length → (takGo b m out p n e).2.2.1 ≤ b.length
  | b, 0, out, p, n, e, hn => by simpa [takGo] using hn
  | b, m + 1, out, p, n, e, hn => by
    have h1 : (textS b (mostS b n e (p.size : Int)).2.1 (mostS b n e (p.size : Int)).2.2).2.1 ≤ b.length := textS_le (mostS_le hn)
    by_cases h : (textS b (mostS b n e (p.size : Int)).2.1 (mostS b n e (p.size : Int)).2.2).2.2 = 0
    · rw [takGo_ok h]
      exact takGo_le b m _ _ _ _ h1
    · rw [takGo_bad h]
      exact h1
theorem takS_len (b : List UInt8) (cnt size n : Nat) (e : Int) : (takS b cnt size n e).1.length ≤ cnt + 1 := by
  have h := takGo_len b (cnt - 1) [(textS b n e).1] (textS b n e).1 (textS b n e).2.1 (textS b n e).2.2
  simp only [takS]
  split
  · simp only [List.length_cons, List.length_nil] at h
    exact Nat.le_trans h (by omega)
  · simp
theorem takS_le {b : List UInt8} {cnt size n : Nat} {e : Int} (hn : n ≤ b.length) : (takS b cnt size n e).2.1 ≤ b.length := by
  have h := takGo_le b (cnt - 1) [(textS b n e).1] (textS b n e).1 (textS b n e).2.1 (textS b n e).2.2 (textS_le hn)
  simp only [takS]
  split <;> exact h
theorem ex_size (p : ByteArray) (k : Nat) : (p.extract 0 k).size ≤ p.size := by
  simp only [ByteArray.size_extract]; omega
theorem tak_end {b : List UInt8} {cnt size n i n' : Nat} {e e' : Int} {out : List ByteArray} (hi : i ≤ cnt - 1) (h : (cnt : Int) - 1 ≤ i)
    (hgo : takGo b (cnt - 1 - i) out (lastB out) n' e' = takGo b (cnt - 1) [(textS b n e).1] (textS b n e).1 (textS b n e).2.1 (textS b n e).2.2) : takS b cnt size n e = (out, n', if n + size = n' then e' else failE e' 3) := by
  refine takS_good ?_
  rw [← hgo, show cnt - 1 - i = 0 by omega]
  rfl
theorem tak_no {b : List UInt8} {cnt size n i n' : Nat} {e e' : Int} {out : List ByteArray} (h : (i : Int) < (cnt : Int) - 1) (hb : ¬ (textS b (mostS b n' e' ((lastB out).size : Int)).2.1 (mostS b n' e' ((lastB out).size : Int)).2.2).2.2 = 0)
    (hgo : takGo b (cnt - 1 - i) out (lastB out) n' e' = takGo b (cnt - 1) [(textS b n e).1] (textS b n e).1 (textS b n e).2.1 (textS b n e).2.2) :
    takS b cnt size n e = ([], (textS b (mostS b n' e' ((lastB out).size : Int)).2.1 (mostS b n' e' ((lastB out).size : Int)).2.2).2.1, (textS b (mostS b n' e' ((lastB out).size : Int)).2.1 (mostS b n' e' ((lastB out).size : Int)).2.2).2.2) := by
  refine takS_bad (o := []) ?_
  rw [← hgo, show cnt - 1 - i = cnt - 1 - i - 1 + 1 by omega, takGo_bad hb]
theorem tak_round {b : List UInt8} {cnt i n' : Nat} {e' E : Int} {out : List ByteArray} {T : Bool × List ByteArray × Nat × Int} (h : (i : Int) < (cnt : Int) - 1) (hb : (textS b (mostS b n' e' ((lastB out).size : Int)).2.1 (mostS b n' e' ((lastB out).size : Int)).2.2).2.2 = 0)
    (hgo : takGo b (cnt - 1 - i) out (lastB out) n' e' = T)
    (hE : E = if lcpS (lastB out) ((lastB out).extract 0 (mostS b n' e' ((lastB out).size : Int)).1 ++ (textS b (mostS b n' e' ((lastB out).size : Int)).2.1 (mostS b n' e' ((lastB out).size : Int)).2.2).1) = (mostS b n' e' ((lastB out).size : Int)).1 then 0 else 3) :
    takGo b (cnt - 1 - (i + 1)) (out ++ [(lastB out).extract 0 (mostS b n' e' ((lastB out).size : Int)).1 ++ (textS b (mostS b n' e' ((lastB out).size : Int)).2.1 (mostS b n' e' ((lastB out).size : Int)).2.2).1])
      (lastB (out ++ [(lastB out).extract 0 (mostS b n' e' ((lastB out).size : Int)).1 ++ (textS b (mostS b n' e' ((lastB out).size : Int)).2.1 (mostS b n' e' ((lastB out).size : Int)).2.2).1]))
      (textS b (mostS b n' e' ((lastB out).size : Int)).2.1 (mostS b n' e' ((lastB out).size : Int)).2.2).2.1 E = T := by
  rw [hE, lastB_snoc, ← takGo_ok hb, ← hgo]
  congr 1
  omega
theorem okF_noI {t : List ByteArray} {i : Nat} (h : (4096 : Int) < (t.getD i default).size ∨ 0 < (i : Int) ∧ slt (t.getD (i - 1) default) (t.getD i default) = false) : okF t i = false :=
  okF_no (h.imp (fun h => by omega) fun h => ⟨by omega, h.2⟩)
theorem quo_up (m k : Nat) : 0 ≤ ((m : Int) + k - 1) / k ∧ ((m : Int) + k - 1) / k ≤ m + k ∧ (0 < k → ((m : Int) + k - 1) / k = (((m + k - 1) / k : Nat) : Int)) := by
  by_cases hk : k = 0
  · subst hk
    simp
  · have e : (m : Int) + k - 1 = ((m + k - 1 : Nat) : Int) := by omega
    rw [e, ← Int.natCast_ediv]
    have := Nat.div_le_self (m + k - 1) k
    exact ⟨Int.natCast_nonneg _, by omega, fun _ => rfl⟩
theorem quo_lt {m k i L : Nat} (h : ¬ (k : Int) = 0 ∧ (L : Int) = ((m : Int) + k - 1) / k) (hi : (i : Int) < L) : i * k < m := by
  have hk : 0 < k := by omega
  have h1 := (quo_up m k).2.2 hk
  have h2 : L = (m + k - 1) / k := by have := h.2; omega
  have h3 : (i + 1) * k ≤ L * k := Nat.mul_le_mul_right _ (by omega)
  have h4 : L * k ≤ m + k - 1 := by rw [h2]; exact Nat.div_mul_le_self _ _
  rw [Nat.add_mul, Nat.one_mul] at h3
  omega
section
variable {b : List UInt8} {zs : List Nat} {n m k n1 n2 n3 n' i : Nat} {e e1 e2 e3 e' : Int} {l o : List ByteArray}
theorem openS_eq (h1 : mostS b n e 4096 = (m, n1, e1)) (h2 : mostS b n1 e1 64 = (k, n2, e2)) (h3 : readP b n2 e2 4096 = (zs, n3, e3)) :
    openS b n e = if k = 0 ∨ zs.length ≠ (m + k - 1) / k then ([], n3, failE e3 3) else
      if (opGo b k m zs 0 [] n3 e3).1 then (if rightF (opGo b k m zs 0 [] n3 e3).2.1 k && decide ((opGo b k m zs 0 [] n3 e3).2.2.2 = 0) then ((opGo b k m zs 0 [] n3 e3).2.1, (opGo b k m zs 0 [] n3 e3).2.2.1, 0)
        else ([], (opGo b k m zs 0 [] n3 e3).2.2.1, if rightF (opGo b k m zs 0 [] n3 e3).2.1 k then (opGo b k m zs 0 [] n3 e3).2.2.2 else failE (opGo b k m zs 0 [] n3 e3).2.2.2 3))
      else ([], (opGo b k m zs 0 [] n3 e3).2.2.1, (opGo b k m zs 0 [] n3 e3).2.2.2) := by
  simp only [openS, h1, h2, h3]
theorem op_cond (h : ¬ (k : Int) = 0 ∧ (zs.length : Int) = ((m : Int) + k - 1) / k) : ¬ (k = 0 ∨ zs.length ≠ (m + k - 1) / k) := by
  have h1 := (quo_up m k).2.2 (by omega)
  have := h.2
  omega
theorem op_bad (h1 : mostS b n e 4096 = (m, n1, e1)) (h2 : mostS b n1 e1 64 = (k, n2, e2)) (h3 : readP b n2 e2 4096 = (zs, n3, e3)) (hc : (k : Int) = 0 ∨ ¬ (zs.length : Int) = ((m : Int) + k - 1) / k) : openS b n e = ([], n3, failE e3 3) := by
  rw [openS_eq h1 h2 h3, if_pos]
  rcases hc with hc | hc
  · exact .inl (by omega)
  · by_cases hk : k = 0
    · exact .inl hk
    · have h4 := (quo_up m k).2.2 (by omega)
      exact .inr (by omega)
theorem op_no (h1 : mostS b n e 4096 = (m, n1, e1)) (h2 : mostS b n1 e1 64 = (k, n2, e2)) (h3 : readP b n2 e2 4096 = (zs, n3, e3)) (hc : ¬ (k : Int) = 0 ∧ (zs.length : Int) = ((m : Int) + k - 1) / k)
    (hg : opGo b k m (zs.drop i) i l n' e' = opGo b k m zs 0 [] n3 e3) (hi : (i : Int) < zs.length) (hb : ¬ (takS b (min k (m - i * k)) (zs.getD i default) n' e').2.2 = 0) :
    openS b n e = ([], (takS b (min k (m - i * k)) (zs.getD i default) n' e').2.1, (takS b (min k (m - i * k)) (zs.getD i default) n' e').2.2) := by
  have e0 : zs.drop i = zs.getD i default :: zs.drop (i + 1) := by
    rw [List.drop_eq_getElem_cons (by omega)]
    simp [List.getD_eq_getElem?_getD, show i < zs.length by omega]
  rw [openS_eq h1 h2 h3, if_neg (op_cond hc), ← hg, e0]
  simp only [opGo, if_neg hb]
  rfl
theorem op_round {T : Bool × List ByteArray × Nat × Int} (hg : opGo b k m (zs.drop i) i l n' e' = T) (hi : (i : Int) < zs.length) (hb : (takS b (min k (m - i * k)) (zs.getD i default) n' e').2.2 = 0) :
    opGo b k m (zs.drop (i + 1)) (i + 1) (l ++ (takS b (min k (m - i * k)) (zs.getD i default) n' e').1) (takS b (min k (m - i * k)) (zs.getD i default) n' e').2.1 (takS b (min k (m - i * k)) (zs.getD i default) n' e').2.2 = T := by
  have e0 : zs.drop i = zs.getD i default :: zs.drop (i + 1) := by
    rw [List.drop_eq_getElem_cons (by omega)]
    simp [List.getD_eq_getElem?_getD, show i < zs.length by omega]
  rw [← hg, e0]
  simp only [opGo, if_pos hb]
theorem op_end (h1 : mostS b n e 4096 = (m, n1, e1)) (h2 : mostS b n1 e1 64 = (k, n2, e2)) (h3 : readP b n2 e2 4096 = (zs, n3, e3)) (hc : ¬ (k : Int) = 0 ∧ (zs.length : Int) = ((m : Int) + k - 1) / k)
    (hg : opGo b k m (zs.drop i) i l n' e' = opGo b k m zs 0 [] n3 e3) (hi : (zs.length : Int) ≤ i) : openS b n e = if rightF l k && decide (e' = 0) then (l, n', 0) else ([], n', if rightF l k then e' else failE e' 3) := by
  rw [openS_eq h1 h2 h3, if_neg (op_cond hc), ← hg, List.drop_of_length_le (by omega)]
  rfl
end
theorem readP_le' {b c u : List UInt8} {n r n1 n2 n3 w : Nat} {e many e1 e2 e3 : Int} (h1 : mostS b n e many = (r, n1, e1)) (h2 : takeB b n1 e1 1 = (c, n2, e2)) (hw : byteOf1 c = (w : Int))
    (h3 : takeB b n2 e2 (sizeP r w : Nat) = (u, n3, e3)) (l2 : n2 ≤ b.length) (l3 : n3 ≤ b.length) : (readP b n e many).2.1 ≤ b.length ∧ (readP b n e many).1.length ≤ r := by
  rw [readP_eq h1 h2 hw h3]
  by_cases c1 : 32 < w
  · rw [if_pos c1]; exact ⟨l2, Nat.zero_le _⟩
  · rw [if_neg c1]
    by_cases c2 : u.length < sizeP r w
    · rw [if_pos c2]; exact ⟨l3, Nat.zero_le _⟩
    · rw [if_neg c2]
      by_cases c3 : widN ((List.range r).map (getP u w)) = w ∧ putP ((List.range r).map (getP u w)) w = u
      · rw [if_pos c3]; exact ⟨l3, by rw [gets_len]; exact Nat.le_refl _⟩
      · rw [if_neg c3]; exact ⟨l3, Nat.zero_le _⟩
theorem readP_le2 {b : List UInt8} {n : Nat} {e many : Int} (hn : n ≤ b.length) : (readP b n e many).2.1 ≤ b.length ∧ (readP b n e many).1.length ≤ (mostS b n e many).1 := by
  have l1 : (mostS b n e many).2.1 ≤ b.length := mostS_le hn
  have l2 : (takeB b (mostS b n e many).2.1 (mostS b n e many).2.2 1).2.1 ≤ b.length := takeB_le l1
  have hw := byteOf1_le (takeB b (mostS b n e many).2.1 (mostS b n e many).2.2 1).1
  have l3 := takeB_le (k := (sizeP (mostS b n e many).1 (byteOf1 (takeB b (mostS b n e many).2.1 (mostS b n e many).2.2 1).1).toNat : Nat)) (e := (takeB b (mostS b n e many).2.1 (mostS b n e many).2.2 1).2.2) l2
  exact readP_le' rfl rfl (Int.toNat_of_nonneg hw.1).symm rfl l2 l3
theorem readP_le {b : List UInt8} {n : Nat} {e many : Int} (hn : n ≤ b.length) : (readP b n e many).2.1 ≤ b.length := (readP_le2 hn).1
theorem readP_len (b : List UInt8) (n : Nat) (e : Int) {many : Int} (h : 0 ≤ many) (hn : n ≤ b.length) : ((readP b n e many).1.length : Int) ≤ many := by
  have hm := mostS_most b n e h
  have := (readP_le2 (many := many) (e := e) hn).2
  omega
end Go.Fw
namespace Go.Fw
open Go Go.Proofs
set_option maxHeartbeats 10000000
set_option maxRecDepth 100000
set_option linter.constructorNameAsVariable false
set_option linter.unusedVariables false
set_option linter.unusedSimpArgs false
theorem frontRight_con (t : List ByteArray) (k : Int) : Has Try.prog 42 [CV.d (D.sl 1 (t.map D.str)), CV.d (D.int .i64 k)] (fun rs _ => rs = [CV.d (D.bool (rightF t k))]) := by
  refine Has_of_run (fn := Try.f42) (M := M0) fol (by kernel_rfl) 7 noPlan [] [] (by kernel_rfl) (Nat.le_of_ble_eq_true rfl) ?_
  (repeat' ((conv => whnf); first | done | (refine And.intro (fun h => ?_) (fun h => ?_) <;> (try simp only [Bool.or_eq_true, Bool.and_eq_true, Bool.or_eq_false_iff, Bool.and_eq_false_iff, toNat_pred, toNat_succ, toNat_addn, toNat_subn, decide_eq_true_eq, decide_eq_false_iff_not, Bool.not_eq_true', Bool.not_eq_false', List.length_map, Int.toNat_natCast, Int.not_lt, Int.not_le, Bool.not_eq_true, Bool.false_eq_true, Bool.true_eq_false, Bool.not_true, Bool.not_false, reduceCtorEq, beq_iff_eq, Bool.not_eq_eq_eq_not, bne_iff_ne, ne_eq, decide_not, Decidable.not_not, Classical.not_not] at h)) | exact (rfl : (_ : AV) = _) | exact (rfl : (_ : St) = _) | refine Exists.intro (α := AV) AV.dead (And.intro (fun h => Bool.noConfusion h) ?_) | apply ex_av | (refine fun (h : (_ : Bool) = true) => ?_; have h' := h; (try simp only [Bool.or_eq_true, Bool.and_eq_true, Bool.or_eq_false_iff, Bool.and_eq_false_iff, toNat_pred, toNat_succ, toNat_addn, toNat_subn, decide_eq_true_eq, decide_eq_false_iff_not, Bool.not_eq_true', Bool.not_eq_false', List.length_map, Int.toNat_natCast, Int.not_lt, Int.not_le, Bool.not_eq_true, Bool.false_eq_true, Bool.true_eq_false, Bool.not_true, Bool.not_false, reduceCtorEq, beq_iff_eq, Bool.not_eq_eq_eq_not, bne_iff_ne, ne_eq, decide_not, Decidable.not_not, Classical.not_not] at h')) | (refine And.intro (a := Both _ _ _) ?_ ?_; (refine ⟨fun h => ?_, fun h => ?_⟩ <;> first | rfl | exact h | exact Bool.noConfusion h | (rw [h]; rfl) | (rw [h]; simp only [Bool.not_false, Bool.not_true, Bool.and_true]; assumption) | (simp_all; done) | fail); skip) | refine And.intro rfl ?_ | refine Two.mk ?_ ?_ | refine And.intro (allU8_bytes _) ?_ | (refine And.intro (a := (_ : Bool) = true) ?_ ?_; (first | assumption | exact decide_eq_true (by assumption) | (rw [Bool.not_eq_true']; exact decide_eq_false (by assumption)) | (rw [Bool.not_not]; exact decide_eq_true (by assumption)) | (simp_all; done) | fail); skip) | refine And.intro (Or.inr rfl) ?_ | refine And.intro (Nat.le_of_ble_eq_true rfl) ?_ | refine And.intro (decide_eq_false (by omega)) ?_ | refine And.intro (show Program.stoodInHeld _ _ = _ by kernel_rfl) (And.intro (by kernel_rfl) ?_) | refine And.intro (show Nat.beq _ _ = _ from rfl) (And.intro (by decide) ?_) | refine And.intro ⟨rfl, rfl⟩ ?_ | refine And.intro ⟨rfl, rfl, trivial⟩ ?_ | refine And.intro (Int.natCast_nonneg _) ?_ | refine Or.inl (And.intro rfl (And.intro rfl (And.intro rfl (And.intro rfl ?_)))) | refine Or.inl (And.intro rfl (And.intro rfl ?_)) | refine Or.inr (And.intro (Nat.le_of_ble_eq_true rfl) ?_) | refine Or.inl (And.intro (by unfold in64; omega) ?_) | refine And.intro (by first | omega | (simp only [dlen, true_and, and_true, Nat.le_refl, List.length_map, List.length_append, List.length_cons, List.length_nil, List.length_take, List.length_drop, List.length_replicate, Int.toNat_natCast, List.append_nil] <;> omega) | fail) ?_ | refine And.intro (allU8_bytes _) ?_ | refine And.intro (show elemsP _ _ _ by repeat' (first | exact rfl | exact trivial | constructor)) ?_ | (refine Loops.by (M := M0) 7 noPlan fol (by kernel_rfl) (ι := Nat) (fun i => ⟨[(0, AV.d (D.sl 1 (t.map D.str))), (18, AV.d (D.sl 1 (t.map D.str))), (19, AV.d (D.int .i64 t.length)), (20, AV.d (D.int .i64 i))], [], 16⟩) (fun i => i ≤ t.length ∧ ∀ j, j < i → okF t j = true) (fun i => t.length - i) (fun i hI => ?_) (0) ⟨Nat.zero_le _, fun j h => absurd h (Nat.not_lt_zero _)⟩ (Forget.mk' ⟨⟨rfl, rfl⟩, ⟨rfl, rfl⟩, ⟨rfl, rfl⟩, ⟨rfl, rfl⟩, trivial⟩ trivial rfl rfl); obtain ⟨hi, hok⟩ := hI) | (refine fun x hx => ?_; (try simp (disch := omega) only [Int.tdiv_eq_ediv_of_nonneg, Int.tmod_eq_emod_of_nonneg, bx, Bool.true_or, Bool.false_or, Bool.or_false, Bool.or_true, Bool.and_true, Bool.true_and, Bool.false_and, Bool.and_false, cond_true, cond_false, if_true, if_false, Bool.false_eq_true, min_nn, max_nn, min_ln, min_nl, max_ln, max_nl, getD_map, str_of_bytes, take_bytes, take_data, wrap_u64, wrap_u32, wrap_u8, shr_i64, shr_u64, shr_u32, shl_i64, shl_u64, Int.reduceToNat, Int.reducePow, Int.pow_succ, Int.pow_zero, Int.one_mul, Int.reduceMul, wrap_id, wrap_u8_nat, wrap_i64_u8, byteD_mk, map_snoc, map_app, set_map, take_map', drop_map', Nat.sub_zero, List.length_map, List.length_append, List.length_cons, List.length_nil, Int.toNat_natCast, List.drop_zero, List.take_succ_cons, List.take_zero, List.take_length, List.nil_append, List.append_nil, Nat.zero_add, toNat_pred, toNat_succ, toNat_addn, toNat_subn] at hx); subst hx) | rw [List.take_length] | (rw [List.take_of_length_le]; rotate_left; (first | omega | (simp only [dlen, true_and, and_true, Nat.le_refl, List.length_map, List.length_append, List.length_cons, List.length_nil, List.length_take, List.length_drop, List.length_replicate, Int.toNat_natCast, List.append_nil] <;> omega) | fail)) | refine fun h => ?_ | fail)); all_goals (try exact (AV.dead : AV)); all_goals (try (conv => whnf))
  all_goals first
    | exact rb (rightF_no (by omega)).symm
    | exact rb (rightF_bad (i := i) (by omega) (okF_noI (by assumption))).symm
    | exact rb (rightF_good (by omega) (by omega) (by omega) (fun j hj => hok j (by omega))).symm
    | exact ⟨i + 1, ⟨⟨by omega, upto_succ hok (okF_ok (by omega) (h.2.imp (fun h => by omega) id))⟩, by omega⟩, (Forget.mk' ⟨⟨rfl, rfl⟩, ⟨rfl, rfl⟩, ⟨rfl, rfl⟩, ⟨rfl, rfl⟩, trivial⟩ trivial rfl rfl)⟩
    | (trace_state; fail)
end Go.Fw
namespace Go.Fw
open Go Go.Proofs
set_option maxHeartbeats 10000000
set_option maxRecDepth 100000
set_option linter.constructorNameAsVariable false
set_option linter.unusedVariables false
set_option linter.unusedSimpArgs false
def M40 : FuncId → List Mode := fun g => if g = 37 then [.own] else if g = 39 then [.own] else if g = 41 then [.own] else if g = 57 then [.own] else if g = 58 then [.own] else []
def pl40 : Nat → Plan
  | 7 => tks 0 [0, 0, 0, 0] (.one 4 (tks 5 [0] (.one 6 (.done))))
  | _ => .done
theorem taken_con (b : List UInt8) (n : Nat) (e : Int) (cnt size : Nat) (hb : b.length ≤ 1000000000) (hn : n ≤ b.length) (h1 : 1 ≤ cnt) (h4 : cnt ≤ 10000) : Has Try.prog 40 [curC b n e, CV.d (D.int .i64 cnt), CV.d (D.int .i64 size)] (fun rs bs => rs = [CV.own 9 1 (((takS b cnt size n e).1).map D.str)] ∧ bs = [curC b (takS b cnt size n e).2.1 (takS b cnt size n e).2.2, .gone, .gone] ) := by
  have hb9 : Try.prog.bytesOf 9 = 16 := by kernel_rfl
  refine Has_of_run (fn := Try.f40) (M := M40) fol (by kernel_rfl) 12 pl40 [.own] [true] (by kernel_rfl) (Nat.le_of_ble_eq_true rfl) ?_
  (repeat' ((conv => whnf); first | done | (refine And.intro (fun h => ?_) (fun h => ?_) <;> (try simp only [Bool.or_eq_true, Bool.and_eq_true, Bool.or_eq_false_iff, Bool.and_eq_false_iff, toNat_pred, toNat_succ, toNat_addn, toNat_subn, decide_eq_true_eq, decide_eq_false_iff_not, Bool.not_eq_true', Bool.not_eq_false', List.length_map, Int.toNat_natCast, Int.not_lt, Int.not_le, Bool.not_eq_true, Bool.false_eq_true, Bool.true_eq_false, Bool.not_true, Bool.not_false, reduceCtorEq, beq_iff_eq, Bool.not_eq_eq_eq_not, bne_iff_ne, ne_eq, decide_not, Decidable.not_not, Classical.not_not] at h)) | exact (rfl : (_ : AV) = _) | exact (rfl : (_ : St) = _) | refine Exists.intro (α := AV) AV.dead (And.intro (fun h => Bool.noConfusion h) ?_) | apply ex_av | (refine fun (h : (_ : Bool) = true) => ?_; have h' := h; (try simp only [Bool.or_eq_true, Bool.and_eq_true, Bool.or_eq_false_iff, Bool.and_eq_false_iff, toNat_pred, toNat_succ, toNat_addn, toNat_subn, decide_eq_true_eq, decide_eq_false_iff_not, Bool.not_eq_true', Bool.not_eq_false', List.length_map, Int.toNat_natCast, Int.not_lt, Int.not_le, Bool.not_eq_true, Bool.false_eq_true, Bool.true_eq_false, Bool.not_true, Bool.not_false, reduceCtorEq, beq_iff_eq, Bool.not_eq_eq_eq_not, bne_iff_ne, ne_eq, decide_not, Decidable.not_not, Classical.not_not] at h')) | (refine And.intro (a := Both _ _ _) ?_ ?_; (refine ⟨fun h => ?_, fun h => ?_⟩ <;> first | rfl | exact h | exact Bool.noConfusion h | (rw [h]; rfl) | (rw [h]; simp only [Bool.not_false, Bool.not_true, Bool.and_true]; assumption) | (simp_all; done) | fail); skip) | refine And.intro rfl ?_ | refine Two.mk ?_ ?_ | refine And.intro (allU8_bytes _) ?_ | (refine And.intro (a := (_ : Bool) = true) ?_ ?_; (first | assumption | exact decide_eq_true (by assumption) | (rw [Bool.not_eq_true']; exact decide_eq_false (by assumption)) | (rw [Bool.not_not]; exact decide_eq_true (by assumption)) | (simp_all; done) | fail); skip) | refine And.intro (Or.inr rfl) ?_ | refine And.intro (Nat.le_of_ble_eq_true rfl) ?_ | refine And.intro (decide_eq_false (by omega)) ?_ | refine And.intro (show Program.stoodInHeld _ _ = _ by kernel_rfl) (And.intro (by kernel_rfl) ?_) | refine And.intro (show Nat.beq _ _ = _ from rfl) (And.intro (by decide) ?_) | refine And.intro ⟨rfl, rfl⟩ ?_ | refine And.intro ⟨rfl, rfl, trivial⟩ ?_ | refine And.intro (Int.natCast_nonneg _) ?_ | refine Or.inl (And.intro rfl (And.intro rfl (And.intro rfl (And.intro rfl ?_)))) | refine Or.inl (And.intro rfl (And.intro rfl ?_)) | refine Or.inr (And.intro (Nat.le_of_ble_eq_true rfl) ?_) | refine Or.inl (And.intro (by unfold in64; omega) ?_) | refine And.intro (by first | omega | (simp only [dlen, true_and, and_true, Nat.le_refl, List.length_map, List.length_append, List.length_cons, List.length_nil, List.length_take, List.length_drop, List.length_replicate, Int.toNat_natCast, List.append_nil, hb9] <;> omega) | fail) ?_ | refine And.intro (allU8_bytes _) ?_ | refine And.intro (show elemsP _ _ _ by repeat' (first | exact rfl | exact trivial | constructor)) ?_ | (refine (curLeft_con _ _ _ hb (by first | assumption | exact mostS_le (by assumption) | exact textS_le (by assumption) | exact textS_le (mostS_le (by assumption)) | fail)).mono fun rs bs hr => ?_; obtain ⟨rfl, rfl⟩ := hr) | (refine (curText_con _ _ _ hb (by first | assumption | exact mostS_le (by assumption) | exact textS_le (by assumption) | exact textS_le (mostS_le (by assumption)) | fail)).mono fun rs bs hr => ?_; obtain ⟨rfl, rfl⟩ := hr) | (refine (curMost_con _ _ _ _ hb (by first | assumption | exact mostS_le (by assumption) | exact textS_le (by assumption) | exact textS_le (mostS_le (by assumption)) | fail)).mono fun rs bs hr => ?_; obtain ⟨rfl, rfl⟩ := hr) | (refine (curGood_con _ _ _).mono fun rs bs hr => ?_; obtain ⟨rfl, rfl⟩ := hr) | (refine (curFail_con _ _ _ _).mono fun rs bs hr => ?_; obtain ⟨rfl, rfl⟩ := hr) | (refine (shared_con _ _ (by omega) (by omega)).mono fun rs bs hr => ?_; subst hr) | (refine Loops.by (M := M40) 12 pl40 fol (by kernel_rfl) (ι := Nat × List ByteArray × Nat × Int) (fun ⟨i, out, n', e'⟩ => ⟨[(0, AV.addr [0] 0 0), (2, AV.d (D.int .i64 size)), (7, AV.d (D.int .i64 ((b.length - n : Nat) : Int))), (8, AV.ref [8] 16 1 0 (out.map D.str).length), (18, AV.d (D.int .i64 ((cnt : Int) - 1))), (19, AV.d (D.int .i64 i))], [([0], 0, AO.box 62 [AV.d (D.sl 1 (b.map byteD)), AV.d (D.int .i64 n'), AV.d (D.int .i64 e')]), ([8], 16, AO.row 9 1 (out.map D.str))], 17⟩) (fun ⟨i, out, n', e'⟩ => i ≤ cnt - 1 ∧ n' ≤ b.length ∧ out.length = i + 1 ∧ (lastB out).size ≤ 4096 * (i + 1) ∧ takGo b (cnt - 1 - i) out (lastB out) n' e' = takGo b (cnt - 1) [(textS b n e).1] (textS b n e).1 (textS b n e).2.1 (textS b n e).2.2) (fun ⟨i, out, n', e'⟩ => cnt - i) (fun p hI => ?_) ((0, [(textS b n e).1], (textS b n e).2.1, (textS b n e).2.2)) ⟨Nat.zero_le _, textS_le hn, rfl, textS_size _ _ _, rfl⟩ (Forget.mk' ⟨⟨rfl, rfl⟩, ⟨rfl, rfl⟩, ⟨rfl, rfl⟩, ⟨rfl, rfl⟩, ⟨rfl, rfl⟩, ⟨rfl, rfl⟩, trivial⟩ ⟨⟨rfl, rfl, rfl⟩, ⟨rfl, rfl, rfl⟩, trivial⟩ rfl rfl); obtain ⟨i, out, n', e'⟩ := p; obtain ⟨hi, hn', hol, hls, hgo⟩ := hI; have hlb : lastB out = out.getD (out.length - 1) default := rfl; have hmo := mostS_most b n' e' (k := ((out.getD (out.length - 1) default).size : Int)) (by omega); have hcs := cat_size (out.getD (out.length - 1) default) (textS b (mostS b n' e' ((out.getD (out.length - 1) default).size : Int)).2.1 (mostS b n' e' ((out.getD (out.length - 1) default).size : Int)).2.2).1 (mostS b n' e' ((out.getD (out.length - 1) default).size : Int)).1; have hts := textS_size b (mostS b n' e' ((out.getD (out.length - 1) default).size : Int)).2.1 (mostS b n' e' ((out.getD (out.length - 1) default).size : Int)).2.2; have hex := ex_size (out.getD (out.length - 1) default) (mostS b n' e' ((out.getD (out.length - 1) default).size : Int)).1; rw [hlb] at hls) | (refine fun x hx => ?_; (try simp (disch := omega) only [Int.tdiv_eq_ediv_of_nonneg, Int.tmod_eq_emod_of_nonneg, bx, Bool.true_or, Bool.false_or, Bool.or_false, Bool.or_true, Bool.and_true, Bool.true_and, Bool.false_and, Bool.and_false, cond_true, cond_false, if_true, if_false, Bool.false_eq_true, min_nn, max_nn, min_ln, min_nl, max_ln, max_nl, getD_map, str_of_bytes, take_bytes, take_data, wrap_u64, wrap_u32, wrap_u8, shr_i64, shr_u64, shr_u32, shl_i64, shl_u64, Int.reduceToNat, Int.reducePow, Int.pow_succ, Int.pow_zero, Int.one_mul, Int.reduceMul, wrap_id, wrap_u8_nat, wrap_i64_u8, byteD_mk, map_snoc, map_app, set_map, take_map', drop_map', Nat.sub_zero, List.length_map, List.length_append, List.length_cons, List.length_nil, Int.toNat_natCast, List.drop_zero, List.take_succ_cons, List.take_zero, List.take_length, List.nil_append, List.append_nil, Nat.zero_add, toNat_pred, toNat_succ, toNat_addn, toNat_subn] at hx); subst hx) | rw [List.take_length] | (rw [List.take_of_length_le]; rotate_left; (first | omega | (simp only [dlen, true_and, and_true, Nat.le_refl, List.length_map, List.length_append, List.length_cons, List.length_nil, List.length_take, List.length_drop, List.length_replicate, Int.toNat_natCast, List.append_nil, hb9] <;> omega) | fail)) | refine fun h => ?_ | fail)); all_goals (try exact (AV.dead : AV)); all_goals (try (conv => whnf))
  all_goals first
    | (rw [tak_end (by assumption) (by assumption) hgo]
       first
         | (rw [if_pos (show n + size = n' by omega)]; exact ⟨rfl, rfl⟩)
         | (rw [if_neg (show ¬ n + size = n' by omega)]; exact ⟨rfl, rfl⟩)
         | (trace_state; fail))
    | (rw [tak_no (by assumption) (by assumption) hgo]; exact ⟨rfl, rfl⟩)
    | (refine ⟨(i + 1, _, _, _), ⟨⟨by omega, ?_, ?_, ?_, ?_⟩, by show cnt - (i + 1) < cnt - i; omega⟩, (Forget.mk' ⟨⟨rfl, rfl⟩, ⟨rfl, rfl⟩, ⟨rfl, rfl⟩, ⟨rfl, rfl⟩, ⟨rfl, rfl⟩, ⟨rfl, rfl⟩, trivial⟩ ⟨⟨rfl, rfl, rfl⟩, ⟨rfl, rfl, rfl⟩, trivial⟩ rfl rfl)⟩
       · exact textS_le (mostS_le hn')
       · simp only [List.length_append, List.length_cons, List.length_nil]; omega
       · rw [lastB_snoc]; omega
       · refine tak_round (by assumption) (by assumption) hgo ?_
         rw [hlb]
         first
           | (rw [if_pos (by omega)]; assumption)
           | rw [if_pos (by assumption), if_neg (by omega)]
           | (trace_state; fail))
    | (trace_state; fail)
end Go.Fw
namespace Go.Fw
open Go Go.Proofs
set_option maxHeartbeats 10000000
set_option maxRecDepth 100000
set_option linter.constructorNameAsVariable false
set_option linter.unusedVariables false
set_option linter.unusedSimpArgs false
def dictD (t : List ByteArray) : D := D.ptr (D.agg [D.sl 1 (t.map D.str)])
theorem dictLen_con (t : List ByteArray) : Has Try.prog 26 [CV.d (dictD t)] (fun rs _ => rs = [CV.d (D.int .i64 t.length)]) := by
  refine Has_of_run (fn := Try.f26) (M := M0) fol (by kernel_rfl) 3 noPlan [] [] (by kernel_rfl) (Nat.le_of_ble_eq_true rfl) ?_
  (repeat' ((conv => whnf); first | done | (refine And.intro (fun h => ?_) (fun h => ?_) <;> (try simp only [Bool.or_eq_true, Bool.and_eq_true, Bool.or_eq_false_iff, Bool.and_eq_false_iff, toNat_pred, toNat_succ, toNat_addn, toNat_subn, decide_eq_true_eq, decide_eq_false_iff_not, Bool.not_eq_true', Bool.not_eq_false', List.length_map, Int.toNat_natCast, Int.not_lt, Int.not_le, Bool.not_eq_true, Bool.false_eq_true, Bool.true_eq_false, Bool.not_true, Bool.not_false, reduceCtorEq, beq_iff_eq, Bool.not_eq_eq_eq_not, bne_iff_ne, ne_eq, decide_not, Decidable.not_not, Classical.not_not] at h)) | exact (rfl : (_ : AV) = _) | exact (rfl : (_ : St) = _) | refine Exists.intro (α := AV) AV.dead (And.intro (fun h => Bool.noConfusion h) ?_) | apply ex_av | (refine fun (h : (_ : Bool) = true) => ?_; have h' := h; (try simp only [Bool.or_eq_true, Bool.and_eq_true, Bool.or_eq_false_iff, Bool.and_eq_false_iff, toNat_pred, toNat_succ, toNat_addn, toNat_subn, decide_eq_true_eq, decide_eq_false_iff_not, Bool.not_eq_true', Bool.not_eq_false', List.length_map, Int.toNat_natCast, Int.not_lt, Int.not_le, Bool.not_eq_true, Bool.false_eq_true, Bool.true_eq_false, Bool.not_true, Bool.not_false, reduceCtorEq, beq_iff_eq, Bool.not_eq_eq_eq_not, bne_iff_ne, ne_eq, decide_not, Decidable.not_not, Classical.not_not] at h')) | (refine And.intro (a := Both _ _ _) ?_ ?_; (refine ⟨fun h => ?_, fun h => ?_⟩ <;> first | rfl | exact h | exact Bool.noConfusion h | (rw [h]; rfl) | (rw [h]; simp only [Bool.not_false, Bool.not_true, Bool.and_true]; assumption) | (simp_all; done) | fail); skip) | refine And.intro rfl ?_ | refine Two.mk ?_ ?_ | refine And.intro (allU8_bytes _) ?_ | (refine And.intro (a := (_ : Bool) = true) ?_ ?_; (first | assumption | exact decide_eq_true (by assumption) | (rw [Bool.not_eq_true']; exact decide_eq_false (by assumption)) | (rw [Bool.not_not]; exact decide_eq_true (by assumption)) | (simp_all; done) | fail); skip) | refine And.intro (Or.inr rfl) ?_ | refine And.intro (Nat.le_of_ble_eq_true rfl) ?_ | refine And.intro (decide_eq_false (by omega)) ?_ | refine And.intro (show Program.stoodInHeld _ _ = _ by kernel_rfl) (And.intro (by kernel_rfl) ?_) | refine And.intro (show Nat.beq _ _ = _ from rfl) (And.intro (by decide) ?_) | refine And.intro ⟨rfl, rfl⟩ ?_ | refine And.intro ⟨rfl, rfl, trivial⟩ ?_ | refine And.intro (Int.natCast_nonneg _) ?_ | refine Or.inl (And.intro rfl (And.intro rfl (And.intro rfl (And.intro rfl ?_)))) | refine Or.inl (And.intro rfl (And.intro rfl ?_)) | refine Or.inr (And.intro (Nat.le_of_ble_eq_true rfl) ?_) | refine Or.inl (And.intro (by unfold in64; omega) ?_) | refine And.intro (by first | omega | (simp only [dlen, true_and, and_true, Nat.le_refl, List.length_map, List.length_append, List.length_cons, List.length_nil, List.length_take, List.length_drop, List.length_replicate, Int.toNat_natCast, List.append_nil] <;> omega) | fail) ?_ | refine And.intro (allU8_bytes _) ?_ | refine And.intro (show elemsP _ _ _ by repeat' (first | exact rfl | exact trivial | constructor)) ?_ | (refine fun x hx => ?_; (try simp (disch := omega) only [Int.tdiv_eq_ediv_of_nonneg, Int.tmod_eq_emod_of_nonneg, bx, Bool.true_or, Bool.false_or, Bool.or_false, Bool.or_true, Bool.and_true, Bool.true_and, Bool.false_and, Bool.and_false, cond_true, cond_false, if_true, if_false, Bool.false_eq_true, min_nn, max_nn, min_ln, min_nl, max_ln, max_nl, getD_map, str_of_bytes, take_bytes, take_data, wrap_u64, wrap_u32, wrap_u8, shr_i64, shr_u64, shr_u32, shl_i64, shl_u64, Int.reduceToNat, Int.reducePow, Int.pow_succ, Int.pow_zero, Int.one_mul, Int.reduceMul, wrap_id, wrap_u8_nat, wrap_i64_u8, byteD_mk, map_snoc, map_app, set_map, take_map', drop_map', Nat.sub_zero, List.length_map, List.length_append, List.length_cons, List.length_nil, Int.toNat_natCast, List.drop_zero, List.take_succ_cons, List.take_zero, List.take_length, List.nil_append, List.append_nil, Nat.zero_add, toNat_pred, toNat_succ, toNat_addn, toNat_subn] at hx); subst hx) | rw [List.take_length] | (rw [List.take_of_length_le]; rotate_left; (first | omega | (simp only [dlen, true_and, and_true, Nat.le_refl, List.length_map, List.length_append, List.length_cons, List.length_nil, List.length_take, List.length_drop, List.length_replicate, Int.toNat_natCast, List.append_nil] <;> omega) | fail)) | refine fun h => ?_ | fail)); all_goals (try exact (AV.dead : AV)); all_goals (try (conv => whnf))
theorem dictAt_con (t : List ByteArray) (i : Nat) (hi : i < t.length) : Has Try.prog 27 [CV.d (dictD t), CV.d (D.int .i64 i)] (fun rs _ => rs = [CV.d (D.str (t.getD i default))]) := by
  refine Has_of_run (fn := Try.f27) (M := M0) fol (by kernel_rfl) 5 noPlan [] [] (by kernel_rfl) (Nat.le_of_ble_eq_true rfl) ?_
  (repeat' ((conv => whnf); first | done | (refine And.intro (fun h => ?_) (fun h => ?_) <;> (try simp only [Bool.or_eq_true, Bool.and_eq_true, Bool.or_eq_false_iff, Bool.and_eq_false_iff, toNat_pred, toNat_succ, toNat_addn, toNat_subn, decide_eq_true_eq, decide_eq_false_iff_not, Bool.not_eq_true', Bool.not_eq_false', List.length_map, Int.toNat_natCast, Int.not_lt, Int.not_le, Bool.not_eq_true, Bool.false_eq_true, Bool.true_eq_false, Bool.not_true, Bool.not_false, reduceCtorEq, beq_iff_eq, Bool.not_eq_eq_eq_not, bne_iff_ne, ne_eq, decide_not, Decidable.not_not, Classical.not_not] at h)) | exact (rfl : (_ : AV) = _) | exact (rfl : (_ : St) = _) | refine Exists.intro (α := AV) AV.dead (And.intro (fun h => Bool.noConfusion h) ?_) | apply ex_av | (refine fun (h : (_ : Bool) = true) => ?_; have h' := h; (try simp only [Bool.or_eq_true, Bool.and_eq_true, Bool.or_eq_false_iff, Bool.and_eq_false_iff, toNat_pred, toNat_succ, toNat_addn, toNat_subn, decide_eq_true_eq, decide_eq_false_iff_not, Bool.not_eq_true', Bool.not_eq_false', List.length_map, Int.toNat_natCast, Int.not_lt, Int.not_le, Bool.not_eq_true, Bool.false_eq_true, Bool.true_eq_false, Bool.not_true, Bool.not_false, reduceCtorEq, beq_iff_eq, Bool.not_eq_eq_eq_not, bne_iff_ne, ne_eq, decide_not, Decidable.not_not, Classical.not_not] at h')) | (refine And.intro (a := Both _ _ _) ?_ ?_; (refine ⟨fun h => ?_, fun h => ?_⟩ <;> first | rfl | exact h | exact Bool.noConfusion h | (rw [h]; rfl) | (rw [h]; simp only [Bool.not_false, Bool.not_true, Bool.and_true]; assumption) | (simp_all; done) | fail); skip) | refine And.intro rfl ?_ | refine Two.mk ?_ ?_ | refine And.intro (allU8_bytes _) ?_ | (refine And.intro (a := (_ : Bool) = true) ?_ ?_; (first | assumption | exact decide_eq_true (by assumption) | (rw [Bool.not_eq_true']; exact decide_eq_false (by assumption)) | (rw [Bool.not_not]; exact decide_eq_true (by assumption)) | (simp_all; done) | fail); skip) | refine And.intro (Or.inr rfl) ?_ | refine And.intro (Nat.le_of_ble_eq_true rfl) ?_ | refine And.intro (decide_eq_false (by omega)) ?_ | refine And.intro (show Program.stoodInHeld _ _ = _ by kernel_rfl) (And.intro (by kernel_rfl) ?_) | refine And.intro (show Nat.beq _ _ = _ from rfl) (And.intro (by decide) ?_) | refine And.intro ⟨rfl, rfl⟩ ?_ | refine And.intro ⟨rfl, rfl, trivial⟩ ?_ | refine And.intro (Int.natCast_nonneg _) ?_ | refine Or.inl (And.intro rfl (And.intro rfl (And.intro rfl (And.intro rfl ?_)))) | refine Or.inl (And.intro rfl (And.intro rfl ?_)) | refine Or.inr (And.intro (Nat.le_of_ble_eq_true rfl) ?_) | refine Or.inl (And.intro (by unfold in64; omega) ?_) | refine And.intro (by first | omega | (simp only [dlen, true_and, and_true, Nat.le_refl, List.length_map, List.length_append, List.length_cons, List.length_nil, List.length_take, List.length_drop, List.length_replicate, Int.toNat_natCast, List.append_nil] <;> omega) | fail) ?_ | refine And.intro (allU8_bytes _) ?_ | refine And.intro (show elemsP _ _ _ by repeat' (first | exact rfl | exact trivial | constructor)) ?_ | (refine fun x hx => ?_; (try simp (disch := omega) only [Int.tdiv_eq_ediv_of_nonneg, Int.tmod_eq_emod_of_nonneg, bx, Bool.true_or, Bool.false_or, Bool.or_false, Bool.or_true, Bool.and_true, Bool.true_and, Bool.false_and, Bool.and_false, cond_true, cond_false, if_true, if_false, Bool.false_eq_true, min_nn, max_nn, min_ln, min_nl, max_ln, max_nl, getD_map, str_of_bytes, take_bytes, take_data, wrap_u64, wrap_u32, wrap_u8, shr_i64, shr_u64, shr_u32, shl_i64, shl_u64, Int.reduceToNat, Int.reducePow, Int.pow_succ, Int.pow_zero, Int.one_mul, Int.reduceMul, wrap_id, wrap_u8_nat, wrap_i64_u8, byteD_mk, map_snoc, map_app, set_map, take_map', drop_map', Nat.sub_zero, List.length_map, List.length_append, List.length_cons, List.length_nil, Int.toNat_natCast, List.drop_zero, List.take_succ_cons, List.take_zero, List.take_length, List.nil_append, List.append_nil, Nat.zero_add, toNat_pred, toNat_succ, toNat_addn, toNat_subn] at hx); subst hx) | rw [List.take_length] | (rw [List.take_of_length_le]; rotate_left; (first | omega | (simp only [dlen, true_and, and_true, Nat.le_refl, List.length_map, List.length_append, List.length_cons, List.length_nil, List.length_take, List.length_drop, List.length_replicate, Int.toNat_natCast, List.append_nil] <;> omega) | fail)) | refine fun h => ?_ | fail)); all_goals (try exact (AV.dead : AV)); all_goals (try (conv => whnf))
  exfalso; omega
theorem cloneS_con (t : List ByteArray) (h : t.length ≤ 1000000000) : Has Try.prog 35 [CV.d (D.sl 1 (t.map D.str))] (fun rs _ => rs = [CV.own 9 1 (t.map D.str)] ) := by
  have hb9 : Try.prog.bytesOf 9 = 16 := by kernel_rfl
  refine Has_of_run (fn := Try.f35) (M := M0) fol (by kernel_rfl) 3 noPlan [.own] [] (by kernel_rfl) (Nat.le_of_ble_eq_true rfl) ?_
  (repeat' ((conv => whnf); first | done | (refine And.intro (fun h => ?_) (fun h => ?_) <;> (try simp only [Bool.or_eq_true, Bool.and_eq_true, Bool.or_eq_false_iff, Bool.and_eq_false_iff, toNat_pred, toNat_succ, toNat_addn, toNat_subn, decide_eq_true_eq, decide_eq_false_iff_not, Bool.not_eq_true', Bool.not_eq_false', List.length_map, Int.toNat_natCast, Int.not_lt, Int.not_le, Bool.not_eq_true, Bool.false_eq_true, Bool.true_eq_false, Bool.not_true, Bool.not_false, reduceCtorEq, beq_iff_eq, Bool.not_eq_eq_eq_not, bne_iff_ne, ne_eq, decide_not, Decidable.not_not, Classical.not_not] at h)) | exact (rfl : (_ : AV) = _) | exact (rfl : (_ : St) = _) | refine Exists.intro (α := AV) AV.dead (And.intro (fun h => Bool.noConfusion h) ?_) | apply ex_av | (refine fun (h : (_ : Bool) = true) => ?_; have h' := h; (try simp only [Bool.or_eq_true, Bool.and_eq_true, Bool.or_eq_false_iff, Bool.and_eq_false_iff, toNat_pred, toNat_succ, toNat_addn, toNat_subn, decide_eq_true_eq, decide_eq_false_iff_not, Bool.not_eq_true', Bool.not_eq_false', List.length_map, Int.toNat_natCast, Int.not_lt, Int.not_le, Bool.not_eq_true, Bool.false_eq_true, Bool.true_eq_false, Bool.not_true, Bool.not_false, reduceCtorEq, beq_iff_eq, Bool.not_eq_eq_eq_not, bne_iff_ne, ne_eq, decide_not, Decidable.not_not, Classical.not_not] at h')) | (refine And.intro (a := Both _ _ _) ?_ ?_; (refine ⟨fun h => ?_, fun h => ?_⟩ <;> first | rfl | exact h | exact Bool.noConfusion h | (rw [h]; rfl) | (rw [h]; simp only [Bool.not_false, Bool.not_true, Bool.and_true]; assumption) | (simp_all; done) | fail); skip) | refine And.intro rfl ?_ | refine Two.mk ?_ ?_ | refine And.intro (allU8_bytes _) ?_ | (refine And.intro (a := (_ : Bool) = true) ?_ ?_; (first | assumption | exact decide_eq_true (by assumption) | (rw [Bool.not_eq_true']; exact decide_eq_false (by assumption)) | (rw [Bool.not_not]; exact decide_eq_true (by assumption)) | (simp_all; done) | fail); skip) | refine And.intro (Or.inr rfl) ?_ | refine And.intro (Nat.le_of_ble_eq_true rfl) ?_ | refine And.intro (decide_eq_false (by omega)) ?_ | refine And.intro (show Program.stoodInHeld _ _ = _ by kernel_rfl) (And.intro (by kernel_rfl) ?_) | refine And.intro (show Nat.beq _ _ = _ from rfl) (And.intro (by decide) ?_) | refine And.intro ⟨rfl, rfl⟩ ?_ | refine And.intro ⟨rfl, rfl, trivial⟩ ?_ | refine And.intro (Int.natCast_nonneg _) ?_ | refine Or.inl (And.intro rfl (And.intro rfl (And.intro rfl (And.intro rfl ?_)))) | refine Or.inl (And.intro rfl (And.intro rfl ?_)) | refine Or.inr (And.intro (Nat.le_of_ble_eq_true rfl) ?_) | refine Or.inl (And.intro (by unfold in64; omega) ?_) | refine And.intro (by first | omega | (simp only [dlen, true_and, and_true, Nat.le_refl, List.length_map, List.length_append, List.length_cons, List.length_nil, List.length_take, List.length_drop, List.length_replicate, Int.toNat_natCast, List.append_nil, hb9] <;> omega) | fail) ?_ | refine And.intro (allU8_bytes _) ?_ | refine And.intro (show elemsP _ _ _ by repeat' (first | exact rfl | exact trivial | constructor)) ?_ | (refine fun x hx => ?_; (try simp (disch := omega) only [Int.tdiv_eq_ediv_of_nonneg, Int.tmod_eq_emod_of_nonneg, bx, Bool.true_or, Bool.false_or, Bool.or_false, Bool.or_true, Bool.and_true, Bool.true_and, Bool.false_and, Bool.and_false, cond_true, cond_false, if_true, if_false, Bool.false_eq_true, min_nn, max_nn, min_ln, min_nl, max_ln, max_nl, getD_map, str_of_bytes, take_bytes, take_data, wrap_u64, wrap_u32, wrap_u8, shr_i64, shr_u64, shr_u32, shl_i64, shl_u64, Int.reduceToNat, Int.reducePow, Int.pow_succ, Int.pow_zero, Int.one_mul, Int.reduceMul, wrap_id, wrap_u8_nat, wrap_i64_u8, byteD_mk, map_snoc, map_app, set_map, take_map', drop_map', Nat.sub_zero, List.length_map, List.length_append, List.length_cons, List.length_nil, Int.toNat_natCast, List.drop_zero, List.take_succ_cons, List.take_zero, List.take_length, List.nil_append, List.append_nil, Nat.zero_add, toNat_pred, toNat_succ, toNat_addn, toNat_subn] at hx); subst hx) | rw [List.take_length] | (rw [List.take_of_length_le]; rotate_left; (first | omega | (simp only [dlen, true_and, and_true, Nat.le_refl, List.length_map, List.length_append, List.length_cons, List.length_nil, List.length_take, List.length_drop, List.length_replicate, Int.toNat_natCast, List.append_nil, hb9] <;> omega) | fail)) | refine fun h => ?_ | fail)); all_goals (try exact (AV.dead : AV)); all_goals (try (conv => whnf))
  have h1 : t = [] := by simp_all
  subst h1; rfl
theorem dictAll_con (t : List ByteArray) (h : t.length ≤ 1000000000) : Has Try.prog 20 [CV.d (dictD t)] (fun rs _ => rs = [CV.own 9 1 (t.map D.str)] ) := by
  refine Has_of_run (fn := Try.f20) (M := M0) fol (by kernel_rfl) 3 noPlan [.own] [] (by kernel_rfl) (Nat.le_of_ble_eq_true rfl) ?_
  (repeat' ((conv => whnf); first | done | (refine And.intro (fun h => ?_) (fun h => ?_) <;> (try simp only [Bool.or_eq_true, Bool.and_eq_true, Bool.or_eq_false_iff, Bool.and_eq_false_iff, toNat_pred, toNat_succ, toNat_addn, toNat_subn, decide_eq_true_eq, decide_eq_false_iff_not, Bool.not_eq_true', Bool.not_eq_false', List.length_map, Int.toNat_natCast, Int.not_lt, Int.not_le, Bool.not_eq_true, Bool.false_eq_true, Bool.true_eq_false, Bool.not_true, Bool.not_false, reduceCtorEq, beq_iff_eq, Bool.not_eq_eq_eq_not, bne_iff_ne, ne_eq, decide_not, Decidable.not_not, Classical.not_not] at h)) | exact (rfl : (_ : AV) = _) | exact (rfl : (_ : St) = _) | refine Exists.intro (α := AV) AV.dead (And.intro (fun h => Bool.noConfusion h) ?_) | apply ex_av | (refine fun (h : (_ : Bool) = true) => ?_; have h' := h; (try simp only [Bool.or_eq_true, Bool.and_eq_true, Bool.or_eq_false_iff, Bool.and_eq_false_iff, toNat_pred, toNat_succ, toNat_addn, toNat_subn, decide_eq_true_eq, decide_eq_false_iff_not, Bool.not_eq_true', Bool.not_eq_false', List.length_map, Int.toNat_natCast, Int.not_lt, Int.not_le, Bool.not_eq_true, Bool.false_eq_true, Bool.true_eq_false, Bool.not_true, Bool.not_false, reduceCtorEq, beq_iff_eq, Bool.not_eq_eq_eq_not, bne_iff_ne, ne_eq, decide_not, Decidable.not_not, Classical.not_not] at h')) | (refine And.intro (a := Both _ _ _) ?_ ?_; (refine ⟨fun h => ?_, fun h => ?_⟩ <;> first | rfl | exact h | exact Bool.noConfusion h | (rw [h]; rfl) | (rw [h]; simp only [Bool.not_false, Bool.not_true, Bool.and_true]; assumption) | (simp_all; done) | fail); skip) | refine And.intro rfl ?_ | refine Two.mk ?_ ?_ | refine And.intro (allU8_bytes _) ?_ | (refine And.intro (a := (_ : Bool) = true) ?_ ?_; (first | assumption | exact decide_eq_true (by assumption) | (rw [Bool.not_eq_true']; exact decide_eq_false (by assumption)) | (rw [Bool.not_not]; exact decide_eq_true (by assumption)) | (simp_all; done) | fail); skip) | refine And.intro (Or.inr rfl) ?_ | refine And.intro (Nat.le_of_ble_eq_true rfl) ?_ | refine And.intro (decide_eq_false (by omega)) ?_ | refine And.intro (show Program.stoodInHeld _ _ = _ by kernel_rfl) (And.intro (by kernel_rfl) ?_) | refine And.intro (show Nat.beq _ _ = _ from rfl) (And.intro (by decide) ?_) | refine And.intro ⟨rfl, rfl⟩ ?_ | refine And.intro ⟨rfl, rfl, trivial⟩ ?_ | refine And.intro (Int.natCast_nonneg _) ?_ | refine Or.inl (And.intro rfl (And.intro rfl (And.intro rfl (And.intro rfl ?_)))) | refine Or.inl (And.intro rfl (And.intro rfl ?_)) | refine Or.inr (And.intro (Nat.le_of_ble_eq_true rfl) ?_) | refine Or.inl (And.intro (by unfold in64; omega) ?_) | refine And.intro (by first | omega | (simp only [dlen, true_and, and_true, Nat.le_refl, List.length_map, List.length_append, List.length_cons, List.length_nil, List.length_take, List.length_drop, List.length_replicate, Int.toNat_natCast, List.append_nil] <;> omega) | fail) ?_ | refine And.intro (allU8_bytes _) ?_ | refine And.intro (show elemsP _ _ _ by repeat' (first | exact rfl | exact trivial | constructor)) ?_ | (refine (cloneS_con t h).mono fun rs bs hr => ?_; subst hr) | (refine fun x hx => ?_; (try simp (disch := omega) only [Int.tdiv_eq_ediv_of_nonneg, Int.tmod_eq_emod_of_nonneg, bx, Bool.true_or, Bool.false_or, Bool.or_false, Bool.or_true, Bool.and_true, Bool.true_and, Bool.false_and, Bool.and_false, cond_true, cond_false, if_true, if_false, Bool.false_eq_true, min_nn, max_nn, min_ln, min_nl, max_ln, max_nl, getD_map, str_of_bytes, take_bytes, take_data, wrap_u64, wrap_u32, wrap_u8, shr_i64, shr_u64, shr_u32, shl_i64, shl_u64, Int.reduceToNat, Int.reducePow, Int.pow_succ, Int.pow_zero, Int.one_mul, Int.reduceMul, wrap_id, wrap_u8_nat, wrap_i64_u8, byteD_mk, map_snoc, map_app, set_map, take_map', drop_map', Nat.sub_zero, List.length_map, List.length_append, List.length_cons, List.length_nil, Int.toNat_natCast, List.drop_zero, List.take_succ_cons, List.take_zero, List.take_length, List.nil_append, List.append_nil, Nat.zero_add, toNat_pred, toNat_succ, toNat_addn, toNat_subn] at hx); subst hx) | rw [List.take_length] | (rw [List.take_of_length_le]; rotate_left; (first | omega | (simp only [dlen, true_and, and_true, Nat.le_refl, List.length_map, List.length_append, List.length_cons, List.length_nil, List.length_take, List.length_drop, List.length_replicate, Int.toNat_natCast, List.append_nil] <;> omega) | fail)) | refine fun h => ?_ | fail)); all_goals (try exact (AV.dead : AV)); all_goals (try (conv => whnf))
end Go.Fw
namespace Go.Fw
open Go Go.Proofs
set_option maxHeartbeats 10000000
set_option maxRecDepth 100000
set_option linter.constructorNameAsVariable false
set_option linter.unusedVariables false
set_option linter.unusedSimpArgs false
def M23 : FuncId → List Mode := fun g => if g = 37 then [.own] else if g = 38 then [.own] else if g = 39 then [.own] else if g = 40 then [.own] else if g = 41 then [.own] else []
theorem open_step (b : List UInt8) (zs : List Nat) (n m k n1 n2 n3 : Nat) (e e1 e2 e3 : Int) (hb : b.length ≤ 1000000000) (hn : n ≤ b.length) (h1 : mostS b n e 4096 = (m, n1, e1)) (h2 : mostS b n1 e1 64 = (k, n2, e2)) (h3 : readP b n2 e2 4096 = (zs, n3, e3)) (hn1 : n1 ≤ b.length) (hn2 : n2 ≤ b.length) (hn3 : n3 ≤ b.length) (hm : m ≤ 4096) (hk : k ≤ 64) (hzl : zs.length ≤ 4096) : Has Try.prog 23 [curC b n e] (fun rs bs => (∃ z, (z = 1 ∨ (openS b n e).1 = []) ∧ rs = [CV.d (D.ptr (D.agg [D.sl z ((openS b n e).1.map D.str)]))]) ∧ bs = [curC b (openS b n e).2.1 (openS b n e).2.2] ) := by
  have hqu := quo_up m k
  have hb9 : Try.prog.bytesOf 9 = 16 := by kernel_rfl
  refine Has_of_run (fn := Try.f23) (M := M23) fol (by kernel_rfl) 9 noPlan [] [true] (by kernel_rfl) (Nat.le_of_ble_eq_true rfl) ?_
  (repeat' ((conv => whnf); first | done | (refine And.intro (fun h => ?_) (fun h => ?_) <;> (try simp only [Bool.or_eq_true, Bool.and_eq_true, Bool.or_eq_false_iff, Bool.and_eq_false_iff, toNat_pred, toNat_succ, toNat_addn, toNat_subn, decide_eq_true_eq, decide_eq_false_iff_not, Bool.not_eq_true', Bool.not_eq_false', List.length_map, Int.toNat_natCast, Int.not_lt, Int.not_le, Bool.not_eq_true, Bool.false_eq_true, Bool.true_eq_false, Bool.not_true, Bool.not_false, reduceCtorEq, beq_iff_eq, Bool.not_eq_eq_eq_not, bne_iff_ne, ne_eq, decide_not, Decidable.not_not, Classical.not_not] at h)) | exact (rfl : (_ : AV) = _) | exact (rfl : (_ : St) = _) | refine Exists.intro (α := AV) AV.dead (And.intro (fun h => Bool.noConfusion h) ?_) | apply ex_av | (refine fun (h : (_ : Bool) = true) => ?_; have h' := h; (try simp only [Bool.or_eq_true, Bool.and_eq_true, Bool.or_eq_false_iff, Bool.and_eq_false_iff, toNat_pred, toNat_succ, toNat_addn, toNat_subn, decide_eq_true_eq, decide_eq_false_iff_not, Bool.not_eq_true', Bool.not_eq_false', List.length_map, Int.toNat_natCast, Int.not_lt, Int.not_le, Bool.not_eq_true, Bool.false_eq_true, Bool.true_eq_false, Bool.not_true, Bool.not_false, reduceCtorEq, beq_iff_eq, Bool.not_eq_eq_eq_not, bne_iff_ne, ne_eq, decide_not, Decidable.not_not, Classical.not_not] at h')) | (refine And.intro (a := Both _ _ _) ?_ ?_; (refine ⟨fun h => ?_, fun h => ?_⟩ <;> first | rfl | exact h | exact Bool.noConfusion h | (rw [h]; rfl) | (rw [h]; simp only [Bool.not_false, Bool.not_true, Bool.and_true]; assumption) | (simp_all; done) | fail); skip) | refine And.intro rfl ?_ | refine Two.mk ?_ ?_ | refine And.intro (allU8_bytes _) ?_ | (refine And.intro (a := (_ : Bool) = true) ?_ ?_; (first | assumption | exact decide_eq_true (by assumption) | (rw [Bool.not_eq_true']; exact decide_eq_false (by assumption)) | (rw [Bool.not_not]; exact decide_eq_true (by assumption)) | (simp_all; done) | fail); skip) | refine And.intro (Or.inr rfl) ?_ | refine And.intro (Nat.le_of_ble_eq_true rfl) ?_ | refine And.intro (decide_eq_false (by omega)) ?_ | refine And.intro (show Program.stoodInHeld _ _ = _ by kernel_rfl) (And.intro (by kernel_rfl) ?_) | refine And.intro (show Nat.beq _ _ = _ from rfl) (And.intro (by decide) ?_) | refine And.intro ⟨rfl, rfl⟩ ?_ | refine And.intro ⟨rfl, rfl, trivial⟩ ?_ | refine And.intro (Int.natCast_nonneg _) ?_ | refine Or.inl (And.intro rfl (And.intro rfl (And.intro rfl (And.intro rfl ?_)))) | refine Or.inl (And.intro rfl (And.intro rfl ?_)) | refine Or.inr (And.intro (Nat.le_of_ble_eq_true rfl) ?_) | refine Or.inl (And.intro (by unfold in64; omega) ?_) | refine And.intro (by first | omega | (simp only [dlen, true_and, and_true, Nat.le_refl, List.length_map, List.length_append, List.length_cons, List.length_nil, List.length_take, List.length_drop, List.length_replicate, Int.toNat_natCast, List.append_nil, hb9] <;> omega) | fail) ?_ | refine And.intro (allU8_bytes _) ?_ | refine And.intro (show elemsP _ _ _ by repeat' (first | exact rfl | exact trivial | constructor)) ?_ | (refine (curMost_con _ _ _ _ hb (by first | assumption | exact mostS_le (by assumption) | exact textS_le (by assumption) | exact textS_le (mostS_le (by assumption)) | fail)).mono fun rs bs hr => ?_; obtain ⟨rfl, rfl⟩ := hr; simp only [h1, h2]) | (refine (packRead_con _ _ _ _ hb (by first | assumption | exact mostS_le (by assumption) | exact textS_le (by assumption) | exact textS_le (mostS_le (by assumption)) | fail) (by omega) (by omega)).mono fun rs bs hr => ?_; obtain ⟨rfl, rfl⟩ := hr; simp only [h3]) | (refine (curGood_con _ _ _).mono fun rs bs hr => ?_; obtain ⟨rfl, rfl⟩ := hr) | (refine (curFail_con _ _ _ _).mono fun rs bs hr => ?_; obtain ⟨rfl, rfl⟩ := hr) | (refine (frontRight_con _ _).mono fun rs bs hr => ?_; subst hr) | ((have hqi := quo_lt (m := m) (k := k) (i := i) (L := zs.length) (by assumption) (by assumption); rw [show min (k : Int) ((m : Int) - (i : Int) * (k : Int)) = ((min k (m - i * k) : Nat) : Int) by omega]; refine (taken_con b _ _ _ _ hb (by assumption) (by omega) (by omega)).mono fun rs bs hr => ?_; obtain ⟨rfl, rfl⟩ := hr)) | (refine Loops.by (M := M23) 9 noPlan fol (by kernel_rfl) (ι := Nat × List ByteArray × Nat × Int) (fun ⟨i, l, n', e'⟩ => ⟨[(0, AV.addr [0] 0 0), (3, AV.d (D.int .i64 m)), (4, AV.d (D.int .i64 k)), (6, AV.ref [6] 16 1 0 (l.map D.str).length), (32, AV.d (D.sl 1 (zs.map natD))), (33, AV.d (D.int .i64 zs.length)), (34, AV.d (D.int .i64 i))], [([0], 0, AO.box 62 [AV.d (D.sl 1 (b.map byteD)), AV.d (D.int .i64 n'), AV.d (D.int .i64 e')]), ([6], 16, AO.row 9 1 (l.map D.str))], 17⟩) (fun ⟨i, l, n', e'⟩ => i ≤ zs.length ∧ n' ≤ b.length ∧ l.length ≤ 65 * i ∧ opGo b k m (zs.drop i) i l n' e' = opGo b k m zs 0 [] n3 e3) (fun ⟨i, l, n', e'⟩ => zs.length - i) (fun p hI => ?_) ((0, [], n3, e3)) ⟨Nat.zero_le _, hn3, Nat.le_refl _, rfl⟩ (Forget.mk' ⟨⟨rfl, rfl⟩, ⟨rfl, rfl⟩, ⟨rfl, rfl⟩, ⟨rfl, rfl⟩, ⟨rfl, rfl⟩, ⟨rfl, rfl⟩, ⟨rfl, rfl⟩, trivial⟩ ⟨⟨rfl, rfl, rfl⟩, ⟨rfl, rfl, rfl⟩, trivial⟩ rfl rfl); obtain ⟨i, l, n', e'⟩ := p; obtain ⟨hi, hn', hll, hgo⟩ := hI; have hik : i * k ≤ 4096 * 64 := Nat.mul_le_mul (by omega) hk; have htl := takS_len b (min k (m - i * k)) (zs.getD i default) n' e') | (refine fun x hx => ?_; (try simp (disch := omega) only [Int.tdiv_eq_ediv_of_nonneg, Int.tmod_eq_emod_of_nonneg, bx, Bool.true_or, Bool.false_or, Bool.or_false, Bool.or_true, Bool.and_true, Bool.true_and, Bool.false_and, Bool.and_false, cond_true, cond_false, if_true, if_false, Bool.false_eq_true, min_nn, max_nn, min_ln, min_nl, max_ln, max_nl, getD_map, str_of_bytes, take_bytes, take_data, wrap_u64, wrap_u32, wrap_u8, shr_i64, shr_u64, shr_u32, shl_i64, shl_u64, Int.reduceToNat, Int.reducePow, Int.pow_succ, Int.pow_zero, Int.one_mul, Int.reduceMul, wrap_id, wrap_u8_nat, wrap_i64_u8, byteD_mk, map_snoc, map_app, set_map, take_map', drop_map', Nat.sub_zero, List.length_map, List.length_append, List.length_cons, List.length_nil, Int.toNat_natCast, List.drop_zero, List.take_succ_cons, List.take_zero, List.take_length, List.nil_append, List.append_nil, Nat.zero_add, toNat_pred, toNat_succ, toNat_addn, toNat_subn] at hx); subst hx) | rw [List.take_length] | (rw [List.take_of_length_le]; rotate_left; (first | omega | (simp only [dlen, true_and, and_true, Nat.le_refl, List.length_map, List.length_append, List.length_cons, List.length_nil, List.length_take, List.length_drop, List.length_replicate, Int.toNat_natCast, List.append_nil, hb9] <;> omega) | fail)) | refine fun h => ?_ | fail)); all_goals (try exact (AV.dead : AV)); all_goals (try (conv => whnf))
  all_goals first
    | (rw [op_bad h1 h2 h3 (by assumption)]; exact ⟨⟨_, .inr rfl, rfl⟩, rfl⟩)
    | (rw [op_no h1 h2 h3 (by assumption) hgo (by assumption) (by assumption)]; exact ⟨⟨_, .inr rfl, rfl⟩, rfl⟩)
    | (rw [op_end h1 h2 h3 (by assumption) hgo (by assumption), show rightF l (k : Int) = false by assumption]
       first
         | (exfalso; split at h <;> omega)
         | (exfalso; simp_all; done)
         | exact ⟨⟨_, .inr rfl, rfl⟩, rfl⟩)
    | (rw [op_end h1 h2 h3 (by assumption) hgo (by assumption), show rightF l (k : Int) = true by assumption]
       first
         | (rw [show (true && decide (e' = 0)) = true by simp; assumption]; subst e'; exact ⟨⟨_, .inl rfl, rfl⟩, rfl⟩)
         | (rw [show (true && decide (e' = 0)) = false by simp; assumption]; exact ⟨⟨_, .inr rfl, rfl⟩, rfl⟩))
    | (refine ⟨(i + 1, _, _, _), ⟨⟨by omega, ?_, ?_, ?_⟩, by show zs.length - (i + 1) < zs.length - i; omega⟩, (Forget.mk' ⟨⟨rfl, rfl⟩, ⟨rfl, rfl⟩, ⟨rfl, rfl⟩, ⟨rfl, rfl⟩, ⟨rfl, rfl⟩, ⟨rfl, rfl⟩, ⟨rfl, rfl⟩, trivial⟩ ⟨⟨rfl, rfl, rfl⟩, ⟨rfl, rfl, rfl⟩, trivial⟩ rfl rfl)⟩
       · exact takS_le hn'
       · simp only [List.length_append]; omega
       · exact op_round hgo (by assumption) (by assumption))
    | (trace_state; fail)
end Go.Fw
namespace Go.Fw
open Go Go.Proofs
set_option maxHeartbeats 10000000
set_option maxRecDepth 100000
set_option linter.constructorNameAsVariable false
set_option linter.unusedVariables false
set_option linter.unusedSimpArgs false
theorem open_con (b : List UInt8) (n : Nat) (e : Int) (hb : b.length ≤ 1000000000) (hn : n ≤ b.length) : Has Try.prog 23 [curC b n e] (fun rs bs => rs = [CV.d (dictD (openS b n e).1)] ∧ bs = [curC b (openS b n e).2.1 (openS b n e).2.2]) := by
  have l1 : (mostS b n e 4096).2.1 ≤ b.length := mostS_le hn
  have l2 : (mostS b (mostS b n e 4096).2.1 (mostS b n e 4096).2.2 64).2.1 ≤ b.length := mostS_le l1
  have l3 := readP_le (e := (mostS b (mostS b n e 4096).2.1 (mostS b n e 4096).2.2 64).2.2) (many := 4096) l2
  have m1 := mostS_most b n e (k := 4096) (by omega)
  have m2 := mostS_most b (mostS b n e 4096).2.1 (mostS b n e 4096).2.2 (k := 64) (by omega)
  have m3 := readP_len b (mostS b (mostS b n e 4096).2.1 (mostS b n e 4096).2.2 64).2.1 (mostS b (mostS b n e 4096).2.1 (mostS b n e 4096).2.2 64).2.2 (many := 4096) (by omega) l2
  refine (open_step b _ n _ _ _ _ _ e _ _ _ hb hn rfl rfl rfl l1 l2 l3 (by exact_mod_cast m1) (by exact_mod_cast m2) (by exact_mod_cast m3)).normR fun rs bs h => ?_
  obtain ⟨⟨z, hz, rfl⟩, rfl⟩ := h
  refine ⟨_, ?_, rfl, rfl⟩
  rcases hz with rfl | hz
  · rfl
  · rw [hz]; rfl
end Go.Fw
namespace Go.Fw
open Go
set_option linter.unusedVariables false
set_option linter.unusedSimpArgs false
theorem chs_small {k : Nat} {l : List ByteArray} (hk : 0 < k) (hl : l ≠ []) (h : l.length ≤ k) : chs k l = [l] := by
  rw [chs_cons hk hl, List.take_of_length_le h, List.drop_of_length_le h, chs_nil]
theorem chs_snoc {k : Nat} (hk : 0 < k) (s : ByteArray) : ∀ (n : Nat) (l : List ByteArray), l.length ≤ n →
    (l.length % k = 0 → chs k (l ++ [s]) = chs k l ++ [[s]]) ∧ (l.length % k ≠ 0 → ∃ a c, chs k l = a ++ [c] ∧ c ≠ [] ∧ lastB c = lastB l ∧ chs k (l ++ [s]) = a ++ [c ++ [s]])
  | n, [], h => by
    refine ⟨fun _ => ?_, fun h0 => ?_⟩
    · rw [List.nil_append, chs_small hk (by simp) (by simp; omega), chs_nil]; rfl
    · simp at h0
  | 0, x :: r, h => by simp at h
  | n + 1, x :: r, h => by
    generalize hl : x :: r = l at *
    have hne : l ≠ [] := by rw [← hl]; simp
    have h0 : 0 < l.length := List.length_pos_iff.2 hne
    by_cases hlt : l.length < k
    · refine ⟨fun h1 => ?_, fun _ => ⟨[], l, ?_, hne, rfl, ?_⟩⟩
      · rw [Nat.mod_eq_of_lt hlt] at h1; omega
      · rw [chs_small hk hne (by omega)]; rfl
      · rw [chs_small hk (by simp) (by simp; omega)]; rfl
    · have e1 : (l ++ [s]).take k = l.take k := List.take_append_of_le_length (by omega)
      have e2 : (l ++ [s]).drop k = l.drop k ++ [s] := List.drop_append_of_le_length (by omega)
      have hd : (l.drop k).length = l.length - k := List.length_drop
      have ih := chs_snoc hk s n (l.drop k) (by omega)
      have hm : (l.drop k).length % k = l.length % k := by rw [hd, ← Nat.mod_eq_sub_mod (by omega)]
      rw [hm] at ih
      refine ⟨fun h1 => ?_, fun h1 => ?_⟩
      · rw [chs_cons hk (by simp), e1, e2, ih.1 h1, chs_cons hk hne]; rfl
      · obtain ⟨a, c, q1, q2, q3, q4⟩ := ih.2 h1
        refine ⟨l.take k :: a, c, ?_, q2, ?_, ?_⟩
        · rw [chs_cons hk hne, q1]; rfl
        · rw [q3]
          have : (l.drop k).length ≠ 0 := fun h2 => by rw [h2] at hm; rw [Nat.zero_mod] at hm; omega
          simp only [lastB, List.getD_eq_getElem?_getD, List.getElem?_drop, hd]
          congr 2
          omega
        · rw [chs_cons hk (by simp), e1, e2, q4]; rfl
theorem entR_snoc : ∀ (r : List ByteArray) (p s : ByteArray), entR p (r ++ [s]) = entR p r ++ (putN (lcpS (lastB (p :: r)) s) ++ putT (s.extract (lcpS (lastB (p :: r)) s) s.size))
  | [], p, s => by simp [entR, lastB]
  | x :: r, p, s => by
    have e : lastB (p :: x :: r) = lastB (x :: r) := by simp [lastB, List.getD_eq_getElem?_getD]
    simp only [List.cons_append, entR, entR_snoc r x s, e, List.append_assoc]
theorem entB_snoc {c : List ByteArray} (hc : c ≠ []) (s : ByteArray) : entB (c ++ [s]) = entB c ++ (putN (lcpS (lastB c) s) ++ putT (s.extract (lcpS (lastB c) s) s.size)) := by
  match c, hc with
  | x :: r, _ => simp only [List.cons_append, entB, entR_snoc, List.append_assoc]
 
def zsB (t : List ByteArray) (k i : Nat) : List Nat := (chs k (t.take i)).map fun c => (entB c).length
def abB (t : List ByteArray) (k i : Nat) : List UInt8 := (chs k (t.take i)).flatMap entB
def enB (t : List ByteArray) (k i : Nat) : List UInt8 := if i % k = 0 then putT (t.getD i default) else putN (lcpS (t.getD (i - 1) default) (t.getD i default)) ++ putT ((t.getD i default).extract (lcpS (t.getD (i - 1) default) (t.getD i default)) (t.getD i default).size)
section
variable {t : List ByteArray} {k i : Nat}
theorem last_take (h : i ≤ t.length) (h0 : 0 < i) : lastB (t.take i) = t.getD (i - 1) default := by
  simp only [lastB, List.length_take, List.getD_eq_getElem?_getD]
  rw [List.getElem?_take_of_lt (by omega)]
  congr 2
  omega
theorem abB_step (hk : 0 < k) (h : i < t.length) : abB t k (i + 1) = abB t k i ++ enB t k i := by
  have hl : (t.take i).length = i := by simp; omega
  have hc := chs_snoc hk (t.getD i default) i (t.take i) (by omega)
  rw [hl] at hc
  simp only [abB, enB, take_snoc h]
  by_cases hm : i % k = 0
  · rw [hc.1 hm, if_pos hm, List.flatMap_append]
    simp [entB, entR]
  · obtain ⟨a, c, q1, q2, q3, q4⟩ := hc.2 hm
    have h0 : 0 < i := by
      rcases Nat.eq_zero_or_pos i with h0 | h0
      · subst h0; simp at hm
      · exact h0
    rw [last_take (by omega) h0] at q3
    rw [q4, q1, if_neg hm]
    simp only [List.flatMap_append, List.flatMap_cons, List.flatMap_nil, List.append_nil, entB_snoc q2, q3, List.append_assoc]
theorem zsB_new (hk : 0 < k) (h : i < t.length) (hm : i % k = 0) : zsB t k (i + 1) = zsB t k i ++ [(enB t k i).length] := by
  have hl : (t.take i).length = i := by simp; omega
  have hc := chs_snoc hk (t.getD i default) i (t.take i) (by omega)
  rw [hl] at hc
  simp only [zsB, enB, take_snoc h, hc.1 hm, if_pos hm]
  simp [entB, entR]
theorem zsB_more (hk : 0 < k) (h : i < t.length) (hm : i % k ≠ 0) : 0 < (zsB t k i).length ∧ zsB t k (i + 1) = (zsB t k i).set ((zsB t k i).length - 1) ((zsB t k i).getD ((zsB t k i).length - 1) default + (enB t k i).length) := by
  have hl : (t.take i).length = i := by simp; omega
  have hc := chs_snoc hk (t.getD i default) i (t.take i) (by omega)
  rw [hl] at hc
  obtain ⟨a, c, q1, q2, q3, q4⟩ := hc.2 hm
  have h0 : 0 < i := by
    rcases Nat.eq_zero_or_pos i with h0 | h0
    · subst h0; simp at hm
    · exact h0
  rw [last_take (by omega) h0] at q3
  simp only [zsB, enB, take_snoc h, q4, q1, if_neg hm]
  refine ⟨by simp, ?_⟩
  simp only [List.map_append, List.map_cons, List.map_nil, entB_snoc q2, q3]
  rw [List.set_append_right _ _ (by simp)]
  simp [List.getD_eq_getElem?_getD]
theorem zsB_len (hk : 0 < k) (h : i ≤ t.length) : (zsB t k i).length ≤ i := by
  have hl : (t.take i).length = i := by simp; omega
  rw [zsB, List.length_map, chs_length hk _ _ (Nat.le_refl _), hl]
  by_cases h0 : i = 0
  · rw [h0, Nat.div_eq_of_lt (by omega)]; exact Nat.le_refl _
  · rw [show i + k - 1 = (i - 1) + 1 * k by omega, Nat.add_mul_div_right _ _ hk]
    have := Nat.div_le_self (i - 1) k
    omega
theorem zsB_le (hk : 0 < k) (hs : ∀ s ∈ t, s.size ≤ 4096) (h : i ≤ t.length) : ∀ x ∈ zsB t k i, x ≤ 4102 * i := fun x hx => by
  obtain ⟨c, hc, rfl⟩ := List.mem_map.1 hx
  have h1 := chs_mem hk (t.take i).length (t.take i) (Nat.le_refl _) c hc
  have h2 := entB_len c (fun s hs' => hs s (List.mem_of_mem_take (h1.2 s hs')))
  have h3 : c.length ≤ i := Nat.le_trans h1.1 (by simp; omega)
  exact Nat.le_trans h2 (Nat.mul_le_mul_left _ h3)
theorem enB_len (hs : ∀ s ∈ t, s.size ≤ 4096) (h : i < t.length) : (enB t k i).length ≤ 4102 := by
  have hz := hs _ (getD_memB h)
  unfold enB
  split
  · have := putT_len _ hz; omega
  · have h1 := lcpS_right (t.getD (i - 1) default) (t.getD i default)
    have h2 := putN_len 2 (lcpS (t.getD (i - 1) default) (t.getD i default)) (by omega)
    have h3 := putT_len ((t.getD i default).extract (lcpS (t.getD (i - 1) default) (t.getD i default)) (t.getD i default).size) (by simp only [ByteArray.size_extract]; omega)
    simp only [List.length_append]
    omega
theorem abB_len (hk : 0 < k) (hs : ∀ s ∈ t, s.size ≤ 4096) : ∀ i, i ≤ t.length → (abB t k i).length ≤ 4102 * i
  | 0, _ => by simp [abB, chs_nil]
  | i + 1, h => by
    have h1 := abB_len hk hs i (by omega)
    have h2 := enB_len (k := k) hs (show i < t.length by omega)
    rw [abB_step hk (by omega), List.length_append]
    omega
theorem build_end (h : t.length ≤ i) : buildS t k = putN t.length ++ (putN k ++ (pkW (zsB t k i) ++ abB t k i)) := by
  simp only [buildS, zsB, abB, List.take_of_length_le h]
end
theorem snocN0 (l : List Nat) : List.map natD l ++ [D.int .i64 0] = List.map natD (l ++ [0]) := by simp [natD]
theorem setNa (l : List Nat) (i a b : Nat) : (List.map natD l).set i (D.int .i64 ((a : Int) + (b : Int))) = List.map natD (l.set i (a + b)) := by rw [List.map_set]; rfl
theorem sizes_any {t : List ByteArray} {m : Nat} (h : ∀ s ∈ t, s.size ≤ m) (i : Nat) : (t.getD i default).size ≤ m := by
  by_cases hi : i < t.length
  · exact h _ (getD_memB hi)
  · have e : t.getD i default = default := by simp [List.getD_eq_getElem?_getD, List.getElem?_eq_none (Nat.le_of_not_lt hi)]
    rw [e]
    exact Nat.zero_le _
theorem putT_ex {t : List ByteArray} (h : ∀ s ∈ t, s.size ≤ 4096) (i n : Nat) : ((t.getD i default).extract n (t.getD i default).size).size ≤ 4096 ∧ (putT ((t.getD i default).extract n (t.getD i default).size)).length ≤ 4099 := by
  have h1 := sizes_any h i
  have h2 : ((t.getD i default).extract n (t.getD i default).size).size ≤ 4096 := by simp only [ByteArray.size_extract]; omega
  exact ⟨h2, putT_len _ h2⟩
theorem pkW_len {l : List Nat} (hl : l.length ≤ 4096) (h : ∀ x ∈ l, x < 4294967296) : (pkW l).length ≤ 20000 := by
  have hw : widN l ≤ 32 := widN_w h
  have h1 := putN_len 2 l.length (by omega)
  have h2 : l.length * widN l ≤ 4096 * 32 := Nat.mul_le_mul hl hw
  simp only [pkW, List.length_append, List.length_cons, putP_len, sizeP]
  omega
theorem ext_all (s : ByteArray) : s.extract 0 s.size = s := by simp
theorem mod_pos {i k : Nat} (h : ¬ (i : Int) % (k : Int) = 0) : 1 ≤ i ∧ i % k ≠ 0 := by
  constructor
  · rcases Nat.eq_zero_or_pos i with h0 | h0
    · subst h0; simp at h
    · exact h0
  · intro h1
    apply h
    rw [← Int.natCast_emod, h1]; rfl
theorem mod_zero {i k : Nat} (h : (i : Int) % (k : Int) = 0) : i % k = 0 := by
  rw [← Int.natCast_emod] at h
  omega
theorem getD_last0 (l : List Nat) : (List.map natD (l ++ [0])).getD (l.length + 1 - 1) default = D.int .i64 0 := by
  simp [List.getD_eq_getElem?_getD, natD]
theorem setNb (l : List Nat) (i b : Nat) : (List.map natD l).set i (D.int .i64 (0 + (b : Int))) = List.map natD (l.set i b) := by rw [List.map_set, Int.zero_add]; rfl
theorem set_last0 (l : List Nat) (b : Nat) : (l ++ [0]).set (l.length + 1 - 1) b = l ++ [b] := by
  rw [Nat.add_sub_cancel, List.set_append_right _ _ (Nat.le_refl _)]
  simp
theorem lcpS_end {a b : ByteArray} {n : Nat} (h1 : n ≤ a.size) (h2 : n ≤ b.size) (he : ∀ j, j < n → bAt a j = bAt b j) (h : ((a.size : Int) ≤ n ∨ (b.size : Int) ≤ n) ∨ ¬ bAt a n = bAt b n) : lcpS a b = n := by
  rw [lcpS, lcp_eq a.data.toList b.data.toList n h1 h2 (fun j hj => bAt_eq (he j hj))]
  rcases h with (h | h) | h
  · exact .inl (by show n = a.size; omega)
  · exact .inr (.inl (by show n = b.size; omega))
  · exact .inr (.inr fun hh => h (by simp only [bAt, hh]))
section
variable {t : List ByteArray} {k i n : Nat}
theorem new_a (hk : 0 < k) (hi : (i : Int) < t.length) (h : (i : Int) % (k : Int) = 0) : zsB t k i ++ [(putT ((t.getD i default).extract 0 (t.getD i default).size)).length] = zsB t k (i + 1) ∧
    abB t k i ++ putT ((t.getD i default).extract 0 (t.getD i default).size) = abB t k (i + 1) ∧ (List.map natD (zsB t k i ++ [0])).length = (List.map natD (zsB t k (i + 1))).length := by
  have hm := mod_zero h
  rw [ext_all, zsB_new hk (by omega) hm, abB_step hk (by omega), enB, if_pos hm]
  exact ⟨rfl, rfl, by simp⟩
theorem more_a (hk : 0 < k) (hi : (i : Int) < t.length) (h : ¬ (i : Int) % (k : Int) = 0) (hn : lcpS (t.getD (i - 1) default) (t.getD i default) = n) :
    (zsB t k i).set ((zsB t k i).length - 1) ((zsB t k i).getD ((zsB t k i).length - 1) default + ((putN n).length + (putT ((t.getD i default).extract n (t.getD i default).size)).length)) = zsB t k (i + 1) ∧
    abB t k i ++ (putN n ++ putT ((t.getD i default).extract n (t.getD i default).size)) = abB t k (i + 1) ∧ (List.map natD (zsB t k i)).length = (List.map natD (zsB t k (i + 1))).length := by
  have hm := (mod_pos h).2
  have h1 := (zsB_more hk (show i < t.length by omega) hm).2
  have h2 := abB_step (t := t) hk (show i < t.length by omega)
  rw [enB, if_neg hm, hn] at h1 h2
  rw [List.length_append] at h1
  refine ⟨h1.symm, h2.symm, ?_⟩
  rw [h1]
  simp only [List.length_map, List.length_set]
end
end Go.Fw
namespace Go.Fw
open Go
set_option linter.unusedVariables false
set_option linter.unusedSimpArgs false
theorem cnt_split {p : ByteArray → Bool} : ∀ {t : List ByteArray}, (∀ x y, x < y → y < t.length → p (t.getD y default) = true → p (t.getD x default) = true) → ∀ x, x < t.length → (p (t.getD x default) = true ↔ x < t.countP p)
  | [], h, x, hx => absurd hx (Nat.not_lt_zero _)
  | a :: r, h, x, hx => by
    have hr : ∀ x y, x < y → y < r.length → p (r.getD y default) = true → p (r.getD x default) = true := fun x y hxy hy hp => by
      simpa using h (x + 1) (y + 1) (by omega) (by simp; omega) (by simpa using hp)
    cases hpa : p a with
    | true =>
      rw [List.countP_cons_of_pos hpa]
      cases x with
      | zero => simpa using hpa
      | succ x =>
        have := cnt_split hr x (by simpa using hx)
        simp only [List.getD_cons_succ, this]
        omega
    | false =>
      have hz : ∀ y, y < r.length → p (r.getD y default) = false := fun y hy => by
        cases hpy : p (r.getD y default) with
        | false => rfl
        | true =>
          have := h 0 (y + 1) (by omega) (by simp; omega) (by simpa using hpy)
          simp [hpa] at this
      have hc : r.countP p = 0 := by
        rw [List.countP_eq_zero]
        intro s hs
        obtain ⟨y, hy, rfl⟩ := mem_getD hs
        rw [hz y hy]; simp
      rw [List.countP_cons_of_neg (by simp [hpa]), hc]
      cases x with
      | zero => simp [hpa]
      | succ x =>
        have := hz x (by simpa using hx)
        rw [List.getD_cons_succ, this]
        simp
def lowN (t : List ByteArray) (s : ByteArray) : Nat := t.countP fun a => slt a s
def uppN (t : List ByteArray) (s : ByteArray) : Nat := t.countP fun a => !slt s a
theorem lowN_le (t : List ByteArray) (s : ByteArray) : lowN t s ≤ t.length := List.countP_le_length
theorem uppN_le (t : List ByteArray) (s : ByteArray) : uppN t s ≤ t.length := List.countP_le_length
theorem lowN_iff {t : List ByteArray} (hr : Rises t) (s : ByteArray) : ∀ x, x < t.length → (slt (t.getD x default) s = true ↔ x < lowN t s) :=
  cnt_split (p := fun a => slt a s) fun x y hxy hy h => slt_trans (hr x y hxy hy) h
theorem uppN_iff {t : List ByteArray} (hr : Rises t) (s : ByteArray) : ∀ x, x < t.length → ((!slt s (t.getD x default)) = true ↔ x < uppN t s) :=
  cnt_split (p := fun a => !slt s a) fun x y hxy hy h => by
    simp only [Bool.not_eq_true'] at *
    cases hc : slt s (t.getD x default) with
    | false => rfl
    | true => rw [slt_trans hc (hr x y hxy hy)] at h; cases h
 
def preS (s p : ByteArray) : Bool := decide (p.size ≤ s.size) && decide (s.extract 0 p.size = p)
theorem preS_iff {s p : ByteArray} : preS s p = true ↔ p.data.toList <+: s.data.toList := by
  simp only [preS, Bool.and_eq_true, decide_eq_true_eq]
  constructor
  · rintro ⟨h1, h2⟩
    have h3 := congrArg (fun x : ByteArray => x.data.toList) h2
    simp only [extract_list, List.drop_zero] at h3
    rw [← h3]
    exact List.take_prefix _ _
  · intro h
    have hl : p.size ≤ s.size := h.length_le
    refine ⟨hl, bytes_inj ?_⟩
    rw [extract_list, List.drop_zero]
    exact (List.prefix_iff_eq_take.1 h).symm
 
theorem pre_mid : ∀ (a b p : List UInt8), Op.bytesLess a p = false → Op.bytesLess a b = true → p <+: b → p <+: a
  | a, b, [], h1, h2, h3 => List.nil_prefix
  | a, [], x :: p, h1, h2, h3 => by simp at h3
  | [], y :: b, x :: p, h1, h2, h3 => by simp [Op.bytesLess] at h1
  | z :: a, y :: b, x :: p, h1, h2, h3 => by
    obtain ⟨rfl, h4⟩ := List.cons_prefix_cons.1 h3
    simp only [Op.bytesLess, Bool.or_eq_true, Bool.and_eq_true, decide_eq_true_eq, beq_iff_eq, Bool.or_eq_false_iff, Bool.and_eq_false_iff, decide_eq_false_iff_not, beq_eq_false_iff_ne] at h1 h2
    have e : z = x := by
      rcases h2 with h2 | h2
      · exact absurd h2 h1.1
      · exact h2.1
    subst e
    have h5 : Op.bytesLess a p = false := by
      rcases h1.2 with h | h
      · exact absurd rfl h
      · exact h
    have h6 : Op.bytesLess a b = true := by
      rcases h2 with h | h
      · exact absurd h h1.1
      · exact h.2
    exact List.cons_prefix_cons.2 ⟨rfl, pre_mid a b p h5 h6 h4⟩
theorem preS_mid {a b p : ByteArray} (h1 : slt a p = false) (h2 : slt a b = true) (h3 : preS b p = true) : preS a p = true :=
  preS_iff.2 (pre_mid _ _ _ h1 h2 (preS_iff.1 h3))
 
theorem pre_less : ∀ (a p : List UInt8), p <+: a → Op.bytesLess a p = false
  | a, [], h => by cases a <;> simp [Op.bytesLess]
  | [], x :: p, h => by simp at h
  | y :: a, x :: p, h => by
    obtain ⟨rfl, h4⟩ := List.cons_prefix_cons.1 h
    simp [Op.bytesLess, pre_less a p h4, UInt8.lt_irrefl]
theorem preS_less {a p : ByteArray} (h : preS a p = true) : slt a p = false := pre_less _ _ (preS_iff.1 h)
def preN (t : List ByteArray) (p : ByteArray) : Nat := (t.drop (lowN t p)).countP fun a => preS a p
theorem preN_le (t : List ByteArray) (p : ByteArray) : lowN t p + preN t p ≤ t.length := by
  have h1 : preN t p ≤ (t.drop (lowN t p)).length := List.countP_le_length
  have h2 := lowN_le t p
  rw [List.length_drop] at h1
  omega
theorem preN_iff {t : List ByteArray} (hr : Rises t) (p : ByteArray) : ∀ x, lowN t p + x < t.length → (preS (t.getD (lowN t p + x) default) p = true ↔ x < preN t p) := fun x hx => by
  have e : ∀ y, (t.drop (lowN t p)).getD y default = t.getD (lowN t p + y) default := fun y => by simp [List.getD_eq_getElem?_getD]
  have h := cnt_split (p := fun a => preS a p) (t := t.drop (lowN t p)) (fun x y hxy hy h => by
    rw [e] at h ⊢
    rw [List.length_drop] at hy
    refine preS_mid (b := t.getD (lowN t p + y) default) ?_ (hr _ _ (by omega) (by omega)) h
    cases hc : slt (t.getD (lowN t p + x) default) p with
    | false => rfl
    | true => have := (lowN_iff hr p (lowN t p + x) (by omega)).1 hc; omega) x (by rw [List.length_drop]; omega)
  rw [e] at h
  exact h
theorem sgt_eq (a s : ByteArray) : (!(slt a s || decide (a = s))) = slt s a := by
  cases h1 : slt a s with
  | true => rw [slt_asymm h1]; rfl
  | false =>
    by_cases h2 : a = s
    · subst h2; rw [slt_irrefl]; simp
    · rw [decide_eq_false h2]
      cases h3 : slt s a with
      | true => rfl
      | false => exact absurd (slt_total h1 h3) h2
theorem hasPre_eq (a p : ByteArray) : (decide ((p.size : Int) ≤ (a.size : Int)) && decide (a.extract 0 p.size = p)) = preS a p := by
  simp only [preS]
  congr 1
  exact decide_eq_decide.2 (by omega)
end Go.Fw
namespace Go.Fw
open Go Go.Proofs
set_option maxHeartbeats 10000000
set_option maxRecDepth 100000
set_option linter.constructorNameAsVariable false
set_option linter.unusedVariables false
set_option linter.unusedSimpArgs false
theorem hasPreL_con (a p : ByteArray) : Has Try.prog 32 [CV.d (D.str a), CV.d (D.str p)] (fun rs _ => rs = [CV.d (D.bool (preS a p))]) := by
  refine Has_of_run (fn := Try.f32) (M := M0) fol (by kernel_rfl) 5 noPlan [] [] (by kernel_rfl) (Nat.le_of_ble_eq_true rfl) ?_
  (repeat' ((conv => whnf); first | done | (refine And.intro (fun h => ?_) (fun h => ?_) <;> (try simp only [Bool.or_eq_true, Bool.and_eq_true, Bool.or_eq_false_iff, Bool.and_eq_false_iff, toNat_pred, toNat_succ, toNat_addn, toNat_subn, decide_eq_true_eq, decide_eq_false_iff_not, Bool.not_eq_true', Bool.not_eq_false', List.length_map, Int.toNat_natCast, Int.not_lt, Int.not_le, Bool.not_eq_true, Bool.false_eq_true, Bool.true_eq_false, Bool.not_true, Bool.not_false, reduceCtorEq, beq_iff_eq, Bool.not_eq_eq_eq_not, bne_iff_ne, ne_eq, decide_not, Decidable.not_not, Classical.not_not] at h)) | exact (rfl : (_ : AV) = _) | exact (rfl : (_ : St) = _) | refine Exists.intro (α := AV) AV.dead (And.intro (fun h => Bool.noConfusion h) ?_) | apply ex_av | (refine fun (h : (_ : Bool) = true) => ?_; have h' := h; (try simp only [Bool.or_eq_true, Bool.and_eq_true, Bool.or_eq_false_iff, Bool.and_eq_false_iff, toNat_pred, toNat_succ, toNat_addn, toNat_subn, decide_eq_true_eq, decide_eq_false_iff_not, Bool.not_eq_true', Bool.not_eq_false', List.length_map, Int.toNat_natCast, Int.not_lt, Int.not_le, Bool.not_eq_true, Bool.false_eq_true, Bool.true_eq_false, Bool.not_true, Bool.not_false, reduceCtorEq, beq_iff_eq, Bool.not_eq_eq_eq_not, bne_iff_ne, ne_eq, decide_not, Decidable.not_not, Classical.not_not] at h')) | (refine And.intro (a := Both _ _ _) ?_ ?_; (refine ⟨fun h => ?_, fun h => ?_⟩ <;> first | rfl | exact h | exact Bool.noConfusion h | (rw [h]; rfl) | (rw [h]; simp only [Bool.not_false, Bool.not_true, Bool.and_true]; assumption) | (simp_all; done) | fail); skip) | refine And.intro rfl ?_ | refine Two.mk ?_ ?_ | refine And.intro (allU8_bytes _) ?_ | (refine And.intro (a := (_ : Bool) = true) ?_ ?_; (first | assumption | exact decide_eq_true (by assumption) | (rw [Bool.not_eq_true']; exact decide_eq_false (by assumption)) | (rw [Bool.not_not]; exact decide_eq_true (by assumption)) | (simp_all; done) | fail); skip) | refine And.intro (Or.inr rfl) ?_ | refine And.intro (Nat.le_of_ble_eq_true rfl) ?_ | refine And.intro (decide_eq_false (by omega)) ?_ | refine And.intro (show Program.stoodInHeld _ _ = _ by kernel_rfl) (And.intro (by kernel_rfl) ?_) | refine And.intro (show Nat.beq _ _ = _ from rfl) (And.intro (by decide) ?_) | refine And.intro ⟨rfl, rfl⟩ ?_ | refine And.intro ⟨rfl, rfl, trivial⟩ ?_ | refine And.intro (Int.natCast_nonneg _) ?_ | refine Or.inl (And.intro rfl (And.intro rfl (And.intro rfl (And.intro rfl ?_)))) | refine Or.inl (And.intro rfl (And.intro rfl ?_)) | refine Or.inr (And.intro (Nat.le_of_ble_eq_true rfl) ?_) | refine Or.inl (And.intro (by unfold in64; omega) ?_) | refine And.intro (by first | omega | (simp only [dlen, true_and, and_true, Nat.le_refl, List.length_map, List.length_append, List.length_cons, List.length_nil, List.length_take, List.length_drop, List.length_replicate, Int.toNat_natCast, List.append_nil] <;> omega) | fail) ?_ | refine And.intro (allU8_bytes _) ?_ | refine And.intro (show elemsP _ _ _ by repeat' (first | exact rfl | exact trivial | constructor)) ?_ | (refine fun x hx => ?_; (try simp (disch := omega) only [Int.tdiv_eq_ediv_of_nonneg, Int.tmod_eq_emod_of_nonneg, bx, Bool.true_or, Bool.false_or, Bool.or_false, Bool.or_true, Bool.and_true, Bool.true_and, Bool.false_and, Bool.and_false, cond_true, cond_false, if_true, if_false, Bool.false_eq_true, min_nn, max_nn, min_ln, min_nl, max_ln, max_nl, getD_map, str_of_bytes, take_bytes, take_data, wrap_u64, wrap_u32, wrap_u8, shr_i64, shr_u64, shr_u32, shl_i64, shl_u64, Int.reduceToNat, Int.reducePow, Int.pow_succ, Int.pow_zero, Int.one_mul, Int.reduceMul, wrap_id, wrap_u8_nat, wrap_i64_u8, byteD_mk, map_snoc, map_app, set_map, take_map', drop_map', Nat.sub_zero, List.length_map, List.length_append, List.length_cons, List.length_nil, Int.toNat_natCast, List.drop_zero, List.take_succ_cons, List.take_zero, List.take_length, List.nil_append, List.append_nil, Nat.zero_add, toNat_pred, toNat_succ, toNat_addn, toNat_subn] at hx); subst hx) | rw [List.take_length] | (rw [List.take_of_length_le]; rotate_left; (first | omega | (simp only [dlen, true_and, and_true, Nat.le_refl, List.length_map, List.length_append, List.length_cons, List.length_nil, List.length_take, List.length_drop, List.length_replicate, Int.toNat_natCast, List.append_nil] <;> omega) | fail)) | refine fun h => ?_ | fail)); all_goals (try exact (AV.dead : AV)); all_goals (try (conv => whnf))
  exact rb (hasPre_eq a p)
theorem hasPre_con (a p : ByteArray) : Has Try.prog 15 [CV.d (D.str a), CV.d (D.str p)] (fun rs _ => rs = [CV.d (D.bool (preS a p))]) := by
  refine Has_of_run (fn := Try.f15) (M := M0) fol (by kernel_rfl) 5 noPlan [] [] (by kernel_rfl) (Nat.le_of_ble_eq_true rfl) ?_
  (repeat' ((conv => whnf); first | done | (refine And.intro (fun h => ?_) (fun h => ?_) <;> (try simp only [Bool.or_eq_true, Bool.and_eq_true, Bool.or_eq_false_iff, Bool.and_eq_false_iff, toNat_pred, toNat_succ, toNat_addn, toNat_subn, decide_eq_true_eq, decide_eq_false_iff_not, Bool.not_eq_true', Bool.not_eq_false', List.length_map, Int.toNat_natCast, Int.not_lt, Int.not_le, Bool.not_eq_true, Bool.false_eq_true, Bool.true_eq_false, Bool.not_true, Bool.not_false, reduceCtorEq, beq_iff_eq, Bool.not_eq_eq_eq_not, bne_iff_ne, ne_eq, decide_not, Decidable.not_not, Classical.not_not] at h)) | exact (rfl : (_ : AV) = _) | exact (rfl : (_ : St) = _) | refine Exists.intro (α := AV) AV.dead (And.intro (fun h => Bool.noConfusion h) ?_) | apply ex_av | (refine fun (h : (_ : Bool) = true) => ?_; have h' := h; (try simp only [Bool.or_eq_true, Bool.and_eq_true, Bool.or_eq_false_iff, Bool.and_eq_false_iff, toNat_pred, toNat_succ, toNat_addn, toNat_subn, decide_eq_true_eq, decide_eq_false_iff_not, Bool.not_eq_true', Bool.not_eq_false', List.length_map, Int.toNat_natCast, Int.not_lt, Int.not_le, Bool.not_eq_true, Bool.false_eq_true, Bool.true_eq_false, Bool.not_true, Bool.not_false, reduceCtorEq, beq_iff_eq, Bool.not_eq_eq_eq_not, bne_iff_ne, ne_eq, decide_not, Decidable.not_not, Classical.not_not] at h')) | (refine And.intro (a := Both _ _ _) ?_ ?_; (refine ⟨fun h => ?_, fun h => ?_⟩ <;> first | rfl | exact h | exact Bool.noConfusion h | (rw [h]; rfl) | (rw [h]; simp only [Bool.not_false, Bool.not_true, Bool.and_true]; assumption) | (simp_all; done) | fail); skip) | refine And.intro rfl ?_ | refine Two.mk ?_ ?_ | refine And.intro (allU8_bytes _) ?_ | (refine And.intro (a := (_ : Bool) = true) ?_ ?_; (first | assumption | exact decide_eq_true (by assumption) | (rw [Bool.not_eq_true']; exact decide_eq_false (by assumption)) | (rw [Bool.not_not]; exact decide_eq_true (by assumption)) | (simp_all; done) | fail); skip) | refine And.intro (Or.inr rfl) ?_ | refine And.intro (Nat.le_of_ble_eq_true rfl) ?_ | refine And.intro (decide_eq_false (by omega)) ?_ | refine And.intro (show Program.stoodInHeld _ _ = _ by kernel_rfl) (And.intro (by kernel_rfl) ?_) | refine And.intro (show Nat.beq _ _ = _ from rfl) (And.intro (by decide) ?_) | refine And.intro ⟨rfl, rfl⟩ ?_ | refine And.intro ⟨rfl, rfl, trivial⟩ ?_ | refine And.intro (Int.natCast_nonneg _) ?_ | refine Or.inl (And.intro rfl (And.intro rfl (And.intro rfl (And.intro rfl ?_)))) | refine Or.inl (And.intro rfl (And.intro rfl ?_)) | refine Or.inr (And.intro (Nat.le_of_ble_eq_true rfl) ?_) | refine Or.inl (And.intro (by unfold in64; omega) ?_) | refine And.intro (by first | omega | (simp only [dlen, true_and, and_true, Nat.le_refl, List.length_map, List.length_append, List.length_cons, List.length_nil, List.length_take, List.length_drop, List.length_replicate, Int.toNat_natCast, List.append_nil] <;> omega) | fail) ?_ | refine And.intro (allU8_bytes _) ?_ | refine And.intro (show elemsP _ _ _ by repeat' (first | exact rfl | exact trivial | constructor)) ?_ | (refine (hasPreL_con a p).mono fun rs bs hr => ?_; subst hr) | (refine fun x hx => ?_; (try simp (disch := omega) only [Int.tdiv_eq_ediv_of_nonneg, Int.tmod_eq_emod_of_nonneg, bx, Bool.true_or, Bool.false_or, Bool.or_false, Bool.or_true, Bool.and_true, Bool.true_and, Bool.false_and, Bool.and_false, cond_true, cond_false, if_true, if_false, Bool.false_eq_true, min_nn, max_nn, min_ln, min_nl, max_ln, max_nl, getD_map, str_of_bytes, take_bytes, take_data, wrap_u64, wrap_u32, wrap_u8, shr_i64, shr_u64, shr_u32, shl_i64, shl_u64, Int.reduceToNat, Int.reducePow, Int.pow_succ, Int.pow_zero, Int.one_mul, Int.reduceMul, wrap_id, wrap_u8_nat, wrap_i64_u8, byteD_mk, map_snoc, map_app, set_map, take_map', drop_map', Nat.sub_zero, List.length_map, List.length_append, List.length_cons, List.length_nil, Int.toNat_natCast, List.drop_zero, List.take_succ_cons, List.take_zero, List.take_length, List.nil_append, List.append_nil, Nat.zero_add, toNat_pred, toNat_succ, toNat_addn, toNat_subn] at hx); subst hx) | rw [List.take_length] | (rw [List.take_of_length_le]; rotate_left; (first | omega | (simp only [dlen, true_and, and_true, Nat.le_refl, List.length_map, List.length_append, List.length_cons, List.length_nil, List.length_take, List.length_drop, List.length_replicate, Int.toNat_natCast, List.append_nil] <;> omega) | fail)) | refine fun h => ?_ | fail)); all_goals (try exact (AV.dead : AV)); all_goals (try (conv => whnf))
def pl29 : Nat → Plan
  | 1 => tks 0 [1, 0] (.two 2 (tks 3 [1, 0] (.one 5 (.done))) 3 (.one 2 (tks 4 [0] (.one 5 (.done)))))
  | _ => .done
theorem lower1_con (t : List ByteArray) (s : ByteArray) (i : Nat) (hi : i < t.length) : Has Try.prog 29 [CV.d (D.int .i64 i), CV.d (D.ptr (dictD t)), CV.d (D.ptr (D.str s))] (fun rs _ => rs = [CV.d (D.bool (!slt (t.getD i default) s))]) := by
  refine Has_of_run (fn := Try.f29) (M := M0) fol (by kernel_rfl) 5 pl29 [] [] (by kernel_rfl) (Nat.le_of_ble_eq_true rfl) ?_
  (repeat' ((conv => whnf); first | done | (refine And.intro (fun h => ?_) (fun h => ?_) <;> (try simp only [Bool.or_eq_true, Bool.and_eq_true, Bool.or_eq_false_iff, Bool.and_eq_false_iff, toNat_pred, toNat_succ, toNat_addn, toNat_subn, decide_eq_true_eq, decide_eq_false_iff_not, Bool.not_eq_true', Bool.not_eq_false', List.length_map, Int.toNat_natCast, Int.not_lt, Int.not_le, Bool.not_eq_true, Bool.false_eq_true, Bool.true_eq_false, Bool.not_true, Bool.not_false, reduceCtorEq, beq_iff_eq, Bool.not_eq_eq_eq_not, bne_iff_ne, ne_eq, decide_not, Decidable.not_not, Classical.not_not] at h)) | exact (rfl : (_ : AV) = _) | exact (rfl : (_ : St) = _) | refine Exists.intro (α := AV) AV.dead (And.intro (fun h => Bool.noConfusion h) ?_) | apply ex_av | (refine fun (h : (_ : Bool) = true) => ?_; have h' := h; (try simp only [Bool.or_eq_true, Bool.and_eq_true, Bool.or_eq_false_iff, Bool.and_eq_false_iff, toNat_pred, toNat_succ, toNat_addn, toNat_subn, decide_eq_true_eq, decide_eq_false_iff_not, Bool.not_eq_true', Bool.not_eq_false', List.length_map, Int.toNat_natCast, Int.not_lt, Int.not_le, Bool.not_eq_true, Bool.false_eq_true, Bool.true_eq_false, Bool.not_true, Bool.not_false, reduceCtorEq, beq_iff_eq, Bool.not_eq_eq_eq_not, bne_iff_ne, ne_eq, decide_not, Decidable.not_not, Classical.not_not] at h')) | (refine And.intro (a := Both _ _ _) ?_ ?_; (refine ⟨fun h => ?_, fun h => ?_⟩ <;> first | rfl | exact h | exact Bool.noConfusion h | (rw [h]; rfl) | (rw [h]; simp only [Bool.not_false, Bool.not_true, Bool.and_true]; assumption) | (simp_all; done) | fail); skip) | refine And.intro rfl ?_ | refine Two.mk ?_ ?_ | refine And.intro (allU8_bytes _) ?_ | (refine And.intro (a := (_ : Bool) = true) ?_ ?_; (first | assumption | exact decide_eq_true (by assumption) | (rw [Bool.not_eq_true']; exact decide_eq_false (by assumption)) | (rw [Bool.not_not]; exact decide_eq_true (by assumption)) | (simp_all; done) | fail); skip) | refine And.intro (Or.inr rfl) ?_ | refine And.intro (Nat.le_of_ble_eq_true rfl) ?_ | refine And.intro (decide_eq_false (by omega)) ?_ | refine And.intro (show Program.stoodInHeld _ _ = _ by kernel_rfl) (And.intro (by kernel_rfl) ?_) | refine And.intro (show Nat.beq _ _ = _ from rfl) (And.intro (by decide) ?_) | refine And.intro ⟨rfl, rfl⟩ ?_ | refine And.intro ⟨rfl, rfl, trivial⟩ ?_ | refine And.intro (Int.natCast_nonneg _) ?_ | refine Or.inl (And.intro rfl (And.intro rfl (And.intro rfl (And.intro rfl ?_)))) | refine Or.inl (And.intro rfl (And.intro rfl ?_)) | refine Or.inr (And.intro (Nat.le_of_ble_eq_true rfl) ?_) | refine Or.inl (And.intro (by unfold in64; omega) ?_) | refine And.intro (by first | omega | (simp only [dlen, true_and, and_true, Nat.le_refl, List.length_map, List.length_append, List.length_cons, List.length_nil, List.length_take, List.length_drop, List.length_replicate, Int.toNat_natCast, List.append_nil] <;> omega) | fail) ?_ | refine And.intro (allU8_bytes _) ?_ | refine And.intro (show elemsP _ _ _ by repeat' (first | exact rfl | exact trivial | constructor)) ?_ | (refine (dictAt_con t i hi).mono fun rs bs hr => ?_; subst hr) | (refine fun x hx => ?_; (try simp (disch := omega) only [Int.tdiv_eq_ediv_of_nonneg, Int.tmod_eq_emod_of_nonneg, bx, Bool.true_or, Bool.false_or, Bool.or_false, Bool.or_true, Bool.and_true, Bool.true_and, Bool.false_and, Bool.and_false, cond_true, cond_false, if_true, if_false, Bool.false_eq_true, min_nn, max_nn, min_ln, min_nl, max_ln, max_nl, getD_map, str_of_bytes, take_bytes, take_data, wrap_u64, wrap_u32, wrap_u8, shr_i64, shr_u64, shr_u32, shl_i64, shl_u64, Int.reduceToNat, Int.reducePow, Int.pow_succ, Int.pow_zero, Int.one_mul, Int.reduceMul, wrap_id, wrap_u8_nat, wrap_i64_u8, byteD_mk, map_snoc, map_app, set_map, take_map', drop_map', Nat.sub_zero, List.length_map, List.length_append, List.length_cons, List.length_nil, Int.toNat_natCast, List.drop_zero, List.take_succ_cons, List.take_zero, List.take_length, List.nil_append, List.append_nil, Nat.zero_add, toNat_pred, toNat_succ, toNat_addn, toNat_subn] at hx); subst hx) | rw [List.take_length] | (rw [List.take_of_length_le]; rotate_left; (first | omega | (simp only [dlen, true_and, and_true, Nat.le_refl, List.length_map, List.length_append, List.length_cons, List.length_nil, List.length_take, List.length_drop, List.length_replicate, Int.toNat_natCast, List.append_nil] <;> omega) | fail)) | refine fun h => ?_ | fail)); all_goals (try exact (AV.dead : AV)); all_goals (try (conv => whnf))
def pl30 : Nat → Plan
  | 1 => tks 0 [1, 0] (.two 2 (tks 3 [1, 0] (.one 5 (.done))) 3 (.one 2 (tks 4 [0] (.one 5 (.done)))))
  | _ => .done
theorem upper1_con (t : List ByteArray) (s : ByteArray) (i : Nat) (hi : i < t.length) : Has Try.prog 30 [CV.d (D.int .i64 i), CV.d (D.ptr (dictD t)), CV.d (D.ptr (D.str s))] (fun rs _ => rs = [CV.d (D.bool (slt s (t.getD i default)))]) := by
  refine Has_of_run (fn := Try.f30) (M := M0) fol (by kernel_rfl) 5 pl30 [] [] (by kernel_rfl) (Nat.le_of_ble_eq_true rfl) ?_
  (repeat' ((conv => whnf); first | done | (refine And.intro (fun h => ?_) (fun h => ?_) <;> (try simp only [Bool.or_eq_true, Bool.and_eq_true, Bool.or_eq_false_iff, Bool.and_eq_false_iff, toNat_pred, toNat_succ, toNat_addn, toNat_subn, decide_eq_true_eq, decide_eq_false_iff_not, Bool.not_eq_true', Bool.not_eq_false', List.length_map, Int.toNat_natCast, Int.not_lt, Int.not_le, Bool.not_eq_true, Bool.false_eq_true, Bool.true_eq_false, Bool.not_true, Bool.not_false, reduceCtorEq, beq_iff_eq, Bool.not_eq_eq_eq_not, bne_iff_ne, ne_eq, decide_not, Decidable.not_not, Classical.not_not] at h)) | exact (rfl : (_ : AV) = _) | exact (rfl : (_ : St) = _) | refine Exists.intro (α := AV) AV.dead (And.intro (fun h => Bool.noConfusion h) ?_) | apply ex_av | (refine fun (h : (_ : Bool) = true) => ?_; have h' := h; (try simp only [Bool.or_eq_true, Bool.and_eq_true, Bool.or_eq_false_iff, Bool.and_eq_false_iff, toNat_pred, toNat_succ, toNat_addn, toNat_subn, decide_eq_true_eq, decide_eq_false_iff_not, Bool.not_eq_true', Bool.not_eq_false', List.length_map, Int.toNat_natCast, Int.not_lt, Int.not_le, Bool.not_eq_true, Bool.false_eq_true, Bool.true_eq_false, Bool.not_true, Bool.not_false, reduceCtorEq, beq_iff_eq, Bool.not_eq_eq_eq_not, bne_iff_ne, ne_eq, decide_not, Decidable.not_not, Classical.not_not] at h')) | (refine And.intro (a := Both _ _ _) ?_ ?_; (refine ⟨fun h => ?_, fun h => ?_⟩ <;> first | rfl | exact h | exact Bool.noConfusion h | (rw [h]; rfl) | (rw [h]; simp only [Bool.not_false, Bool.not_true, Bool.and_true]; assumption) | (simp_all; done) | fail); skip) | refine And.intro rfl ?_ | refine Two.mk ?_ ?_ | refine And.intro (allU8_bytes _) ?_ | (refine And.intro (a := (_ : Bool) = true) ?_ ?_; (first | assumption | exact decide_eq_true (by assumption) | (rw [Bool.not_eq_true']; exact decide_eq_false (by assumption)) | (rw [Bool.not_not]; exact decide_eq_true (by assumption)) | (simp_all; done) | fail); skip) | refine And.intro (Or.inr rfl) ?_ | refine And.intro (Nat.le_of_ble_eq_true rfl) ?_ | refine And.intro (decide_eq_false (by omega)) ?_ | refine And.intro (show Program.stoodInHeld _ _ = _ by kernel_rfl) (And.intro (by kernel_rfl) ?_) | refine And.intro (show Nat.beq _ _ = _ from rfl) (And.intro (by decide) ?_) | refine And.intro ⟨rfl, rfl⟩ ?_ | refine And.intro ⟨rfl, rfl, trivial⟩ ?_ | refine And.intro (Int.natCast_nonneg _) ?_ | refine Or.inl (And.intro rfl (And.intro rfl (And.intro rfl (And.intro rfl ?_)))) | refine Or.inl (And.intro rfl (And.intro rfl ?_)) | refine Or.inr (And.intro (Nat.le_of_ble_eq_true rfl) ?_) | refine Or.inl (And.intro (by unfold in64; omega) ?_) | refine And.intro (by first | omega | (simp only [dlen, true_and, and_true, Nat.le_refl, List.length_map, List.length_append, List.length_cons, List.length_nil, List.length_take, List.length_drop, List.length_replicate, Int.toNat_natCast, List.append_nil] <;> omega) | fail) ?_ | refine And.intro (allU8_bytes _) ?_ | refine And.intro (show elemsP _ _ _ by repeat' (first | exact rfl | exact trivial | constructor)) ?_ | (refine (dictAt_con t i hi).mono fun rs bs hr => ?_; subst hr) | (refine fun x hx => ?_; (try simp (disch := omega) only [Int.tdiv_eq_ediv_of_nonneg, Int.tmod_eq_emod_of_nonneg, bx, Bool.true_or, Bool.false_or, Bool.or_false, Bool.or_true, Bool.and_true, Bool.true_and, Bool.false_and, Bool.and_false, cond_true, cond_false, if_true, if_false, Bool.false_eq_true, min_nn, max_nn, min_ln, min_nl, max_ln, max_nl, getD_map, str_of_bytes, take_bytes, take_data, wrap_u64, wrap_u32, wrap_u8, shr_i64, shr_u64, shr_u32, shl_i64, shl_u64, Int.reduceToNat, Int.reducePow, Int.pow_succ, Int.pow_zero, Int.one_mul, Int.reduceMul, wrap_id, wrap_u8_nat, wrap_i64_u8, byteD_mk, map_snoc, map_app, set_map, take_map', drop_map', Nat.sub_zero, List.length_map, List.length_append, List.length_cons, List.length_nil, Int.toNat_natCast, List.drop_zero, List.take_succ_cons, List.take_zero, List.take_length, List.nil_append, List.append_nil, Nat.zero_add, toNat_pred, toNat_succ, toNat_addn, toNat_subn] at hx); subst hx) | rw [List.take_length] | (rw [List.take_of_length_le]; rotate_left; (first | omega | (simp only [dlen, true_and, and_true, Nat.le_refl, List.length_map, List.length_append, List.length_cons, List.length_nil, List.length_take, List.length_drop, List.length_replicate, Int.toNat_natCast, List.append_nil] <;> omega) | fail)) | refine fun h => ?_ | fail)); all_goals (try exact (AV.dead : AV)); all_goals (try (conv => whnf))
  all_goals exact rb (sgt_eq _ _)
def pl31 : Nat → Plan
  | 1 => tks 2 [0] (.tak 0 .rd [4, 6, 7, 8] (.tak 1 .rd [3, 4, 6, 7, 8] (tks 3 [0] (.two 4 (tks 5 [1] (.one 6 (tks 7 [0] (.one 8 (.done))))) 5 (.one 4 (.one 6 (tks 7 [0] (.one 8 (.done)))))))))
  | _ => .done
theorem prefix1_con (t : List ByteArray) (p : ByteArray) (f i : Nat) (hi : f + i < t.length) (hf : f ≤ 1000000) (hi2 : i ≤ 1000000) : Has Try.prog 31 [CV.d (D.int .i64 i), CV.d (D.ptr (dictD t)), CV.d (D.ptr (D.int .i64 (f : Int))), CV.d (D.ptr (D.str p))] (fun rs _ => rs = [CV.d (D.bool (!preS (t.getD (f + i) default) p))]) := by
  refine Has_of_run (fn := Try.f31) (M := M0) fol (by kernel_rfl) 6 pl31 [] [] (by kernel_rfl) (Nat.le_of_ble_eq_true rfl) ?_
  (repeat' ((conv => whnf); first | done | (refine And.intro (fun h => ?_) (fun h => ?_) <;> (try simp only [Bool.or_eq_true, Bool.and_eq_true, Bool.or_eq_false_iff, Bool.and_eq_false_iff, toNat_pred, toNat_succ, toNat_addn, toNat_subn, decide_eq_true_eq, decide_eq_false_iff_not, Bool.not_eq_true', Bool.not_eq_false', List.length_map, Int.toNat_natCast, Int.not_lt, Int.not_le, Bool.not_eq_true, Bool.false_eq_true, Bool.true_eq_false, Bool.not_true, Bool.not_false, reduceCtorEq, beq_iff_eq, Bool.not_eq_eq_eq_not, bne_iff_ne, ne_eq, decide_not, Decidable.not_not, Classical.not_not] at h)) | exact (rfl : (_ : AV) = _) | exact (rfl : (_ : St) = _) | refine Exists.intro (α := AV) AV.dead (And.intro (fun h => Bool.noConfusion h) ?_) | apply ex_av | (refine fun (h : (_ : Bool) = true) => ?_; have h' := h; (try simp only [Bool.or_eq_true, Bool.and_eq_true, Bool.or_eq_false_iff, Bool.and_eq_false_iff, toNat_pred, toNat_succ, toNat_addn, toNat_subn, decide_eq_true_eq, decide_eq_false_iff_not, Bool.not_eq_true', Bool.not_eq_false', List.length_map, Int.toNat_natCast, Int.not_lt, Int.not_le, Bool.not_eq_true, Bool.false_eq_true, Bool.true_eq_false, Bool.not_true, Bool.not_false, reduceCtorEq, beq_iff_eq, Bool.not_eq_eq_eq_not, bne_iff_ne, ne_eq, decide_not, Decidable.not_not, Classical.not_not] at h')) | (refine And.intro (a := Both _ _ _) ?_ ?_; (refine ⟨fun h => ?_, fun h => ?_⟩ <;> first | rfl | exact h | exact Bool.noConfusion h | (rw [h]; rfl) | (rw [h]; simp only [Bool.not_false, Bool.not_true, Bool.and_true]; assumption) | (simp_all; done) | fail); skip) | refine And.intro rfl ?_ | refine Two.mk ?_ ?_ | refine And.intro (allU8_bytes _) ?_ | (refine And.intro (a := (_ : Bool) = true) ?_ ?_; (first | assumption | exact decide_eq_true (by assumption) | (rw [Bool.not_eq_true']; exact decide_eq_false (by assumption)) | (rw [Bool.not_not]; exact decide_eq_true (by assumption)) | (simp_all; done) | fail); skip) | refine And.intro (Or.inr rfl) ?_ | refine And.intro (Nat.le_of_ble_eq_true rfl) ?_ | refine And.intro (decide_eq_false (by omega)) ?_ | refine And.intro (show Program.stoodInHeld _ _ = _ by kernel_rfl) (And.intro (by kernel_rfl) ?_) | refine And.intro (show Nat.beq _ _ = _ from rfl) (And.intro (by decide) ?_) | refine And.intro ⟨rfl, rfl⟩ ?_ | refine And.intro ⟨rfl, rfl, trivial⟩ ?_ | refine And.intro (Int.natCast_nonneg _) ?_ | refine Or.inl (And.intro rfl (And.intro rfl (And.intro rfl (And.intro rfl ?_)))) | refine Or.inl (And.intro rfl (And.intro rfl ?_)) | refine Or.inr (And.intro (Nat.le_of_ble_eq_true rfl) ?_) | refine Or.inl (And.intro (by unfold in64; omega) ?_) | refine And.intro (by first | omega | (simp only [dlen, true_and, and_true, Nat.le_refl, List.length_map, List.length_append, List.length_cons, List.length_nil, List.length_take, List.length_drop, List.length_replicate, Int.toNat_natCast, List.append_nil] <;> omega) | fail) ?_ | refine And.intro (allU8_bytes _) ?_ | refine And.intro (show elemsP _ _ _ by repeat' (first | exact rfl | exact trivial | constructor)) ?_ | ((rw [show (f : Int) + (i : Int) = ((f + i : Nat) : Int) by omega]; refine (dictAt_con t (f + i) hi).mono fun rs bs hr => ?_; subst hr)) | (refine (hasPre_con _ _).mono fun rs bs hr => ?_; subst hr) | (refine fun x hx => ?_; (try simp (disch := omega) only [Int.tdiv_eq_ediv_of_nonneg, Int.tmod_eq_emod_of_nonneg, bx, Bool.true_or, Bool.false_or, Bool.or_false, Bool.or_true, Bool.and_true, Bool.true_and, Bool.false_and, Bool.and_false, cond_true, cond_false, if_true, if_false, Bool.false_eq_true, min_nn, max_nn, min_ln, min_nl, max_ln, max_nl, getD_map, str_of_bytes, take_bytes, take_data, wrap_u64, wrap_u32, wrap_u8, shr_i64, shr_u64, shr_u32, shl_i64, shl_u64, Int.reduceToNat, Int.reducePow, Int.pow_succ, Int.pow_zero, Int.one_mul, Int.reduceMul, wrap_id, wrap_u8_nat, wrap_i64_u8, byteD_mk, map_snoc, map_app, set_map, take_map', drop_map', Nat.sub_zero, List.length_map, List.length_append, List.length_cons, List.length_nil, Int.toNat_natCast, List.drop_zero, List.take_succ_cons, List.take_zero, List.take_length, List.nil_append, List.append_nil, Nat.zero_add, toNat_pred, toNat_succ, toNat_addn, toNat_subn] at hx); subst hx) | rw [List.take_length] | (rw [List.take_of_length_le]; rotate_left; (first | omega | (simp only [dlen, true_and, and_true, Nat.le_refl, List.length_map, List.length_append, List.length_cons, List.length_nil, List.length_take, List.length_drop, List.length_replicate, Int.toNat_natCast, List.append_nil] <;> omega) | fail)) | refine fun h => ?_ | fail)); all_goals (try exact (AV.dead : AV)); all_goals (try (conv => whnf))
end Go.Fw
namespace Go.Fw
open Go Go.Proofs
set_option maxHeartbeats 10000000
set_option maxRecDepth 100000
set_option linter.constructorNameAsVariable false
set_option linter.unusedVariables false
set_option linter.unusedSimpArgs false
theorem searchL (t : List ByteArray) (s : ByteArray) (n k : Nat) (hk : k ≤ n) (hn : n ≤ 1000000) (hl : n ≤ t.length) (hi : ∀ x, x < n → (slt (t.getD x default) s = true ↔ x < k)) : Has Try.prog 28 [CV.d (D.int .i64 n), CV.d (D.clo (.func 29) [] [D.ptr (dictD t), D.ptr (D.str s)])] (fun rs _ => rs = [CV.d (D.int .i64 k)]) := by
  refine Has_of_run (fn := Try.f28) (M := M0) fol (by kernel_rfl) 8 noPlan [] [] (by kernel_rfl) (Nat.le_of_ble_eq_true rfl) ?_
  (repeat' ((conv => whnf); first | done | (refine And.intro (fun h => ?_) (fun h => ?_) <;> (try simp only [Bool.or_eq_true, Bool.and_eq_true, Bool.or_eq_false_iff, Bool.and_eq_false_iff, toNat_pred, toNat_succ, toNat_addn, toNat_subn, decide_eq_true_eq, decide_eq_false_iff_not, Bool.not_eq_true', Bool.not_eq_false', List.length_map, Int.toNat_natCast, Int.not_lt, Int.not_le, Bool.not_eq_true, Bool.false_eq_true, Bool.true_eq_false, Bool.not_true, Bool.not_false, reduceCtorEq, beq_iff_eq, Bool.not_eq_eq_eq_not, bne_iff_ne, ne_eq, decide_not, Decidable.not_not, Classical.not_not] at h)) | exact (rfl : (_ : AV) = _) | exact (rfl : (_ : St) = _) | refine Exists.intro (α := AV) AV.dead (And.intro (fun h => Bool.noConfusion h) ?_) | apply ex_av | (refine fun (h : (_ : Bool) = true) => ?_; have h' := h; (try simp only [Bool.or_eq_true, Bool.and_eq_true, Bool.or_eq_false_iff, Bool.and_eq_false_iff, toNat_pred, toNat_succ, toNat_addn, toNat_subn, decide_eq_true_eq, decide_eq_false_iff_not, Bool.not_eq_true', Bool.not_eq_false', List.length_map, Int.toNat_natCast, Int.not_lt, Int.not_le, Bool.not_eq_true, Bool.false_eq_true, Bool.true_eq_false, Bool.not_true, Bool.not_false, reduceCtorEq, beq_iff_eq, Bool.not_eq_eq_eq_not, bne_iff_ne, ne_eq, decide_not, Decidable.not_not, Classical.not_not] at h')) | (refine And.intro (a := Both _ _ _) ?_ ?_; (refine ⟨fun h => ?_, fun h => ?_⟩ <;> first | rfl | exact h | exact Bool.noConfusion h | (rw [h]; rfl) | (rw [h]; simp only [Bool.not_false, Bool.not_true, Bool.and_true]; assumption) | (simp_all; done) | fail); skip) | refine And.intro rfl ?_ | refine Two.mk ?_ ?_ | refine And.intro (allU8_bytes _) ?_ | (refine And.intro (a := (_ : Bool) = true) ?_ ?_; (first | assumption | exact decide_eq_true (by assumption) | (rw [Bool.not_eq_true']; exact decide_eq_false (by assumption)) | (rw [Bool.not_not]; exact decide_eq_true (by assumption)) | (simp_all; done) | fail); skip) | refine And.intro (Or.inr rfl) ?_ | refine And.intro (Nat.le_of_ble_eq_true rfl) ?_ | refine And.intro (decide_eq_false (by omega)) ?_ | refine And.intro (show Program.stoodInHeld _ _ = _ by kernel_rfl) (And.intro (by kernel_rfl) ?_) | refine And.intro (show Nat.beq _ _ = _ from rfl) (And.intro (by decide) ?_) | refine And.intro ⟨rfl, rfl⟩ ?_ | refine And.intro ⟨rfl, rfl, trivial⟩ ?_ | refine And.intro (Int.natCast_nonneg _) ?_ | refine Or.inl (And.intro rfl (And.intro rfl (And.intro rfl (And.intro rfl ?_)))) | refine Or.inl (And.intro rfl (And.intro rfl ?_)) | refine Or.inr (And.intro (Nat.le_of_ble_eq_true rfl) ?_) | refine Or.inl (And.intro (by unfold in64; omega) ?_) | refine And.intro (by first | omega | (simp only [dlen, true_and, and_true, Nat.le_refl, List.length_map, List.length_append, List.length_cons, List.length_nil, List.length_take, List.length_drop, List.length_replicate, Int.toNat_natCast, List.append_nil] <;> omega) | fail) ?_ | refine And.intro (allU8_bytes _) ?_ | refine And.intro (show elemsP _ _ _ by repeat' (first | exact rfl | exact trivial | constructor)) ?_ | ((rw [show ((i : Int) + (j : Int)) / 2 = (((i + j) / 2 : Nat) : Int) by omega]; refine (lower1_con t s ((i + j) / 2) (by omega)).mono fun rs bs hr => ?_; subst hr)) | (refine Loops.by (M := M0) 8 noPlan fol (by kernel_rfl) (ι := Nat × Nat) (fun ⟨i, j⟩ => ⟨[(1, AV.d (D.clo (.func 29) [] [D.ptr (dictD t), D.ptr (D.str s)])), (5, AV.d (D.int .i64 i)), (6, AV.d (D.int .i64 j))], [], 16⟩) (fun ⟨i, j⟩ => i ≤ k ∧ k ≤ j ∧ j ≤ n) (fun ⟨i, j⟩ => j - i) (fun p hI => ?_) ((0, n)) ⟨Nat.zero_le _, hk, Nat.le_refl _⟩ (Forget.mk' ⟨⟨rfl, rfl⟩, ⟨rfl, rfl⟩, ⟨rfl, rfl⟩, trivial⟩ trivial rfl rfl); obtain ⟨i, j⟩ := p; obtain ⟨h1, h2, h3⟩ := hI) | (refine fun x hx => ?_; (try simp (disch := omega) only [Int.tdiv_eq_ediv_of_nonneg, Int.tmod_eq_emod_of_nonneg, bx, Bool.true_or, Bool.false_or, Bool.or_false, Bool.or_true, Bool.and_true, Bool.true_and, Bool.false_and, Bool.and_false, cond_true, cond_false, if_true, if_false, Bool.false_eq_true, min_nn, max_nn, min_ln, min_nl, max_ln, max_nl, getD_map, str_of_bytes, take_bytes, take_data, wrap_u64, wrap_u32, wrap_u8, shr_i64, shr_u64, shr_u32, shl_i64, shl_u64, Int.reduceToNat, Int.reducePow, Int.pow_succ, Int.pow_zero, Int.one_mul, Int.reduceMul, wrap_id, wrap_u8_nat, wrap_i64_u8, byteD_mk, map_snoc, map_app, set_map, take_map', drop_map', Nat.sub_zero, List.length_map, List.length_append, List.length_cons, List.length_nil, Int.toNat_natCast, List.drop_zero, List.take_succ_cons, List.take_zero, List.take_length, List.nil_append, List.append_nil, Nat.zero_add, toNat_pred, toNat_succ, toNat_addn, toNat_subn] at hx); subst hx) | rw [List.take_length] | (rw [List.take_of_length_le]; rotate_left; (first | omega | (simp only [dlen, true_and, and_true, Nat.le_refl, List.length_map, List.length_append, List.length_cons, List.length_nil, List.length_take, List.length_drop, List.length_replicate, Int.toNat_natCast, List.append_nil] <;> omega) | fail)) | refine fun h => ?_ | fail)); all_goals (try exact (AV.dead : AV)); all_goals (try (conv => whnf))
  all_goals first
    | exact ri (by omega)
    | (have h9 := (hi ((i + j) / 2) (by omega)).1 h
       exact ⟨((i + j) / 2 + 1, j), ⟨⟨by omega, h2, h3⟩, by show j - ((i + j) / 2 + 1) < j - i; omega⟩, (Forget.mk' ⟨⟨rfl, rfl⟩, ⟨rfl, rfl⟩, ⟨rfl, rfl⟩, trivial⟩ trivial rfl rfl)⟩)
    | (have h9 : k ≤ (i + j) / 2 := by
         rcases Nat.lt_or_ge ((i + j) / 2) k with hh | hh
         · have h8 := (hi ((i + j) / 2) (by omega)).2 hh
           rw [h] at h8
           cases h8
         · exact hh
       exact ⟨(i, (i + j) / 2), ⟨⟨h1, h9, by omega⟩, by show (i + j) / 2 - i < j - i; omega⟩, (Forget.mk' ⟨⟨rfl, rfl⟩, ⟨rfl, rfl⟩, ⟨rfl, rfl⟩, trivial⟩ trivial rfl rfl)⟩)
    | (trace_state; fail)
theorem searchU (t : List ByteArray) (s : ByteArray) (n k : Nat) (hk : k ≤ n) (hn : n ≤ 1000000) (hl : n ≤ t.length) (hi : ∀ x, x < n → (slt s (t.getD x default) = false ↔ x < k)) : Has Try.prog 28 [CV.d (D.int .i64 n), CV.d (D.clo (.func 30) [] [D.ptr (dictD t), D.ptr (D.str s)])] (fun rs _ => rs = [CV.d (D.int .i64 k)]) := by
  refine Has_of_run (fn := Try.f28) (M := M0) fol (by kernel_rfl) 8 noPlan [] [] (by kernel_rfl) (Nat.le_of_ble_eq_true rfl) ?_
  (repeat' ((conv => whnf); first | done | (refine And.intro (fun h => ?_) (fun h => ?_) <;> (try simp only [Bool.or_eq_true, Bool.and_eq_true, Bool.or_eq_false_iff, Bool.and_eq_false_iff, toNat_pred, toNat_succ, toNat_addn, toNat_subn, decide_eq_true_eq, decide_eq_false_iff_not, Bool.not_eq_true', Bool.not_eq_false', List.length_map, Int.toNat_natCast, Int.not_lt, Int.not_le, Bool.not_eq_true, Bool.false_eq_true, Bool.true_eq_false, Bool.not_true, Bool.not_false, reduceCtorEq, beq_iff_eq, Bool.not_eq_eq_eq_not, bne_iff_ne, ne_eq, decide_not, Decidable.not_not, Classical.not_not] at h)) | exact (rfl : (_ : AV) = _) | exact (rfl : (_ : St) = _) | refine Exists.intro (α := AV) AV.dead (And.intro (fun h => Bool.noConfusion h) ?_) | apply ex_av | (refine fun (h : (_ : Bool) = true) => ?_; have h' := h; (try simp only [Bool.or_eq_true, Bool.and_eq_true, Bool.or_eq_false_iff, Bool.and_eq_false_iff, toNat_pred, toNat_succ, toNat_addn, toNat_subn, decide_eq_true_eq, decide_eq_false_iff_not, Bool.not_eq_true', Bool.not_eq_false', List.length_map, Int.toNat_natCast, Int.not_lt, Int.not_le, Bool.not_eq_true, Bool.false_eq_true, Bool.true_eq_false, Bool.not_true, Bool.not_false, reduceCtorEq, beq_iff_eq, Bool.not_eq_eq_eq_not, bne_iff_ne, ne_eq, decide_not, Decidable.not_not, Classical.not_not] at h')) | (refine And.intro (a := Both _ _ _) ?_ ?_; (refine ⟨fun h => ?_, fun h => ?_⟩ <;> first | rfl | exact h | exact Bool.noConfusion h | (rw [h]; rfl) | (rw [h]; simp only [Bool.not_false, Bool.not_true, Bool.and_true]; assumption) | (simp_all; done) | fail); skip) | refine And.intro rfl ?_ | refine Two.mk ?_ ?_ | refine And.intro (allU8_bytes _) ?_ | (refine And.intro (a := (_ : Bool) = true) ?_ ?_; (first | assumption | exact decide_eq_true (by assumption) | (rw [Bool.not_eq_true']; exact decide_eq_false (by assumption)) | (rw [Bool.not_not]; exact decide_eq_true (by assumption)) | (simp_all; done) | fail); skip) | refine And.intro (Or.inr rfl) ?_ | refine And.intro (Nat.le_of_ble_eq_true rfl) ?_ | refine And.intro (decide_eq_false (by omega)) ?_ | refine And.intro (show Program.stoodInHeld _ _ = _ by kernel_rfl) (And.intro (by kernel_rfl) ?_) | refine And.intro (show Nat.beq _ _ = _ from rfl) (And.intro (by decide) ?_) | refine And.intro ⟨rfl, rfl⟩ ?_ | refine And.intro ⟨rfl, rfl, trivial⟩ ?_ | refine And.intro (Int.natCast_nonneg _) ?_ | refine Or.inl (And.intro rfl (And.intro rfl (And.intro rfl (And.intro rfl ?_)))) | refine Or.inl (And.intro rfl (And.intro rfl ?_)) | refine Or.inr (And.intro (Nat.le_of_ble_eq_true rfl) ?_) | refine Or.inl (And.intro (by unfold in64; omega) ?_) | refine And.intro (by first | omega | (simp only [dlen, true_and, and_true, Nat.le_refl, List.length_map, List.length_append, List.length_cons, List.length_nil, List.length_take, List.length_drop, List.length_replicate, Int.toNat_natCast, List.append_nil] <;> omega) | fail) ?_ | refine And.intro (allU8_bytes _) ?_ | refine And.intro (show elemsP _ _ _ by repeat' (first | exact rfl | exact trivial | constructor)) ?_ | ((rw [show ((i : Int) + (j : Int)) / 2 = (((i + j) / 2 : Nat) : Int) by omega]; refine (upper1_con t s ((i + j) / 2) (by omega)).mono fun rs bs hr => ?_; subst hr)) | (refine Loops.by (M := M0) 8 noPlan fol (by kernel_rfl) (ι := Nat × Nat) (fun ⟨i, j⟩ => ⟨[(1, AV.d (D.clo (.func 30) [] [D.ptr (dictD t), D.ptr (D.str s)])), (5, AV.d (D.int .i64 i)), (6, AV.d (D.int .i64 j))], [], 16⟩) (fun ⟨i, j⟩ => i ≤ k ∧ k ≤ j ∧ j ≤ n) (fun ⟨i, j⟩ => j - i) (fun p hI => ?_) ((0, n)) ⟨Nat.zero_le _, hk, Nat.le_refl _⟩ (Forget.mk' ⟨⟨rfl, rfl⟩, ⟨rfl, rfl⟩, ⟨rfl, rfl⟩, trivial⟩ trivial rfl rfl); obtain ⟨i, j⟩ := p; obtain ⟨h1, h2, h3⟩ := hI) | (refine fun x hx => ?_; (try simp (disch := omega) only [Int.tdiv_eq_ediv_of_nonneg, Int.tmod_eq_emod_of_nonneg, bx, Bool.true_or, Bool.false_or, Bool.or_false, Bool.or_true, Bool.and_true, Bool.true_and, Bool.false_and, Bool.and_false, cond_true, cond_false, if_true, if_false, Bool.false_eq_true, min_nn, max_nn, min_ln, min_nl, max_ln, max_nl, getD_map, str_of_bytes, take_bytes, take_data, wrap_u64, wrap_u32, wrap_u8, shr_i64, shr_u64, shr_u32, shl_i64, shl_u64, Int.reduceToNat, Int.reducePow, Int.pow_succ, Int.pow_zero, Int.one_mul, Int.reduceMul, wrap_id, wrap_u8_nat, wrap_i64_u8, byteD_mk, map_snoc, map_app, set_map, take_map', drop_map', Nat.sub_zero, List.length_map, List.length_append, List.length_cons, List.length_nil, Int.toNat_natCast, List.drop_zero, List.take_succ_cons, List.take_zero, List.take_length, List.nil_append, List.append_nil, Nat.zero_add, toNat_pred, toNat_succ, toNat_addn, toNat_subn] at hx); subst hx) | rw [List.take_length] | (rw [List.take_of_length_le]; rotate_left; (first | omega | (simp only [dlen, true_and, and_true, Nat.le_refl, List.length_map, List.length_append, List.length_cons, List.length_nil, List.length_take, List.length_drop, List.length_replicate, Int.toNat_natCast, List.append_nil] <;> omega) | fail)) | refine fun h => ?_ | fail)); all_goals (try exact (AV.dead : AV)); all_goals (try (conv => whnf))
  all_goals first
    | exact ri (by omega)
    | (have h9 := (hi ((i + j) / 2) (by omega)).1 h
       exact ⟨((i + j) / 2 + 1, j), ⟨⟨by omega, h2, h3⟩, by show j - ((i + j) / 2 + 1) < j - i; omega⟩, (Forget.mk' ⟨⟨rfl, rfl⟩, ⟨rfl, rfl⟩, ⟨rfl, rfl⟩, trivial⟩ trivial rfl rfl)⟩)
    | (have h9 : k ≤ (i + j) / 2 := by
         rcases Nat.lt_or_ge ((i + j) / 2) k with hh | hh
         · have h8 := (hi ((i + j) / 2) (by omega)).2 hh
           rw [h] at h8
           cases h8
         · exact hh
       exact ⟨(i, (i + j) / 2), ⟨⟨h1, h9, by omega⟩, by show (i + j) / 2 - i < j - i; omega⟩, (Forget.mk' ⟨⟨rfl, rfl⟩, ⟨rfl, rfl⟩, ⟨rfl, rfl⟩, trivial⟩ trivial rfl rfl)⟩)
    | (trace_state; fail)
theorem searchP (t : List ByteArray) (s : ByteArray) (f : Nat) (n k : Nat) (hk : k ≤ n) (hn : n ≤ 1000000) (hl : f + n ≤ t.length) (ht : t.length ≤ 1000000) (hi : ∀ x, x < n → (preS (t.getD (f + x) default) s = true ↔ x < k)) : Has Try.prog 28 [CV.d (D.int .i64 n), CV.d (D.clo (.func 31) [] [D.ptr (dictD t), D.ptr (D.int .i64 (f : Int)), D.ptr (D.str s)])] (fun rs _ => rs = [CV.d (D.int .i64 k)]) := by
  refine Has_of_run (fn := Try.f28) (M := M0) fol (by kernel_rfl) 8 noPlan [] [] (by kernel_rfl) (Nat.le_of_ble_eq_true rfl) ?_
  (repeat' ((conv => whnf); first | done | (refine And.intro (fun h => ?_) (fun h => ?_) <;> (try simp only [Bool.or_eq_true, Bool.and_eq_true, Bool.or_eq_false_iff, Bool.and_eq_false_iff, toNat_pred, toNat_succ, toNat_addn, toNat_subn, decide_eq_true_eq, decide_eq_false_iff_not, Bool.not_eq_true', Bool.not_eq_false', List.length_map, Int.toNat_natCast, Int.not_lt, Int.not_le, Bool.not_eq_true, Bool.false_eq_true, Bool.true_eq_false, Bool.not_true, Bool.not_false, reduceCtorEq, beq_iff_eq, Bool.not_eq_eq_eq_not, bne_iff_ne, ne_eq, decide_not, Decidable.not_not, Classical.not_not] at h)) | exact (rfl : (_ : AV) = _) | exact (rfl : (_ : St) = _) | refine Exists.intro (α := AV) AV.dead (And.intro (fun h => Bool.noConfusion h) ?_) | apply ex_av | (refine fun (h : (_ : Bool) = true) => ?_; have h' := h; (try simp only [Bool.or_eq_true, Bool.and_eq_true, Bool.or_eq_false_iff, Bool.and_eq_false_iff, toNat_pred, toNat_succ, toNat_addn, toNat_subn, decide_eq_true_eq, decide_eq_false_iff_not, Bool.not_eq_true', Bool.not_eq_false', List.length_map, Int.toNat_natCast, Int.not_lt, Int.not_le, Bool.not_eq_true, Bool.false_eq_true, Bool.true_eq_false, Bool.not_true, Bool.not_false, reduceCtorEq, beq_iff_eq, Bool.not_eq_eq_eq_not, bne_iff_ne, ne_eq, decide_not, Decidable.not_not, Classical.not_not] at h')) | (refine And.intro (a := Both _ _ _) ?_ ?_; (refine ⟨fun h => ?_, fun h => ?_⟩ <;> first | rfl | exact h | exact Bool.noConfusion h | (rw [h]; rfl) | (rw [h]; simp only [Bool.not_false, Bool.not_true, Bool.and_true]; assumption) | (simp_all; done) | fail); skip) | refine And.intro rfl ?_ | refine Two.mk ?_ ?_ | refine And.intro (allU8_bytes _) ?_ | (refine And.intro (a := (_ : Bool) = true) ?_ ?_; (first | assumption | exact decide_eq_true (by assumption) | (rw [Bool.not_eq_true']; exact decide_eq_false (by assumption)) | (rw [Bool.not_not]; exact decide_eq_true (by assumption)) | (simp_all; done) | fail); skip) | refine And.intro (Or.inr rfl) ?_ | refine And.intro (Nat.le_of_ble_eq_true rfl) ?_ | refine And.intro (decide_eq_false (by omega)) ?_ | refine And.intro (show Program.stoodInHeld _ _ = _ by kernel_rfl) (And.intro (by kernel_rfl) ?_) | refine And.intro (show Nat.beq _ _ = _ from rfl) (And.intro (by decide) ?_) | refine And.intro ⟨rfl, rfl⟩ ?_ | refine And.intro ⟨rfl, rfl, trivial⟩ ?_ | refine And.intro (Int.natCast_nonneg _) ?_ | refine Or.inl (And.intro rfl (And.intro rfl (And.intro rfl (And.intro rfl ?_)))) | refine Or.inl (And.intro rfl (And.intro rfl ?_)) | refine Or.inr (And.intro (Nat.le_of_ble_eq_true rfl) ?_) | refine Or.inl (And.intro (by unfold in64; omega) ?_) | refine And.intro (by first | omega | (simp only [dlen, true_and, and_true, Nat.le_refl, List.length_map, List.length_append, List.length_cons, List.length_nil, List.length_take, List.length_drop, List.length_replicate, Int.toNat_natCast, List.append_nil] <;> omega) | fail) ?_ | refine And.intro (allU8_bytes _) ?_ | refine And.intro (show elemsP _ _ _ by repeat' (first | exact rfl | exact trivial | constructor)) ?_ | ((rw [show ((i : Int) + (j : Int)) / 2 = (((i + j) / 2 : Nat) : Int) by omega]; refine (prefix1_con t s f ((i + j) / 2) (by omega) (by omega) (by omega)).mono fun rs bs hr => ?_; subst hr)) | (refine Loops.by (M := M0) 8 noPlan fol (by kernel_rfl) (ι := Nat × Nat) (fun ⟨i, j⟩ => ⟨[(1, AV.d (D.clo (.func 31) [] [D.ptr (dictD t), D.ptr (D.int .i64 (f : Int)), D.ptr (D.str s)])), (5, AV.d (D.int .i64 i)), (6, AV.d (D.int .i64 j))], [], 16⟩) (fun ⟨i, j⟩ => i ≤ k ∧ k ≤ j ∧ j ≤ n) (fun ⟨i, j⟩ => j - i) (fun p hI => ?_) ((0, n)) ⟨Nat.zero_le _, hk, Nat.le_refl _⟩ (Forget.mk' ⟨⟨rfl, rfl⟩, ⟨rfl, rfl⟩, ⟨rfl, rfl⟩, trivial⟩ trivial rfl rfl); obtain ⟨i, j⟩ := p; obtain ⟨h1, h2, h3⟩ := hI) | (refine fun x hx => ?_; (try simp (disch := omega) only [Int.tdiv_eq_ediv_of_nonneg, Int.tmod_eq_emod_of_nonneg, bx, Bool.true_or, Bool.false_or, Bool.or_false, Bool.or_true, Bool.and_true, Bool.true_and, Bool.false_and, Bool.and_false, cond_true, cond_false, if_true, if_false, Bool.false_eq_true, min_nn, max_nn, min_ln, min_nl, max_ln, max_nl, getD_map, str_of_bytes, take_bytes, take_data, wrap_u64, wrap_u32, wrap_u8, shr_i64, shr_u64, shr_u32, shl_i64, shl_u64, Int.reduceToNat, Int.reducePow, Int.pow_succ, Int.pow_zero, Int.one_mul, Int.reduceMul, wrap_id, wrap_u8_nat, wrap_i64_u8, byteD_mk, map_snoc, map_app, set_map, take_map', drop_map', Nat.sub_zero, List.length_map, List.length_append, List.length_cons, List.length_nil, Int.toNat_natCast, List.drop_zero, List.take_succ_cons, List.take_zero, List.take_length, List.nil_append, List.append_nil, Nat.zero_add, toNat_pred, toNat_succ, toNat_addn, toNat_subn] at hx); subst hx) | rw [List.take_length] | (rw [List.take_of_length_le]; rotate_left; (first | omega | (simp only [dlen, true_and, and_true, Nat.le_refl, List.length_map, List.length_append, List.length_cons, List.length_nil, List.length_take, List.length_drop, List.length_replicate, Int.toNat_natCast, List.append_nil] <;> omega) | fail)) | refine fun h => ?_ | fail)); all_goals (try exact (AV.dead : AV)); all_goals (try (conv => whnf))
  all_goals first
    | exact ri (by omega)
    | (have h9 := (hi ((i + j) / 2) (by omega)).1 h
       exact ⟨((i + j) / 2 + 1, j), ⟨⟨by omega, h2, h3⟩, by show j - ((i + j) / 2 + 1) < j - i; omega⟩, (Forget.mk' ⟨⟨rfl, rfl⟩, ⟨rfl, rfl⟩, ⟨rfl, rfl⟩, trivial⟩ trivial rfl rfl)⟩)
    | (have h9 : k ≤ (i + j) / 2 := by
         rcases Nat.lt_or_ge ((i + j) / 2) k with hh | hh
         · have h8 := (hi ((i + j) / 2) (by omega)).2 hh
           rw [h] at h8
           cases h8
         · exact hh
       exact ⟨(i, (i + j) / 2), ⟨⟨h1, h9, by omega⟩, by show (i + j) / 2 - i < j - i; omega⟩, (Forget.mk' ⟨⟨rfl, rfl⟩, ⟨rfl, rfl⟩, ⟨rfl, rfl⟩, trivial⟩ trivial rfl rfl)⟩)
    | (trace_state; fail)
end Go.Fw
namespace Go.Fw
open Go
set_option linter.unusedVariables false
set_option linter.unusedSimpArgs false
def codeB (t : List ByteArray) (s : ByteArray) : Bool := decide (lowN t s < t.length) && decide (t.getD (lowN t s) default = s)
def codeI (t : List ByteArray) (s : ByteArray) : Nat := if codeB t s then lowN t s else 0
theorem code_no {t : List ByteArray} {s : ByteArray} (h : (lowN t s : Int) = t.length ∨ ¬ t.getD (lowN t s) default = s) : codeB t s = false ∧ codeI t s = 0 := by
  have h1 : codeB t s = false := by
    simp only [codeB, Bool.and_eq_false_iff, decide_eq_false_iff_not]
    exact h.imp (fun h => by omega) id
  exact ⟨h1, by rw [codeI, h1]; rfl⟩
theorem code_yes {t : List ByteArray} {s : ByteArray} (h : ¬ (lowN t s : Int) = t.length ∧ t.getD (lowN t s) default = s) : codeB t s = true ∧ codeI t s = lowN t s := by
  have h0 := lowN_le t s
  have h1 : codeB t s = true := by
    simp only [codeB, Bool.and_eq_true, decide_eq_true_eq]
    exact ⟨by omega, h.2⟩
  exact ⟨h1, by rw [codeI, h1]; rfl⟩
def iD (n : Int) : D := D.int .i64 n
theorem snocI (l : List Int) (n : Int) : List.map iD l ++ [D.int .i64 n] = List.map iD (l ++ [n]) := by simp [iD]
def mapI (b : List ByteArray) (s : ByteArray) : Int := if codeB b s then (codeI b s : Nat) else -1
theorem mapI_yes {b : List ByteArray} {s : ByteArray} (h : codeB b s = true) : mapI b s = (codeI b s : Nat) := by rw [mapI, h]; rfl
theorem mapI_no {b : List ByteArray} {s : ByteArray} (h : codeB b s = false) : mapI b s = -1 := by rw [mapI, h]; rfl
theorem map_snocI {α β : Type} [Inhabited α] {t : List α} {i : Nat} {f : α → β} {y : β} (h : i < t.length) (hy : y = f (t.getD i default)) : (t.take i).map f ++ [y] = (t.take (i + 1)).map f := by
  rw [take_snoc h, List.map_append, hy]; rfl
 
def okD (l : List ByteArray) : Bool := few13 l && rightF (tidy l) 4
theorem okD_at {l : List ByteArray} (h : okD l = true) : few13 l = true ∧ rightF (tidy l) 4 = true := by
  simpa only [okD, Bool.and_eq_true] using h
theorem buildS_len {t : List ByteArray} {k : Nat} (h : rightF t (k : Int) = true) : (buildS t k).length ≤ 20000000 := by
  obtain ⟨hk1, hk64, hl, _⟩ := rightF_at h
  have hs := rightF_size h
  have hk : 0 < k := by omega
  have h1 := putN_len 2 t.length (by omega)
  have h2 := putN_len 0 k (by omega)
  have h3 := abB_len (t := t) hk hs t.length (Nat.le_refl _)
  have h4 := zsB_len (t := t) (i := t.length) hk (Nat.le_refl _)
  have h5 := pkW_len (l := zsB t k t.length) (by omega) (fun x hx => by have := zsB_le hk hs (Nat.le_refl _) x hx; omega)
  rw [build_end (Nat.le_refl _)]
  simp only [List.length_append]
  omega
theorem open_back {t : List ByteArray} {k : Nat} (h : rightF t (k : Int) = true) : (openS (buildS t k) 0 0).1 = t := by
  have := open_build h []
  rw [List.append_nil] at this
  rw [this]
theorem tidy_rises (l : List ByteArray) : Rises (tidy l) := (tidy_spec l).1
theorem tidy_mem (l : List ByteArray) (s : ByteArray) : s ∈ tidy l ↔ s ∈ l := (tidy_spec l).2 s
theorem few_sizes {l : List ByteArray} (h : few13 l = true) : ∀ s ∈ l, s.size ≤ 5000 := sizes_mem (few13_at h).2
theorem tidy_sizes {l : List ByteArray} (h : few13 l = true) : ∀ j, j < (tidy l).length → ((tidy l).getD j default).size ≤ 5000 :=
  sizes_getD fun s hs => few_sizes h s ((tidy_mem l s).1 hs)
theorem ok_len {l : List ByteArray} (h : okD l = true) : (tidy l).length ≤ 4096 := (rightF_at (okD_at h).2).2.2.1
theorem ok_sizes {l : List ByteArray} (h : okD l = true) : ∀ j, j < (tidy l).length → ((tidy l).getD j default).size ≤ 4096 := sizes_getD (rightF_size (okD_at h).2)
 
theorem low_at {t : List ByteArray} (hr : Rises t) {i : Nat} (hi : i < t.length) : lowN t (t.getD i default) = i := by
  have hle := lowN_le t (t.getD i default)
  have h1 := lowN_iff hr (t.getD i default)
  rcases Nat.lt_trichotomy (lowN t (t.getD i default)) i with h | h | h
  · have h2 := hr _ _ h hi
    have := (h1 _ (by omega)).1 h2
    omega
  · exact h
  · have h2 := (h1 i hi).2 h
    rw [slt_irrefl] at h2; cases h2
theorem code_at {t : List ByteArray} (hr : Rises t) {i : Nat} (hi : i < t.length) : codeB t (t.getD i default) = true ∧ codeI t (t.getD i default) = i := by
  have h := low_at hr hi
  have h1 : codeB t (t.getD i default) = true := by simp only [codeB, h, hi, decide_true, Bool.and_self]
  exact ⟨h1, by rw [codeI, h1, h]; rfl⟩
theorem code_iff {t : List ByteArray} (hr : Rises t) (s : ByteArray) : codeB t s = true ↔ s ∈ t := by
  constructor
  · intro h
    simp only [codeB, Bool.and_eq_true, decide_eq_true_eq] at h
    rw [← h.2]
    exact getD_memB h.1
  · intro h
    obtain ⟨i, hi, rfl⟩ := mem_getD h
    exact (code_at hr hi).1
end Go.Fw
namespace Go.Fw
open Go Go.Proofs
set_option maxHeartbeats 10000000
set_option maxRecDepth 100000
set_option linter.constructorNameAsVariable false
set_option linter.unusedVariables false
set_option linter.unusedSimpArgs false
theorem searchL2 (t : List ByteArray) (s : ByteArray) (hr : Rises t) (ht : t.length ≤ 1000000) : Has Try.prog 28 [CV.d (D.int .i64 (t.length : Int)), CV.d (D.clo (.func 29) [] [D.ptr (dictD t), D.ptr (D.str s)])] (fun rs bs => rs = [CV.d (D.int .i64 (lowN t s : Nat))] ∧ bs = [CV.gone, CV.gone]) :=
  (searchL t s t.length (lowN t s) (lowN_le t s) ht (Nat.le_refl _) (lowN_iff hr s)).gone.mono fun rs bs h => ⟨h.1.elim fun _ h => h, h.2⟩
theorem searchU2 (t : List ByteArray) (s : ByteArray) (hr : Rises t) (ht : t.length ≤ 1000000) : Has Try.prog 28 [CV.d (D.int .i64 (t.length : Int)), CV.d (D.clo (.func 30) [] [D.ptr (dictD t), D.ptr (D.str s)])] (fun rs bs => rs = [CV.d (D.int .i64 (uppN t s : Nat))] ∧ bs = [CV.gone, CV.gone]) :=
  (searchU t s t.length (uppN t s) (uppN_le t s) ht (Nat.le_refl _) (fun x hx => by rw [← uppN_iff hr s x hx, Bool.not_eq_true'])).gone.mono fun rs bs h => ⟨h.1.elim fun _ h => h, h.2⟩
theorem searchP2 (t : List ByteArray) (s : ByteArray) (hr : Rises t) (ht : t.length ≤ 1000000) : Has Try.prog 28 [CV.d (D.int .i64 ((t.length - lowN t s : Nat) : Int)), CV.d (D.clo (.func 31) [] [D.ptr (dictD t), D.ptr (D.int .i64 (lowN t s : Nat)), D.ptr (D.str s)])] (fun rs bs => rs = [CV.d (D.int .i64 (preN t s : Nat))] ∧ bs = [CV.gone, CV.gone]) :=
  (searchP t s (lowN t s) (t.length - lowN t s) (preN t s) (by have := preN_le t s; omega) (by omega) (by have := lowN_le t s; omega) ht (fun x hx => preN_iff hr s x (by omega))).gone.mono fun rs bs h => ⟨h.1.elim fun _ h => h, h.2⟩
def M12 : FuncId → List Mode := fun g => if g = 28 then [.frz, .ro] else []
theorem lower_con (t : List ByteArray) (s : ByteArray) (hr : Rises t) (ht : t.length ≤ 1000000) : Has Try.prog 12 [CV.d (dictD t), CV.d (D.str s)] (fun rs _ => rs = [CV.d (D.int .i64 (lowN t s))]) := by
  refine Has_of_run (fn := Try.f12) (M := M12) fol (by kernel_rfl) 2 noPlan [] [] (by kernel_rfl) (Nat.le_of_ble_eq_true rfl) ?_
  (repeat' ((conv => whnf); first | done | (refine And.intro (fun h => ?_) (fun h => ?_) <;> (try simp only [Bool.or_eq_true, Bool.and_eq_true, Bool.or_eq_false_iff, Bool.and_eq_false_iff, toNat_pred, toNat_succ, toNat_addn, toNat_subn, decide_eq_true_eq, decide_eq_false_iff_not, Bool.not_eq_true', Bool.not_eq_false', List.length_map, Int.toNat_natCast, Int.not_lt, Int.not_le, Bool.not_eq_true, Bool.false_eq_true, Bool.true_eq_false, Bool.not_true, Bool.not_false, reduceCtorEq, beq_iff_eq, Bool.not_eq_eq_eq_not, bne_iff_ne, ne_eq, decide_not, Decidable.not_not, Classical.not_not] at h)) | exact (rfl : (_ : AV) = _) | exact (rfl : (_ : St) = _) | refine Exists.intro (α := AV) AV.dead (And.intro (fun h => Bool.noConfusion h) ?_) | apply ex_av | (refine fun (h : (_ : Bool) = true) => ?_; have h' := h; (try simp only [Bool.or_eq_true, Bool.and_eq_true, Bool.or_eq_false_iff, Bool.and_eq_false_iff, toNat_pred, toNat_succ, toNat_addn, toNat_subn, decide_eq_true_eq, decide_eq_false_iff_not, Bool.not_eq_true', Bool.not_eq_false', List.length_map, Int.toNat_natCast, Int.not_lt, Int.not_le, Bool.not_eq_true, Bool.false_eq_true, Bool.true_eq_false, Bool.not_true, Bool.not_false, reduceCtorEq, beq_iff_eq, Bool.not_eq_eq_eq_not, bne_iff_ne, ne_eq, decide_not, Decidable.not_not, Classical.not_not] at h')) | (refine And.intro (a := Both _ _ _) ?_ ?_; (refine ⟨fun h => ?_, fun h => ?_⟩ <;> first | rfl | exact h | exact Bool.noConfusion h | (rw [h]; rfl) | (rw [h]; simp only [Bool.not_false, Bool.not_true, Bool.and_true]; assumption) | (simp_all; done) | fail); skip) | refine And.intro rfl ?_ | refine Two.mk ?_ ?_ | refine And.intro (allU8_bytes _) ?_ | (refine And.intro (a := (_ : Bool) = true) ?_ ?_; (first | assumption | exact decide_eq_true (by assumption) | (rw [Bool.not_eq_true']; exact decide_eq_false (by assumption)) | (rw [Bool.not_not]; exact decide_eq_true (by assumption)) | (simp_all; done) | fail); skip) | refine And.intro (Or.inr rfl) ?_ | refine And.intro (Nat.le_of_ble_eq_true rfl) ?_ | refine And.intro (decide_eq_false (by omega)) ?_ | refine And.intro (show Program.stoodInHeld _ _ = _ by kernel_rfl) (And.intro (by kernel_rfl) ?_) | refine And.intro (show Nat.beq _ _ = _ from rfl) (And.intro (by decide) ?_) | refine And.intro ⟨rfl, rfl⟩ ?_ | refine And.intro ⟨rfl, rfl, trivial⟩ ?_ | refine And.intro (Int.natCast_nonneg _) ?_ | refine Or.inl (And.intro rfl (And.intro rfl (And.intro rfl (And.intro rfl ?_)))) | refine Or.inl (And.intro rfl (And.intro rfl ?_)) | refine Or.inr (And.intro (Nat.le_of_ble_eq_true rfl) ?_) | refine Or.inl (And.intro (by unfold in64; omega) ?_) | refine And.intro (by first | omega | (simp only [dlen, true_and, and_true, Nat.le_refl, List.length_map, List.length_append, List.length_cons, List.length_nil, List.length_take, List.length_drop, List.length_replicate, Int.toNat_natCast, List.append_nil] <;> omega) | fail) ?_ | refine And.intro (allU8_bytes _) ?_ | refine And.intro (show elemsP _ _ _ by repeat' (first | exact rfl | exact trivial | constructor)) ?_ | (refine (dictLen_con t).mono fun rs bs hr => ?_; subst hr) | (refine (searchL2 t s hr ht).mono fun rs bs hr => ?_; obtain ⟨rfl, rfl⟩ := hr) | (refine fun x hx => ?_; (try simp (disch := omega) only [Int.tdiv_eq_ediv_of_nonneg, Int.tmod_eq_emod_of_nonneg, bx, Bool.true_or, Bool.false_or, Bool.or_false, Bool.or_true, Bool.and_true, Bool.true_and, Bool.false_and, Bool.and_false, cond_true, cond_false, if_true, if_false, Bool.false_eq_true, min_nn, max_nn, min_ln, min_nl, max_ln, max_nl, getD_map, str_of_bytes, take_bytes, take_data, wrap_u64, wrap_u32, wrap_u8, shr_i64, shr_u64, shr_u32, shl_i64, shl_u64, Int.reduceToNat, Int.reducePow, Int.pow_succ, Int.pow_zero, Int.one_mul, Int.reduceMul, wrap_id, wrap_u8_nat, wrap_i64_u8, byteD_mk, map_snoc, map_app, set_map, take_map', drop_map', Nat.sub_zero, List.length_map, List.length_append, List.length_cons, List.length_nil, Int.toNat_natCast, List.drop_zero, List.take_succ_cons, List.take_zero, List.take_length, List.nil_append, List.append_nil, Nat.zero_add, toNat_pred, toNat_succ, toNat_addn, toNat_subn] at hx); subst hx) | rw [List.take_length] | (rw [List.take_of_length_le]; rotate_left; (first | omega | (simp only [dlen, true_and, and_true, Nat.le_refl, List.length_map, List.length_append, List.length_cons, List.length_nil, List.length_take, List.length_drop, List.length_replicate, Int.toNat_natCast, List.append_nil] <;> omega) | fail)) | refine fun h => ?_ | fail)); all_goals (try exact (AV.dead : AV)); all_goals (try (conv => whnf))
def M13 : FuncId → List Mode := fun g => if g = 28 then [.frz, .ro] else []
theorem upper_con (t : List ByteArray) (s : ByteArray) (hr : Rises t) (ht : t.length ≤ 1000000) : Has Try.prog 13 [CV.d (dictD t), CV.d (D.str s)] (fun rs _ => rs = [CV.d (D.int .i64 (uppN t s))]) := by
  refine Has_of_run (fn := Try.f13) (M := M13) fol (by kernel_rfl) 2 noPlan [] [] (by kernel_rfl) (Nat.le_of_ble_eq_true rfl) ?_
  (repeat' ((conv => whnf); first | done | (refine And.intro (fun h => ?_) (fun h => ?_) <;> (try simp only [Bool.or_eq_true, Bool.and_eq_true, Bool.or_eq_false_iff, Bool.and_eq_false_iff, toNat_pred, toNat_succ, toNat_addn, toNat_subn, decide_eq_true_eq, decide_eq_false_iff_not, Bool.not_eq_true', Bool.not_eq_false', List.length_map, Int.toNat_natCast, Int.not_lt, Int.not_le, Bool.not_eq_true, Bool.false_eq_true, Bool.true_eq_false, Bool.not_true, Bool.not_false, reduceCtorEq, beq_iff_eq, Bool.not_eq_eq_eq_not, bne_iff_ne, ne_eq, decide_not, Decidable.not_not, Classical.not_not] at h)) | exact (rfl : (_ : AV) = _) | exact (rfl : (_ : St) = _) | refine Exists.intro (α := AV) AV.dead (And.intro (fun h => Bool.noConfusion h) ?_) | apply ex_av | (refine fun (h : (_ : Bool) = true) => ?_; have h' := h; (try simp only [Bool.or_eq_true, Bool.and_eq_true, Bool.or_eq_false_iff, Bool.and_eq_false_iff, toNat_pred, toNat_succ, toNat_addn, toNat_subn, decide_eq_true_eq, decide_eq_false_iff_not, Bool.not_eq_true', Bool.not_eq_false', List.length_map, Int.toNat_natCast, Int.not_lt, Int.not_le, Bool.not_eq_true, Bool.false_eq_true, Bool.true_eq_false, Bool.not_true, Bool.not_false, reduceCtorEq, beq_iff_eq, Bool.not_eq_eq_eq_not, bne_iff_ne, ne_eq, decide_not, Decidable.not_not, Classical.not_not] at h')) | (refine And.intro (a := Both _ _ _) ?_ ?_; (refine ⟨fun h => ?_, fun h => ?_⟩ <;> first | rfl | exact h | exact Bool.noConfusion h | (rw [h]; rfl) | (rw [h]; simp only [Bool.not_false, Bool.not_true, Bool.and_true]; assumption) | (simp_all; done) | fail); skip) | refine And.intro rfl ?_ | refine Two.mk ?_ ?_ | refine And.intro (allU8_bytes _) ?_ | (refine And.intro (a := (_ : Bool) = true) ?_ ?_; (first | assumption | exact decide_eq_true (by assumption) | (rw [Bool.not_eq_true']; exact decide_eq_false (by assumption)) | (rw [Bool.not_not]; exact decide_eq_true (by assumption)) | (simp_all; done) | fail); skip) | refine And.intro (Or.inr rfl) ?_ | refine And.intro (Nat.le_of_ble_eq_true rfl) ?_ | refine And.intro (decide_eq_false (by omega)) ?_ | refine And.intro (show Program.stoodInHeld _ _ = _ by kernel_rfl) (And.intro (by kernel_rfl) ?_) | refine And.intro (show Nat.beq _ _ = _ from rfl) (And.intro (by decide) ?_) | refine And.intro ⟨rfl, rfl⟩ ?_ | refine And.intro ⟨rfl, rfl, trivial⟩ ?_ | refine And.intro (Int.natCast_nonneg _) ?_ | refine Or.inl (And.intro rfl (And.intro rfl (And.intro rfl (And.intro rfl ?_)))) | refine Or.inl (And.intro rfl (And.intro rfl ?_)) | refine Or.inr (And.intro (Nat.le_of_ble_eq_true rfl) ?_) | refine Or.inl (And.intro (by unfold in64; omega) ?_) | refine And.intro (by first | omega | (simp only [dlen, true_and, and_true, Nat.le_refl, List.length_map, List.length_append, List.length_cons, List.length_nil, List.length_take, List.length_drop, List.length_replicate, Int.toNat_natCast, List.append_nil] <;> omega) | fail) ?_ | refine And.intro (allU8_bytes _) ?_ | refine And.intro (show elemsP _ _ _ by repeat' (first | exact rfl | exact trivial | constructor)) ?_ | (refine (dictLen_con t).mono fun rs bs hr => ?_; subst hr) | (refine (searchU2 t s hr ht).mono fun rs bs hr => ?_; obtain ⟨rfl, rfl⟩ := hr) | (refine fun x hx => ?_; (try simp (disch := omega) only [Int.tdiv_eq_ediv_of_nonneg, Int.tmod_eq_emod_of_nonneg, bx, Bool.true_or, Bool.false_or, Bool.or_false, Bool.or_true, Bool.and_true, Bool.true_and, Bool.false_and, Bool.and_false, cond_true, cond_false, if_true, if_false, Bool.false_eq_true, min_nn, max_nn, min_ln, min_nl, max_ln, max_nl, getD_map, str_of_bytes, take_bytes, take_data, wrap_u64, wrap_u32, wrap_u8, shr_i64, shr_u64, shr_u32, shl_i64, shl_u64, Int.reduceToNat, Int.reducePow, Int.pow_succ, Int.pow_zero, Int.one_mul, Int.reduceMul, wrap_id, wrap_u8_nat, wrap_i64_u8, byteD_mk, map_snoc, map_app, set_map, take_map', drop_map', Nat.sub_zero, List.length_map, List.length_append, List.length_cons, List.length_nil, Int.toNat_natCast, List.drop_zero, List.take_succ_cons, List.take_zero, List.take_length, List.nil_append, List.append_nil, Nat.zero_add, toNat_pred, toNat_succ, toNat_addn, toNat_subn] at hx); subst hx) | rw [List.take_length] | (rw [List.take_of_length_le]; rotate_left; (first | omega | (simp only [dlen, true_and, and_true, Nat.le_refl, List.length_map, List.length_append, List.length_cons, List.length_nil, List.length_take, List.length_drop, List.length_replicate, Int.toNat_natCast, List.append_nil] <;> omega) | fail)) | refine fun h => ?_ | fail)); all_goals (try exact (AV.dead : AV)); all_goals (try (conv => whnf))
theorem code_con (t : List ByteArray) (s : ByteArray) (hr : Rises t) (ht : t.length ≤ 1000000) : Has Try.prog 11 [CV.d (dictD t), CV.d (D.str s)] (fun rs _ => rs = [CV.d (D.int .i64 (codeI t s : Nat)), CV.d (D.bool (codeB t s))] ) := by
  have hle := lowN_le t s
  refine Has_of_run (fn := Try.f11) (M := M0) fol (by kernel_rfl) 7 noPlan [] [] (by kernel_rfl) (Nat.le_of_ble_eq_true rfl) ?_
  (repeat' ((conv => whnf); first | done | (refine And.intro (fun h => ?_) (fun h => ?_) <;> (try simp only [Bool.or_eq_true, Bool.and_eq_true, Bool.or_eq_false_iff, Bool.and_eq_false_iff, toNat_pred, toNat_succ, toNat_addn, toNat_subn, decide_eq_true_eq, decide_eq_false_iff_not, Bool.not_eq_true', Bool.not_eq_false', List.length_map, Int.toNat_natCast, Int.not_lt, Int.not_le, Bool.not_eq_true, Bool.false_eq_true, Bool.true_eq_false, Bool.not_true, Bool.not_false, reduceCtorEq, beq_iff_eq, Bool.not_eq_eq_eq_not, bne_iff_ne, ne_eq, decide_not, Decidable.not_not, Classical.not_not] at h)) | exact (rfl : (_ : AV) = _) | exact (rfl : (_ : St) = _) | refine Exists.intro (α := AV) AV.dead (And.intro (fun h => Bool.noConfusion h) ?_) | apply ex_av | (refine fun (h : (_ : Bool) = true) => ?_; have h' := h; (try simp only [Bool.or_eq_true, Bool.and_eq_true, Bool.or_eq_false_iff, Bool.and_eq_false_iff, toNat_pred, toNat_succ, toNat_addn, toNat_subn, decide_eq_true_eq, decide_eq_false_iff_not, Bool.not_eq_true', Bool.not_eq_false', List.length_map, Int.toNat_natCast, Int.not_lt, Int.not_le, Bool.not_eq_true, Bool.false_eq_true, Bool.true_eq_false, Bool.not_true, Bool.not_false, reduceCtorEq, beq_iff_eq, Bool.not_eq_eq_eq_not, bne_iff_ne, ne_eq, decide_not, Decidable.not_not, Classical.not_not] at h')) | (refine And.intro (a := Both _ _ _) ?_ ?_; (refine ⟨fun h => ?_, fun h => ?_⟩ <;> first | rfl | exact h | exact Bool.noConfusion h | (rw [h]; rfl) | (rw [h]; simp only [Bool.not_false, Bool.not_true, Bool.and_true]; assumption) | (simp_all; done) | fail); skip) | refine And.intro rfl ?_ | refine Two.mk ?_ ?_ | refine And.intro (allU8_bytes _) ?_ | (refine And.intro (a := (_ : Bool) = true) ?_ ?_; (first | assumption | exact decide_eq_true (by assumption) | (rw [Bool.not_eq_true']; exact decide_eq_false (by assumption)) | (rw [Bool.not_not]; exact decide_eq_true (by assumption)) | (simp_all; done) | fail); skip) | refine And.intro (Or.inr rfl) ?_ | refine And.intro (Nat.le_of_ble_eq_true rfl) ?_ | refine And.intro (decide_eq_false (by omega)) ?_ | refine And.intro (show Program.stoodInHeld _ _ = _ by kernel_rfl) (And.intro (by kernel_rfl) ?_) | refine And.intro (show Nat.beq _ _ = _ from rfl) (And.intro (by decide) ?_) | refine And.intro ⟨rfl, rfl⟩ ?_ | refine And.intro ⟨rfl, rfl, trivial⟩ ?_ | refine And.intro (Int.natCast_nonneg _) ?_ | refine Or.inl (And.intro rfl (And.intro rfl (And.intro rfl (And.intro rfl ?_)))) | refine Or.inl (And.intro rfl (And.intro rfl ?_)) | refine Or.inr (And.intro (Nat.le_of_ble_eq_true rfl) ?_) | refine Or.inl (And.intro (by unfold in64; omega) ?_) | refine And.intro (by first | omega | (simp only [dlen, true_and, and_true, Nat.le_refl, List.length_map, List.length_append, List.length_cons, List.length_nil, List.length_take, List.length_drop, List.length_replicate, Int.toNat_natCast, List.append_nil] <;> omega) | fail) ?_ | refine And.intro (allU8_bytes _) ?_ | refine And.intro (show elemsP _ _ _ by repeat' (first | exact rfl | exact trivial | constructor)) ?_ | (refine (dictLen_con t).mono fun rs bs hr => ?_; subst hr) | (refine (lower_con t s hr ht).mono fun rs bs hr => ?_; subst hr) | (refine (dictAt_con t _ (by omega)).mono fun rs bs hr => ?_; subst hr) | (refine fun x hx => ?_; (try simp (disch := omega) only [Int.tdiv_eq_ediv_of_nonneg, Int.tmod_eq_emod_of_nonneg, bx, Bool.true_or, Bool.false_or, Bool.or_false, Bool.or_true, Bool.and_true, Bool.true_and, Bool.false_and, Bool.and_false, cond_true, cond_false, if_true, if_false, Bool.false_eq_true, min_nn, max_nn, min_ln, min_nl, max_ln, max_nl, getD_map, str_of_bytes, take_bytes, take_data, wrap_u64, wrap_u32, wrap_u8, shr_i64, shr_u64, shr_u32, shl_i64, shl_u64, Int.reduceToNat, Int.reducePow, Int.pow_succ, Int.pow_zero, Int.one_mul, Int.reduceMul, wrap_id, wrap_u8_nat, wrap_i64_u8, byteD_mk, map_snoc, map_app, set_map, take_map', drop_map', Nat.sub_zero, List.length_map, List.length_append, List.length_cons, List.length_nil, Int.toNat_natCast, List.drop_zero, List.take_succ_cons, List.take_zero, List.take_length, List.nil_append, List.append_nil, Nat.zero_add, toNat_pred, toNat_succ, toNat_addn, toNat_subn] at hx); subst hx) | rw [List.take_length] | (rw [List.take_of_length_le]; rotate_left; (first | omega | (simp only [dlen, true_and, and_true, Nat.le_refl, List.length_map, List.length_append, List.length_cons, List.length_nil, List.length_take, List.length_drop, List.length_replicate, Int.toNat_natCast, List.append_nil] <;> omega) | fail)) | refine fun h => ?_ | fail)); all_goals (try exact (AV.dead : AV)); all_goals (try (conv => whnf))
  · rw [(code_no (by assumption)).1, (code_no (by assumption)).2]; rfl
  · rw [(code_yes (by assumption)).1, (code_yes (by assumption)).2]
def M14 : FuncId → List Mode := fun g => if g = 28 then [.frz, .ro] else []
def pl14 : Nat → Plan
  | 2 => tks 4 [0] (.tak 0 .rd [1, 3, 5, 6] (.two 1 (.tak 2 .rd [3, 5, 6] (tks 3 [0] (.one 5 (.one 6 (.done))))) 2 (.one 1 (tks 3 [0] (.one 5 (.one 6 (.done)))))))
  | 3 => tks 0 [1, 1, 0, 0] (.one 4 (.one 5 (.done)))
  | _ => .done
theorem prefix_con (t : List ByteArray) (s : ByteArray) (hr : Rises t) (ht : t.length ≤ 1000000) : Has Try.prog 14 [CV.d (dictD t), CV.d (D.str s)] (fun rs _ => rs = [CV.d (D.int .i64 (lowN t s)), CV.d (D.int .i64 ((lowN t s + preN t s : Nat) : Int))] ) := by
  have hle := lowN_le t s; have hpl := preN_le t s
  refine Has_of_run (fn := Try.f14) (M := M14) fol (by kernel_rfl) 2 pl14 [] [] (by kernel_rfl) (Nat.le_of_ble_eq_true rfl) ?_
  (repeat' ((conv => whnf); first | done | (refine And.intro (fun h => ?_) (fun h => ?_) <;> (try simp only [Bool.or_eq_true, Bool.and_eq_true, Bool.or_eq_false_iff, Bool.and_eq_false_iff, toNat_pred, toNat_succ, toNat_addn, toNat_subn, decide_eq_true_eq, decide_eq_false_iff_not, Bool.not_eq_true', Bool.not_eq_false', List.length_map, Int.toNat_natCast, Int.not_lt, Int.not_le, Bool.not_eq_true, Bool.false_eq_true, Bool.true_eq_false, Bool.not_true, Bool.not_false, reduceCtorEq, beq_iff_eq, Bool.not_eq_eq_eq_not, bne_iff_ne, ne_eq, decide_not, Decidable.not_not, Classical.not_not] at h)) | exact (rfl : (_ : AV) = _) | exact (rfl : (_ : St) = _) | refine Exists.intro (α := AV) AV.dead (And.intro (fun h => Bool.noConfusion h) ?_) | apply ex_av | (refine fun (h : (_ : Bool) = true) => ?_; have h' := h; (try simp only [Bool.or_eq_true, Bool.and_eq_true, Bool.or_eq_false_iff, Bool.and_eq_false_iff, toNat_pred, toNat_succ, toNat_addn, toNat_subn, decide_eq_true_eq, decide_eq_false_iff_not, Bool.not_eq_true', Bool.not_eq_false', List.length_map, Int.toNat_natCast, Int.not_lt, Int.not_le, Bool.not_eq_true, Bool.false_eq_true, Bool.true_eq_false, Bool.not_true, Bool.not_false, reduceCtorEq, beq_iff_eq, Bool.not_eq_eq_eq_not, bne_iff_ne, ne_eq, decide_not, Decidable.not_not, Classical.not_not] at h')) | (refine And.intro (a := Both _ _ _) ?_ ?_; (refine ⟨fun h => ?_, fun h => ?_⟩ <;> first | rfl | exact h | exact Bool.noConfusion h | (rw [h]; rfl) | (rw [h]; simp only [Bool.not_false, Bool.not_true, Bool.and_true]; assumption) | (simp_all; done) | fail); skip) | refine And.intro rfl ?_ | refine Two.mk ?_ ?_ | refine And.intro (allU8_bytes _) ?_ | (refine And.intro (a := (_ : Bool) = true) ?_ ?_; (first | assumption | exact decide_eq_true (by assumption) | (rw [Bool.not_eq_true']; exact decide_eq_false (by assumption)) | (rw [Bool.not_not]; exact decide_eq_true (by assumption)) | (simp_all; done) | fail); skip) | refine And.intro (Or.inr rfl) ?_ | refine And.intro (Nat.le_of_ble_eq_true rfl) ?_ | refine And.intro (decide_eq_false (by omega)) ?_ | refine And.intro (show Program.stoodInHeld _ _ = _ by kernel_rfl) (And.intro (by kernel_rfl) ?_) | refine And.intro (show Nat.beq _ _ = _ from rfl) (And.intro (by decide) ?_) | refine And.intro ⟨rfl, rfl⟩ ?_ | refine And.intro ⟨rfl, rfl, trivial⟩ ?_ | refine And.intro (Int.natCast_nonneg _) ?_ | refine Or.inl (And.intro rfl (And.intro rfl (And.intro rfl (And.intro rfl ?_)))) | refine Or.inl (And.intro rfl (And.intro rfl ?_)) | refine Or.inr (And.intro (Nat.le_of_ble_eq_true rfl) ?_) | refine Or.inl (And.intro (by unfold in64; omega) ?_) | refine And.intro (by first | omega | (simp only [dlen, true_and, and_true, Nat.le_refl, List.length_map, List.length_append, List.length_cons, List.length_nil, List.length_take, List.length_drop, List.length_replicate, Int.toNat_natCast, List.append_nil] <;> omega) | fail) ?_ | refine And.intro (allU8_bytes _) ?_ | refine And.intro (show elemsP _ _ _ by repeat' (first | exact rfl | exact trivial | constructor)) ?_ | (refine (dictLen_con t).mono fun rs bs hr => ?_; subst hr) | (refine (lower_con t s hr ht).mono fun rs bs hr => ?_; subst hr) | ((rw [show (t.length : Int) - (lowN t s : Int) = ((t.length - lowN t s : Nat) : Int) by omega]; refine (searchP2 t s hr ht).mono fun rs bs hr => ?_; obtain ⟨rfl, rfl⟩ := hr)) | (refine fun x hx => ?_; (try simp (disch := omega) only [Int.tdiv_eq_ediv_of_nonneg, Int.tmod_eq_emod_of_nonneg, bx, Bool.true_or, Bool.false_or, Bool.or_false, Bool.or_true, Bool.and_true, Bool.true_and, Bool.false_and, Bool.and_false, cond_true, cond_false, if_true, if_false, Bool.false_eq_true, min_nn, max_nn, min_ln, min_nl, max_ln, max_nl, getD_map, str_of_bytes, take_bytes, take_data, wrap_u64, wrap_u32, wrap_u8, shr_i64, shr_u64, shr_u32, shl_i64, shl_u64, Int.reduceToNat, Int.reducePow, Int.pow_succ, Int.pow_zero, Int.one_mul, Int.reduceMul, wrap_id, wrap_u8_nat, wrap_i64_u8, byteD_mk, map_snoc, map_app, set_map, take_map', drop_map', Nat.sub_zero, List.length_map, List.length_append, List.length_cons, List.length_nil, Int.toNat_natCast, List.drop_zero, List.take_succ_cons, List.take_zero, List.take_length, List.nil_append, List.append_nil, Nat.zero_add, toNat_pred, toNat_succ, toNat_addn, toNat_subn] at hx); subst hx) | rw [List.take_length] | (rw [List.take_of_length_le]; rotate_left; (first | omega | (simp only [dlen, true_and, and_true, Nat.le_refl, List.length_map, List.length_append, List.length_cons, List.length_nil, List.length_take, List.length_drop, List.length_replicate, Int.toNat_natCast, List.append_nil] <;> omega) | fail)) | refine fun h => ?_ | fail)); all_goals (try exact (AV.dead : AV)); all_goals (try (conv => whnf))
  all_goals (rw [show ((lowN t s : Nat) : Int) + ((preN t s : Nat) : Int) = ((lowN t s + preN t s : Nat) : Int) by omega])
end Go.Fw
namespace Go.Fw
open Go Go.Proofs
set_option maxHeartbeats 10000000
set_option maxRecDepth 100000
set_option linter.constructorNameAsVariable false
set_option linter.unusedVariables false
set_option linter.unusedSimpArgs false
def pl25 : Nat → Plan
  | 10 => tks 0 [0, 0, 0, 0, 0, 1, 0, 0, 0, 0, 0, 0, 0, 1, 0, 0, 0, 0, 0, 0, 0, 0, 1, 0, 0, 0, 0, 0, 1, 0, 0, 0, 0] (.done)
  | _ => .done
theorem build_con (t : List ByteArray) (k : Nat) (hr : rightF t k = true) : Has Try.prog 25 [CV.d (D.sl 1 (t.map D.str)), CV.d (D.int .i64 k)] (fun rs _ => rs = [CV.own 5 1 ((buildS t k).map byteD)] ) := by
  obtain ⟨hk1, hk64, hl, hok⟩ := rightF_at hr; have hk : 0 < k := (by omega); have hs := rightF_size hr; have hq1 := putN_len 2 t.length (by omega); have hq2 := putN_len 0 k (by omega)
  have hb3 : Try.prog.bytesOf 3 = 8 := by kernel_rfl
  have hb5 : Try.prog.bytesOf 5 = 1 := by kernel_rfl
  refine Has_of_run (fn := Try.f25) (M := M0) fol (by kernel_rfl) 11 pl25 [.own] [] (by kernel_rfl) (Nat.le_of_ble_eq_true rfl) ?_
  (repeat' ((conv => whnf); first | done | (refine And.intro (fun h => ?_) (fun h => ?_) <;> (try simp only [Bool.or_eq_true, Bool.and_eq_true, Bool.or_eq_false_iff, Bool.and_eq_false_iff, toNat_pred, toNat_succ, toNat_addn, toNat_subn, decide_eq_true_eq, decide_eq_false_iff_not, Bool.not_eq_true', Bool.not_eq_false', List.length_map, Int.toNat_natCast, Int.not_lt, Int.not_le, Bool.not_eq_true, Bool.false_eq_true, Bool.true_eq_false, Bool.not_true, Bool.not_false, reduceCtorEq, beq_iff_eq, Bool.not_eq_eq_eq_not, bne_iff_ne, ne_eq, decide_not, Decidable.not_not, Classical.not_not] at h)) | exact (rfl : (_ : AV) = _) | exact (rfl : (_ : St) = _) | refine Exists.intro (α := AV) AV.dead (And.intro (fun h => Bool.noConfusion h) ?_) | apply ex_av | (refine fun (h : (_ : Bool) = true) => ?_; have h' := h; (try simp only [Bool.or_eq_true, Bool.and_eq_true, Bool.or_eq_false_iff, Bool.and_eq_false_iff, toNat_pred, toNat_succ, toNat_addn, toNat_subn, decide_eq_true_eq, decide_eq_false_iff_not, Bool.not_eq_true', Bool.not_eq_false', List.length_map, Int.toNat_natCast, Int.not_lt, Int.not_le, Bool.not_eq_true, Bool.false_eq_true, Bool.true_eq_false, Bool.not_true, Bool.not_false, reduceCtorEq, beq_iff_eq, Bool.not_eq_eq_eq_not, bne_iff_ne, ne_eq, decide_not, Decidable.not_not, Classical.not_not] at h')) | (refine And.intro (a := Both _ _ _) ?_ ?_; (refine ⟨fun h => ?_, fun h => ?_⟩ <;> first | rfl | exact h | exact Bool.noConfusion h | (rw [h]; rfl) | (rw [h]; simp only [Bool.not_false, Bool.not_true, Bool.and_true]; assumption) | (simp_all; done) | fail); skip) | refine And.intro rfl ?_ | refine Two.mk ?_ ?_ | refine And.intro (allU8_bytes _) ?_ | (refine And.intro (a := (_ : Bool) = true) ?_ ?_; (first | assumption | exact decide_eq_true (by assumption) | (rw [Bool.not_eq_true']; exact decide_eq_false (by assumption)) | (rw [Bool.not_not]; exact decide_eq_true (by assumption)) | (simp_all; done) | fail); skip) | refine And.intro (Or.inr rfl) ?_ | refine And.intro (Nat.le_of_ble_eq_true rfl) ?_ | refine And.intro (decide_eq_false (by omega)) ?_ | refine And.intro (show Program.stoodInHeld _ _ = _ by kernel_rfl) (And.intro (by kernel_rfl) ?_) | refine And.intro (show Nat.beq _ _ = _ from rfl) (And.intro (by decide) ?_) | refine And.intro ⟨rfl, rfl⟩ ?_ | refine And.intro ⟨rfl, rfl, trivial⟩ ?_ | refine And.intro (Int.natCast_nonneg _) ?_ | refine Or.inl (And.intro rfl (And.intro rfl (And.intro rfl (And.intro rfl ?_)))) | refine Or.inl (And.intro rfl (And.intro rfl ?_)) | refine Or.inr (And.intro (Nat.le_of_ble_eq_true rfl) ?_) | refine Or.inl (And.intro (by unfold in64; omega) ?_) | refine And.intro (by first | omega | (simp only [dlen, true_and, and_true, Nat.le_refl, List.length_map, List.length_append, List.length_cons, List.length_nil, List.length_take, List.length_drop, List.length_replicate, Int.toNat_natCast, List.append_nil, hb3, hb5] <;> omega) | fail) ?_ | refine And.intro (allU8_bytes _) ?_ | refine And.intro (show elemsP _ _ _ by repeat' (first | exact rfl | exact trivial | constructor)) ?_ | (refine (put01_con _ (by omega)).mono fun rs bs hr => ?_; subst hr) | ((rw [show lcpS (t.getD (i - 1) default) (t.getD i default) = n by assumption]; refine (put01_con _ (by omega)).mono fun rs bs hr => ?_; subst hr)) | (refine (text01_con _ (by omega)).mono fun rs bs hr => ?_; subst hr) | (refine (write03_con _ (by omega) (fun x hx => by have := zsB_le hk hs (by assumption) x hx; omega)).mono fun rs bs hr => ?_; subst hr) | (refine Loops.by (M := M0) 11 pl25 fol (by kernel_rfl) (ι := Nat × List Nat × List UInt8) (fun ⟨i, z, a⟩ => ⟨[(0, AV.d (D.sl 1 (t.map D.str))), (1, AV.d (D.int .i64 k)), (5, AV.ref [5] 16 1 0 (z.map natD).length), (6, AV.ref [6] 17 1 0 (a.map byteD).length), (7, AV.d (D.int .i64 i))], [([5], 16, AO.row 3 1 (z.map natD)), ([6], 17, AO.row 5 1 (a.map byteD))], 18⟩) (fun ⟨i, z, a⟩ => i ≤ t.length ∧ z = zsB t k i ∧ a = abB t k i) (fun ⟨i, z, a⟩ => t.length - i) (fun p hI => ?_) ((0, [], [])) ⟨Nat.zero_le _, by simp [zsB, chs_nil], by simp [abB, chs_nil]⟩ (Forget.mk' ⟨⟨rfl, rfl⟩, ⟨rfl, rfl⟩, ⟨rfl, rfl⟩, ⟨rfl, rfl⟩, ⟨rfl, rfl⟩, trivial⟩ ⟨⟨rfl, rfl, rfl⟩, ⟨rfl, rfl, rfl⟩, trivial⟩ rfl rfl); obtain ⟨i, z, a⟩ := p; obtain ⟨hi, rfl, rfl⟩ := hI; have hzl := zsB_len (t := t) (i := i) hk (by assumption); have hal := abB_len hk hs i (by assumption); have hpt0 := putT_ex hs i 0; have hi0 : i = 0 → (i : Int) % (k : Int) = 0 := (fun h => by subst h; simp); have hpw := pkW_len (l := zsB t k i) (by omega) (fun x hx => by have := zsB_le hk hs (by assumption) x hx; omega)) | (refine Loops.by (M := M0) 11 pl25 fol (by kernel_rfl) (ι := Nat) (fun n => ⟨[(0, AV.d (D.sl 1 (t.map D.str))), (1, AV.d (D.int .i64 k)), (5, AV.ref [5] 16 1 0 ((zsB t k i).map natD).length), (6, AV.ref [6] 17 1 0 ((abB t k i).map byteD).length), (7, AV.d (D.int .i64 i)), (9, AV.d (D.int .i64 n))], [([5], 16, AO.row 3 1 ((zsB t k i).map natD)), ([6], 17, AO.row 5 1 ((abB t k i).map byteD))], 18⟩) (fun n => n ≤ (t.getD (i - 1) default).size ∧ n ≤ (t.getD i default).size ∧ ∀ j, j < n → bAt (t.getD (i - 1) default) j = bAt (t.getD i default) j) (fun n => (t.getD i default).size - n) (fun n hI => ?_) (0) ⟨Nat.zero_le _, Nat.zero_le _, fun j h => absurd h (Nat.not_lt_zero _)⟩ (Forget.mk' ⟨⟨rfl, rfl⟩, ⟨rfl, rfl⟩, ⟨rfl, rfl⟩, ⟨rfl, rfl⟩, ⟨rfl, rfl⟩, ⟨rfl, rfl⟩, trivial⟩ ⟨⟨rfl, rfl, rfl⟩, ⟨rfl, rfl, rfl⟩, trivial⟩ rfl rfl); obtain ⟨hn1, hn2, heq⟩ := hI; have hptn := putT_ex hs i n; have hsi := sizes_any hs i; have hpn := putN_len 2 n (by omega); have hzp := (zsB_more (t := t) (i := i) hk (by omega) (mod_pos (i := i) (k := k) (by assumption)).2).1; have hzv := zsB_le hk hs (by assumption) _ (nat_getD (l := zsB t k i) (i := (zsB t k i).length - 1) (by omega))) | (refine fun x hx => ?_; (try simp (disch := omega) only [Int.tdiv_eq_ediv_of_nonneg, Int.tmod_eq_emod_of_nonneg, bx, Bool.true_or, Bool.false_or, Bool.or_false, Bool.or_true, Bool.and_true, Bool.true_and, Bool.false_and, Bool.and_false, cond_true, cond_false, if_true, if_false, Bool.false_eq_true, min_nn, max_nn, min_ln, min_nl, max_ln, max_nl, getD_map, str_of_bytes, take_bytes, take_data, wrap_u64, wrap_u32, wrap_u8, shr_i64, shr_u64, shr_u32, shl_i64, shl_u64, Int.reduceToNat, Int.reducePow, Int.pow_succ, Int.pow_zero, Int.one_mul, Int.reduceMul, wrap_id, wrap_u8_nat, wrap_i64_u8, byteD_mk, map_snoc, map_app, set_map, take_map', drop_map', Nat.sub_zero, List.length_map, List.length_append, List.length_cons, List.length_nil, Int.toNat_natCast, List.drop_zero, List.take_succ_cons, List.take_zero, List.take_length, List.nil_append, List.append_nil, Nat.zero_add, toNat_pred, toNat_succ, toNat_addn, toNat_subn, snocN, setN, snocN0, setNa, getD_last0, setNb, set_last0] at hx); subst hx) | rw [List.take_length] | (rw [List.take_of_length_le]; rotate_left; (first | omega | (simp only [dlen, true_and, and_true, Nat.le_refl, List.length_map, List.length_append, List.length_cons, List.length_nil, List.length_take, List.length_drop, List.length_replicate, Int.toNat_natCast, List.append_nil, hb3, hb5] <;> omega) | fail)) | refine fun h => ?_ | fail)); all_goals (try exact (AV.dead : AV)); all_goals (try (conv => whnf))
  all_goals first
    | (rw [build_end (show t.length ≤ i by omega)]; simp only [List.append_assoc])
    | exact ⟨n + 1, ⟨⟨by omega, by omega, upto_succ heq (by exact h.2)⟩, by omega⟩, (Forget.mk' ⟨⟨rfl, rfl⟩, ⟨rfl, rfl⟩, ⟨rfl, rfl⟩, ⟨rfl, rfl⟩, ⟨rfl, rfl⟩, ⟨rfl, rfl⟩, trivial⟩ ⟨⟨rfl, rfl, rfl⟩, ⟨rfl, rfl, rfl⟩, trivial⟩ rfl rfl)⟩
    | (have hab := new_a hk (by assumption) (by assumption)
       rw [hab.1, hab.2.1, hab.2.2]
       exact ⟨(i + 1, _, _), ⟨⟨by omega, rfl, rfl⟩, by show t.length - (i + 1) < t.length - i; omega⟩, (Forget.mk' ⟨⟨rfl, rfl⟩, ⟨rfl, rfl⟩, ⟨rfl, rfl⟩, ⟨rfl, rfl⟩, ⟨rfl, rfl⟩, trivial⟩ ⟨⟨rfl, rfl, rfl⟩, ⟨rfl, rfl, rfl⟩, trivial⟩ rfl rfl)⟩)
    | (have hab := more_a hk (by assumption) (by assumption) (lcpS_end hn1 hn2 heq (by assumption))
       rw [hab.1, hab.2.1, hab.2.2]
       exact ⟨(i + 1, _, _), ⟨⟨by omega, rfl, rfl⟩, by show t.length - (i + 1) < t.length - i; omega⟩, (Forget.mk' ⟨⟨rfl, rfl⟩, ⟨rfl, rfl⟩, ⟨rfl, rfl⟩, ⟨rfl, rfl⟩, ⟨rfl, rfl⟩, trivial⟩ ⟨⟨rfl, rfl, rfl⟩, ⟨rfl, rfl, rfl⟩, trivial⟩ rfl rfl)⟩)
    | (trace_state; fail)
end Go.Fw
namespace Go.Fw
open Go Go.Proofs
set_option maxHeartbeats 10000000
set_option maxRecDepth 100000
set_option linter.constructorNameAsVariable false
set_option linter.unusedVariables false
set_option linter.unusedSimpArgs false
theorem sortS_con (e : Nat) (ss : List ByteArray) (hlen : ss.length < 4611686018427387904) :
    Has Try.prog 33 [.own e 1 (ss.map D.str)] (fun rs bs => rs = [] ∧ bs = [.own e 1 ((sortS ss).map D.str)]) :=
  sort_has (fn := Try.f33) (by kernel_rfl) (by kernel_rfl) (by kernel_rfl) Try.slices_Sort_string Try.slices_Sort_string_none e ss hlen
theorem compactS_con (e : Nat) (ss : List ByteArray) :
    Has Try.prog 34 [.own e 1 (ss.map D.str)] (fun rs bs => rs = [.own e 1 ((compactS ss).map D.str)] ∧ bs = [.gone]) :=
  compact_has (fn := Try.f34) (by kernel_rfl) (by kernel_rfl) (by kernel_rfl) Try.slices_Compact_string Try.slices_Compact_string_empty e ss
theorem map_con (a b : List ByteArray) (hb : Rises b) (ha : a.length ≤ 1000000) (hbl : b.length ≤ 1000000) : Has Try.prog 16 [CV.d (dictD a), CV.d (dictD b)] (fun rs _ => rs = [CV.own 3 1 ((a.map (mapI b)).map iD)] ) := by
  have hab : a.length ≤ 1000000000 := (by omega)
  have hb3 : Try.prog.bytesOf 3 = 8 := by kernel_rfl
  refine Has_of_run (fn := Try.f16) (M := M0) fol (by kernel_rfl) 10 noPlan [.own] [] (by kernel_rfl) (Nat.le_of_ble_eq_true rfl) ?_
  (repeat' ((conv => whnf); first | done | (refine And.intro (fun h => ?_) (fun h => ?_) <;> (try simp only [Bool.or_eq_true, Bool.and_eq_true, Bool.or_eq_false_iff, Bool.and_eq_false_iff, toNat_pred, toNat_succ, toNat_addn, toNat_subn, decide_eq_true_eq, decide_eq_false_iff_not, Bool.not_eq_true', Bool.not_eq_false', List.length_map, Int.toNat_natCast, Int.not_lt, Int.not_le, Bool.not_eq_true, Bool.false_eq_true, Bool.true_eq_false, Bool.not_true, Bool.not_false, reduceCtorEq, beq_iff_eq, Bool.not_eq_eq_eq_not, bne_iff_ne, ne_eq, decide_not, Decidable.not_not, Classical.not_not] at h)) | exact (rfl : (_ : AV) = _) | exact (rfl : (_ : St) = _) | refine Exists.intro (α := AV) AV.dead (And.intro (fun h => Bool.noConfusion h) ?_) | apply ex_av | (refine fun (h : (_ : Bool) = true) => ?_; have h' := h; (try simp only [Bool.or_eq_true, Bool.and_eq_true, Bool.or_eq_false_iff, Bool.and_eq_false_iff, toNat_pred, toNat_succ, toNat_addn, toNat_subn, decide_eq_true_eq, decide_eq_false_iff_not, Bool.not_eq_true', Bool.not_eq_false', List.length_map, Int.toNat_natCast, Int.not_lt, Int.not_le, Bool.not_eq_true, Bool.false_eq_true, Bool.true_eq_false, Bool.not_true, Bool.not_false, reduceCtorEq, beq_iff_eq, Bool.not_eq_eq_eq_not, bne_iff_ne, ne_eq, decide_not, Decidable.not_not, Classical.not_not] at h')) | (refine And.intro (a := Both _ _ _) ?_ ?_; (refine ⟨fun h => ?_, fun h => ?_⟩ <;> first | rfl | exact h | exact Bool.noConfusion h | (rw [h]; rfl) | (rw [h]; simp only [Bool.not_false, Bool.not_true, Bool.and_true]; assumption) | (simp_all; done) | fail); skip) | refine And.intro rfl ?_ | refine Two.mk ?_ ?_ | refine And.intro (allU8_bytes _) ?_ | (refine And.intro (a := (_ : Bool) = true) ?_ ?_; (first | assumption | exact decide_eq_true (by assumption) | (rw [Bool.not_eq_true']; exact decide_eq_false (by assumption)) | (rw [Bool.not_not]; exact decide_eq_true (by assumption)) | (simp_all; done) | fail); skip) | refine And.intro (Or.inr rfl) ?_ | refine And.intro (Nat.le_of_ble_eq_true rfl) ?_ | refine And.intro (decide_eq_false (by omega)) ?_ | refine And.intro (show Program.stoodInHeld _ _ = _ by kernel_rfl) (And.intro (by kernel_rfl) ?_) | refine And.intro (show Nat.beq _ _ = _ from rfl) (And.intro (by decide) ?_) | refine And.intro ⟨rfl, rfl⟩ ?_ | refine And.intro ⟨rfl, rfl, trivial⟩ ?_ | refine And.intro (Int.natCast_nonneg _) ?_ | refine Or.inl (And.intro rfl (And.intro rfl (And.intro rfl (And.intro rfl ?_)))) | refine Or.inl (And.intro rfl (And.intro rfl ?_)) | refine Or.inr (And.intro (Nat.le_of_ble_eq_true rfl) ?_) | refine Or.inl (And.intro (by unfold in64; omega) ?_) | refine And.intro (by first | omega | (simp only [dlen, true_and, and_true, Nat.le_refl, List.length_map, List.length_append, List.length_cons, List.length_nil, List.length_take, List.length_drop, List.length_replicate, Int.toNat_natCast, List.append_nil, hb3] <;> omega) | fail) ?_ | refine And.intro (allU8_bytes _) ?_ | refine And.intro (show elemsP _ _ _ by repeat' (first | exact rfl | exact trivial | constructor)) ?_ | (refine (dictAll_con a hab).mono fun rs bs hr => ?_; subst hr) | (refine (code_con b _ hb hbl).mono fun rs bs hr => ?_; subst hr) | (refine Loops.by (M := M0) 10 noPlan fol (by kernel_rfl) (ι := Nat × List Int) (fun ⟨i, m⟩ => ⟨[(1, AV.d (dictD b)), (5, AV.ref [5] 16 1 0 (m.map iD).length), (11, AV.ref [11] 17 1 0 (a.map D.str).length), (12, AV.d (D.int .i64 a.length)), (13, AV.d (D.int .i64 i))], [([5], 16, AO.row 3 1 (m.map iD)), ([11], 17, AO.row 9 1 (a.map D.str))], 18⟩) (fun ⟨i, m⟩ => i ≤ a.length ∧ m = (a.take i).map (mapI b)) (fun ⟨i, m⟩ => a.length - i) (fun p hI => ?_) ((0, [])) ⟨Nat.zero_le _, rfl⟩ (Forget.mk' ⟨⟨rfl, rfl⟩, ⟨rfl, rfl⟩, ⟨rfl, rfl⟩, ⟨rfl, rfl⟩, ⟨rfl, rfl⟩, trivial⟩ ⟨⟨rfl, rfl, rfl⟩, ⟨rfl, rfl, rfl⟩, trivial⟩ rfl rfl); obtain ⟨i, m⟩ := p; obtain ⟨hi, rfl⟩ := hI; have hml : ((a.take i).map (mapI b)).length ≤ 1000000 := (by simp; omega)) | (refine fun x hx => ?_; (try simp (disch := omega) only [Int.tdiv_eq_ediv_of_nonneg, Int.tmod_eq_emod_of_nonneg, bx, Bool.true_or, Bool.false_or, Bool.or_false, Bool.or_true, Bool.and_true, Bool.true_and, Bool.false_and, Bool.and_false, cond_true, cond_false, if_true, if_false, Bool.false_eq_true, min_nn, max_nn, min_ln, min_nl, max_ln, max_nl, getD_map, str_of_bytes, take_bytes, take_data, wrap_u64, wrap_u32, wrap_u8, shr_i64, shr_u64, shr_u32, shl_i64, shl_u64, Int.reduceToNat, Int.reducePow, Int.pow_succ, Int.pow_zero, Int.one_mul, Int.reduceMul, wrap_id, wrap_u8_nat, wrap_i64_u8, byteD_mk, map_snoc, map_app, set_map, take_map', drop_map', Nat.sub_zero, List.length_map, List.length_append, List.length_cons, List.length_nil, Int.toNat_natCast, List.drop_zero, List.take_succ_cons, List.take_zero, List.take_length, List.nil_append, List.append_nil, Nat.zero_add, toNat_pred, toNat_succ, toNat_addn, toNat_subn, snocI] at hx); subst hx) | rw [List.take_length] | (rw [List.take_of_length_le]; rotate_left; (first | omega | (simp only [dlen, true_and, and_true, Nat.le_refl, List.length_map, List.length_append, List.length_cons, List.length_nil, List.length_take, List.length_drop, List.length_replicate, Int.toNat_natCast, List.append_nil, hb3] <;> omega) | fail)) | refine fun h => ?_ | fail)); all_goals (try exact (AV.dead : AV)); all_goals (try (conv => whnf))
  all_goals first
    | exact ⟨(i + 1, _), ⟨⟨by omega, map_snocI (by omega) (mapI_no (by assumption)).symm⟩, by show a.length - (i + 1) < a.length - i; omega⟩, (Forget.mk' ⟨⟨rfl, rfl⟩, ⟨rfl, rfl⟩, ⟨rfl, rfl⟩, ⟨rfl, rfl⟩, ⟨rfl, rfl⟩, trivial⟩ ⟨⟨rfl, rfl, rfl⟩, ⟨rfl, rfl, rfl⟩, trivial⟩ rfl rfl)⟩
    | exact ⟨(i + 1, _), ⟨⟨by omega, map_snocI (by omega) (mapI_yes (by assumption)).symm⟩, by show a.length - (i + 1) < a.length - i; omega⟩, (Forget.mk' ⟨⟨rfl, rfl⟩, ⟨rfl, rfl⟩, ⟨rfl, rfl⟩, ⟨rfl, rfl⟩, ⟨rfl, rfl⟩, trivial⟩ ⟨⟨rfl, rfl, rfl⟩, ⟨rfl, rfl, rfl⟩, trivial⟩ rfl rfl)⟩
    | (rw [List.take_of_length_le (by omega)]; done)
    | (trace_state; fail)
def M18 : FuncId → List Mode := fun g => if g = 33 then [.own] else if g = 34 then [.own] else []
theorem merge_con (a b : List ByteArray) (ha : a.length ≤ 1000000) (hbl : b.length ≤ 1000000) : Has Try.prog 18 [CV.d (dictD a), CV.d (dictD b)] (fun rs _ => rs = [CV.own 9 1 ((tidy (a ++ b)).map D.str)] ) := by
  have hb9 : Try.prog.bytesOf 9 = 16 := by kernel_rfl
  refine Has_of_run (fn := Try.f18) (M := M18) fol (by kernel_rfl) 6 noPlan [.own] [] (by kernel_rfl) (Nat.le_of_ble_eq_true rfl) ?_
  (repeat' ((conv => whnf); first | done | (refine And.intro (fun h => ?_) (fun h => ?_) <;> (try simp only [Bool.or_eq_true, Bool.and_eq_true, Bool.or_eq_false_iff, Bool.and_eq_false_iff, toNat_pred, toNat_succ, toNat_addn, toNat_subn, decide_eq_true_eq, decide_eq_false_iff_not, Bool.not_eq_true', Bool.not_eq_false', List.length_map, Int.toNat_natCast, Int.not_lt, Int.not_le, Bool.not_eq_true, Bool.false_eq_true, Bool.true_eq_false, Bool.not_true, Bool.not_false, reduceCtorEq, beq_iff_eq, Bool.not_eq_eq_eq_not, bne_iff_ne, ne_eq, decide_not, Decidable.not_not, Classical.not_not, sortS_len] at h)) | exact (rfl : (_ : AV) = _) | exact (rfl : (_ : St) = _) | refine Exists.intro (α := AV) AV.dead (And.intro (fun h => Bool.noConfusion h) ?_) | apply ex_av | (refine fun (h : (_ : Bool) = true) => ?_; have h' := h; (try simp only [Bool.or_eq_true, Bool.and_eq_true, Bool.or_eq_false_iff, Bool.and_eq_false_iff, toNat_pred, toNat_succ, toNat_addn, toNat_subn, decide_eq_true_eq, decide_eq_false_iff_not, Bool.not_eq_true', Bool.not_eq_false', List.length_map, Int.toNat_natCast, Int.not_lt, Int.not_le, Bool.not_eq_true, Bool.false_eq_true, Bool.true_eq_false, Bool.not_true, Bool.not_false, reduceCtorEq, beq_iff_eq, Bool.not_eq_eq_eq_not, bne_iff_ne, ne_eq, decide_not, Decidable.not_not, Classical.not_not, sortS_len] at h')) | (refine And.intro (a := Both _ _ _) ?_ ?_; (refine ⟨fun h => ?_, fun h => ?_⟩ <;> first | rfl | exact h | exact Bool.noConfusion h | (rw [h]; rfl) | (rw [h]; simp only [Bool.not_false, Bool.not_true, Bool.and_true]; assumption) | (simp_all; done) | fail); skip) | refine And.intro rfl ?_ | refine Two.mk ?_ ?_ | refine And.intro (allU8_bytes _) ?_ | (refine And.intro (a := (_ : Bool) = true) ?_ ?_; (first | assumption | exact decide_eq_true (by assumption) | (rw [Bool.not_eq_true']; exact decide_eq_false (by assumption)) | (rw [Bool.not_not]; exact decide_eq_true (by assumption)) | (simp_all; done) | fail); skip) | refine And.intro (Or.inr rfl) ?_ | refine And.intro (Nat.le_of_ble_eq_true rfl) ?_ | refine And.intro (decide_eq_false (by omega)) ?_ | refine And.intro (show Program.stoodInHeld _ _ = _ by kernel_rfl) (And.intro (by kernel_rfl) ?_) | refine And.intro (show Nat.beq _ _ = _ from rfl) (And.intro (by decide) ?_) | refine And.intro ⟨rfl, rfl⟩ ?_ | refine And.intro ⟨rfl, rfl, trivial⟩ ?_ | refine And.intro (Int.natCast_nonneg _) ?_ | refine Or.inl (And.intro rfl (And.intro rfl (And.intro rfl (And.intro rfl ?_)))) | refine Or.inl (And.intro rfl (And.intro rfl ?_)) | refine Or.inr (And.intro (Nat.le_of_ble_eq_true rfl) ?_) | refine Or.inl (And.intro (by unfold in64; omega) ?_) | refine And.intro (by first | omega | (simp only [dlen, true_and, and_true, Nat.le_refl, List.length_map, List.length_append, List.length_cons, List.length_nil, List.length_take, List.length_drop, List.length_replicate, Int.toNat_natCast, List.append_nil, hb9, sortS_len] <;> omega) | fail) ?_ | refine And.intro (allU8_bytes _) ?_ | refine And.intro (show elemsP _ _ _ by repeat' (first | exact rfl | exact trivial | constructor)) ?_ | (refine (dictAll_con a (by omega)).mono fun rs bs hr => ?_; subst hr) | (refine (dictAll_con b (by omega)).mono fun rs bs hr => ?_; subst hr) | (refine (sortS_con _ _ (by simp; omega)).mono fun rs bs hr => ?_; obtain ⟨rfl, rfl⟩ := hr) | (refine (compactS_con _ _).mono fun rs bs hr => ?_; obtain ⟨rfl, rfl⟩ := hr) | (refine fun x hx => ?_; (try simp (disch := omega) only [Int.tdiv_eq_ediv_of_nonneg, Int.tmod_eq_emod_of_nonneg, bx, Bool.true_or, Bool.false_or, Bool.or_false, Bool.or_true, Bool.and_true, Bool.true_and, Bool.false_and, Bool.and_false, cond_true, cond_false, if_true, if_false, Bool.false_eq_true, min_nn, max_nn, min_ln, min_nl, max_ln, max_nl, getD_map, str_of_bytes, take_bytes, take_data, wrap_u64, wrap_u32, wrap_u8, shr_i64, shr_u64, shr_u32, shl_i64, shl_u64, Int.reduceToNat, Int.reducePow, Int.pow_succ, Int.pow_zero, Int.one_mul, Int.reduceMul, wrap_id, wrap_u8_nat, wrap_i64_u8, byteD_mk, map_snoc, map_app, set_map, take_map', drop_map', Nat.sub_zero, List.length_map, List.length_append, List.length_cons, List.length_nil, Int.toNat_natCast, List.drop_zero, List.take_succ_cons, List.take_zero, List.take_length, List.nil_append, List.append_nil, Nat.zero_add, toNat_pred, toNat_succ, toNat_addn, toNat_subn, sortS_len] at hx); subst hx) | rw [List.take_length] | (rw [List.take_of_length_le]; rotate_left; (first | omega | (simp only [dlen, true_and, and_true, Nat.le_refl, List.length_map, List.length_append, List.length_cons, List.length_nil, List.length_take, List.length_drop, List.length_replicate, Int.toNat_natCast, List.append_nil, hb9, sortS_len] <;> omega) | fail)) | refine fun h => ?_ | fail)); all_goals (try exact (AV.dead : AV)); all_goals (try (conv => whnf))
  rfl
end Go.Fw
namespace Go.Fw
open Go Go.Proofs
set_option maxHeartbeats 10000000
set_option maxRecDepth 100000
set_option linter.constructorNameAsVariable false
set_option linter.unusedVariables false
set_option linter.unusedSimpArgs false
def M8 : FuncId → List Mode := fun g => if g = 23 then [.own] else []
theorem dict_con (l : List ByteArray) : Has Try.prog 8 [CV.d (D.sl 1 (l.map D.str))] (fun rs _ => rs = if okD l = true then [CV.d (dictD (tidy l)), CV.d (D.sl 1 ((tidy l).map D.str)), CV.d (D.bool true)] else [CV.d (D.nilp), CV.d (D.sl 1 ([])), CV.d (D.bool false)]) := by
  refine Has_of_run (fn := Try.f8) (M := M8) fol (by kernel_rfl) 7 noPlan [] [] (by kernel_rfl) (Nat.le_of_ble_eq_true rfl) ?_
  (repeat' ((conv => whnf); first | done | (refine And.intro (fun h => ?_) (fun h => ?_) <;> (try simp only [Bool.or_eq_true, Bool.and_eq_true, Bool.or_eq_false_iff, Bool.and_eq_false_iff, toNat_pred, toNat_succ, toNat_addn, toNat_subn, decide_eq_true_eq, decide_eq_false_iff_not, Bool.not_eq_true', Bool.not_eq_false', List.length_map, Int.toNat_natCast, Int.not_lt, Int.not_le, Bool.not_eq_true, Bool.false_eq_true, Bool.true_eq_false, Bool.not_true, Bool.not_false, reduceCtorEq, beq_iff_eq, Bool.not_eq_eq_eq_not, bne_iff_ne, ne_eq, decide_not, Decidable.not_not, Classical.not_not] at h)) | exact (rfl : (_ : AV) = _) | exact (rfl : (_ : St) = _) | refine Exists.intro (α := AV) AV.dead (And.intro (fun h => Bool.noConfusion h) ?_) | apply ex_av | (refine fun (h : (_ : Bool) = true) => ?_; have h' := h; (try simp only [Bool.or_eq_true, Bool.and_eq_true, Bool.or_eq_false_iff, Bool.and_eq_false_iff, toNat_pred, toNat_succ, toNat_addn, toNat_subn, decide_eq_true_eq, decide_eq_false_iff_not, Bool.not_eq_true', Bool.not_eq_false', List.length_map, Int.toNat_natCast, Int.not_lt, Int.not_le, Bool.not_eq_true, Bool.false_eq_true, Bool.true_eq_false, Bool.not_true, Bool.not_false, reduceCtorEq, beq_iff_eq, Bool.not_eq_eq_eq_not, bne_iff_ne, ne_eq, decide_not, Decidable.not_not, Classical.not_not] at h')) | (refine And.intro (a := Both _ _ _) ?_ ?_; (refine ⟨fun h => ?_, fun h => ?_⟩ <;> first | rfl | exact h | exact Bool.noConfusion h | (rw [h]; rfl) | (rw [h]; simp only [Bool.not_false, Bool.not_true, Bool.and_true]; assumption) | (simp_all; done) | fail); skip) | refine And.intro rfl ?_ | refine Two.mk ?_ ?_ | refine And.intro (allU8_bytes _) ?_ | (refine And.intro (a := (_ : Bool) = true) ?_ ?_; (first | assumption | exact decide_eq_true (by assumption) | (rw [Bool.not_eq_true']; exact decide_eq_false (by assumption)) | (rw [Bool.not_not]; exact decide_eq_true (by assumption)) | (simp_all; done) | fail); skip) | refine And.intro (Or.inr rfl) ?_ | refine And.intro (Nat.le_of_ble_eq_true rfl) ?_ | refine And.intro (decide_eq_false (by omega)) ?_ | refine And.intro (show Program.stoodInHeld _ _ = _ by kernel_rfl) (And.intro (by kernel_rfl) ?_) | refine And.intro (show Nat.beq _ _ = _ from rfl) (And.intro (by decide) ?_) | refine And.intro ⟨rfl, rfl⟩ ?_ | refine And.intro ⟨rfl, rfl, trivial⟩ ?_ | refine And.intro (Int.natCast_nonneg _) ?_ | refine Or.inl (And.intro rfl (And.intro rfl (And.intro rfl (And.intro rfl ?_)))) | refine Or.inl (And.intro rfl (And.intro rfl ?_)) | refine Or.inr (And.intro (Nat.le_of_ble_eq_true rfl) ?_) | refine Or.inl (And.intro (by unfold in64; omega) ?_) | refine And.intro (by first | omega | (simp only [dlen, true_and, and_true, Nat.le_refl, List.length_map, List.length_append, List.length_cons, List.length_nil, List.length_take, List.length_drop, List.length_replicate, Int.toNat_natCast, List.append_nil] <;> omega) | fail) ?_ | refine And.intro (allU8_bytes _) ?_ | refine And.intro (show elemsP _ _ _ by repeat' (first | exact rfl | exact trivial | constructor)) ?_ | (refine (few13_con l).mono fun rs bs hr => ?_; subst hr) | ((have hfl := few13_at ‹_›; refine (sorted_con l (by omega) (fun j hj => by have := hfl.2 j hj; omega)).mono fun rs bs hr => ?_; subst hr)) | ((have hts := tidy_sizes (l := l) ‹_›; refine (right13_con (tidy l) 4 (fun j hj => by have := hts j hj; omega)).mono fun rs bs hr => ?_; subst hr)) | ((have hr4 : rightF (tidy l) ((4 : Nat) : Int) = true := ‹_›; have hbl := buildS_len (k := 4) hr4; have hob := open_back (k := 4) hr4; refine (build_con (tidy l) 4 hr4).mono fun rs bs hr => ?_; subst hr)) | (refine (curNew_con _ (by omega)).mono fun rs bs hr => ?_; subst hr) | (refine (open_con _ _ _ (by omega) (Nat.zero_le _)).mono fun rs bs hr => ?_; obtain ⟨rfl, rfl⟩ := hr; simp only [hob]) | (refine (dictLen_con _).mono fun rs bs hr => ?_; subst hr) | (refine fun x hx => ?_; (try simp (disch := omega) only [Int.tdiv_eq_ediv_of_nonneg, Int.tmod_eq_emod_of_nonneg, bx, Bool.true_or, Bool.false_or, Bool.or_false, Bool.or_true, Bool.and_true, Bool.true_and, Bool.false_and, Bool.and_false, cond_true, cond_false, if_true, if_false, Bool.false_eq_true, min_nn, max_nn, min_ln, min_nl, max_ln, max_nl, getD_map, str_of_bytes, take_bytes, take_data, wrap_u64, wrap_u32, wrap_u8, shr_i64, shr_u64, shr_u32, shl_i64, shl_u64, Int.reduceToNat, Int.reducePow, Int.pow_succ, Int.pow_zero, Int.one_mul, Int.reduceMul, wrap_id, wrap_u8_nat, wrap_i64_u8, byteD_mk, map_snoc, map_app, set_map, take_map', drop_map', Nat.sub_zero, List.length_map, List.length_append, List.length_cons, List.length_nil, Int.toNat_natCast, List.drop_zero, List.take_succ_cons, List.take_zero, List.take_length, List.nil_append, List.append_nil, Nat.zero_add, toNat_pred, toNat_succ, toNat_addn, toNat_subn] at hx); subst hx) | rw [List.take_length] | (rw [List.take_of_length_le]; rotate_left; (first | omega | (simp only [dlen, true_and, and_true, Nat.le_refl, List.length_map, List.length_append, List.length_cons, List.length_nil, List.length_take, List.length_drop, List.length_replicate, Int.toNat_natCast, List.append_nil] <;> omega) | fail)) | refine fun h => ?_ | fail)); all_goals (try exact (AV.dead : AV)); all_goals (try (conv => whnf))
  all_goals first
    | (rw [if_neg (by simp [okD, *])]; rfl)
    | (rw [if_pos (by simp [okD, *])]; simp; done)
    | (rw [if_pos (by simp [okD, *])]; rfl)
    | (trace_state; fail)
theorem dict_yes (l : List ByteArray) (h : okD l = true) : Has Try.prog 8 [CV.d (D.sl 1 (l.map D.str))] (fun rs _ => rs = [CV.d (dictD (tidy l)), CV.d (D.sl 1 ((tidy l).map D.str)), CV.d (D.bool true)]) := by
  have := dict_con l
  rwa [if_pos h] at this
theorem dict_no (l : List ByteArray) (h : okD l = false) : Has Try.prog 8 [CV.d (D.sl 1 (l.map D.str))] (fun rs _ => rs = [CV.d D.nilp, CV.d (D.sl 1 []), CV.d (D.bool false)]) := by
  have := dict_con l
  rwa [if_neg (by rw [h]; decide)] at this
end Go.Fw
namespace Go.Fw
open Go
set_option linter.unusedVariables false
set_option linter.unusedSimpArgs false
def sa : ByteArray := ⟨#[97]⟩
def sb : ByteArray := ⟨#[98]⟩
def sab : ByteArray := ⟨#[97, 98]⟩
theorem rises_three : Rises [⟨#[97]⟩, ⟨#[97, 98]⟩, ⟨#[98]⟩] := rises_iff.2 (by simp [slt, Op.bytesLess])
theorem tidy_three : tidy [⟨#[98]⟩, ⟨#[97, 98]⟩, ⟨#[97]⟩] = [⟨#[97]⟩, ⟨#[97, 98]⟩, ⟨#[98]⟩] :=
  rises_unique (tidy_spec _).1 rises_three fun s => by
    rw [(tidy_spec _).2]
    simp only [List.mem_cons, List.not_mem_nil, or_false]
    constructor
    · rintro (h | h | h) <;> simp [h]
    · rintro (h | h | h) <;> simp [h]
theorem tidy_twice : tidy ([⟨#[97]⟩, ⟨#[97, 98]⟩, ⟨#[98]⟩] ++ [⟨#[97]⟩, ⟨#[97, 98]⟩, ⟨#[98]⟩]) = [⟨#[97]⟩, ⟨#[97, 98]⟩, ⟨#[98]⟩] :=
  rises_unique (tidy_spec _).1 rises_three fun s => by
    rw [(tidy_spec _).2, List.mem_append, or_self]
theorem ok_three : okD [⟨#[98]⟩, ⟨#[97, 98]⟩, ⟨#[97]⟩] = true := by
  simp only [okD, tidy_three]
  decide +kernel
 
def atS (t : List ByteArray) (s : ByteArray) : Nat → Int
  | 0 => -1
  | i + 1 => if t.getD i default = s then (i : Int) else atS t s i
theorem pre_range {t : List ByteArray} (hr : Rises t) (s : ByteArray) {i : Nat} (hi : (i : Int) < t.length) : (preS (t.getD i default) s == (decide ((lowN t s : Int) ≤ i) && decide ((i : Int) < ((lowN t s + preN t s : Nat) : Int)))) = true := by
  rw [beq_iff_eq]
  by_cases h : lowN t s ≤ i
  · have h1 := preN_iff hr s (i - lowN t s) (by omega)
    rw [show lowN t s + (i - lowN t s) = i by omega] at h1
    rw [decide_eq_true (show (lowN t s : Int) ≤ i by omega), Bool.true_and]
    cases hp : preS (t.getD i default) s with
    | true => have := h1.1 hp; rw [decide_eq_true (by omega)]
    | false =>
      rw [decide_eq_false]
      intro h2
      have := h1.2 (by omega)
      rw [hp] at this; cases this
  · have h1 := (lowN_iff hr s i (by omega)).2 (by omega)
    rw [decide_eq_false (show ¬ (lowN t s : Int) ≤ i by omega), Bool.false_and]
    cases hp : preS (t.getD i default) s with
    | false => rfl
    | true => rw [preS_less hp] at h1; cases h1
theorem cmp_ltb (a b : ByteArray) : slt a b = decide (cmpS a b < 0) := by
  cases h : slt a b with
  | true => simp [cmpS, h]
  | false =>
    rw [decide_eq_false]
    intro h1
    rw [cmp_lt h1] at h; cases h
theorem cmp_leb (a b : ByteArray) : (!slt b a) = decide (cmpS a b ≤ 0) := by
  by_cases h : cmpS a b ≤ 0
  · rw [decide_eq_true h, cmp_le h]; rfl
  · rw [decide_eq_false h, cmp_gt (by omega)]; rfl
theorem cmp_eq0 {a b : ByteArray} : a = b ↔ cmpS a b = 0 := by
  constructor
  · rintro rfl; simp [cmpS, slt_irrefl]
  · intro h
    refine slt_total ?_ ?_
    · rw [cmp_ltb]; exact decide_eq_false (by omega)
    · have := cmp_leb a b
      rw [decide_eq_true (by omega)] at this
      simpa using this
theorem cnt_take {t : List ByteArray} {i : Nat} (h : (i : Int) < t.length) (p : ByteArray → Bool) : (t.take (i + 1)).countP p = (t.take i).countP p + if p (t.getD i default) then 1 else 0 := by
  rw [take_snoc (by omega), List.countP_append, List.countP_singleton]
theorem cnt_lt {t : List ByteArray} {s : ByteArray} {i a : Nat} (hi : (i : Int) < t.length) (ha : a = (t.take i).countP (fun x => slt x s)) (h : cmpS (t.getD i default) s < 0) : a + 1 = (t.take (i + 1)).countP (fun x => slt x s) := by
  rw [cnt_take hi, ← ha, cmp_ltb, decide_eq_true h]; rfl
theorem cnt_nlt {t : List ByteArray} {s : ByteArray} {i a : Nat} (hi : (i : Int) < t.length) (ha : a = (t.take i).countP (fun x => slt x s)) (h : 0 ≤ cmpS (t.getD i default) s) : a = (t.take (i + 1)).countP (fun x => slt x s) := by
  rw [cnt_take hi, ← ha, cmp_ltb, decide_eq_false (by omega)]; rfl
theorem cnt_le {t : List ByteArray} {s : ByteArray} {i a : Nat} (hi : (i : Int) < t.length) (ha : a = (t.take i).countP (fun x => !slt s x)) (h : cmpS (t.getD i default) s ≤ 0) : a + 1 = (t.take (i + 1)).countP (fun x => !slt s x) := by
  rw [cnt_take hi, ← ha, cmp_leb, decide_eq_true h]; rfl
theorem cnt_nle {t : List ByteArray} {s : ByteArray} {i a : Nat} (hi : (i : Int) < t.length) (ha : a = (t.take i).countP (fun x => !slt s x)) (h : 0 < cmpS (t.getD i default) s) : a = (t.take (i + 1)).countP (fun x => !slt s x) := by
  rw [cnt_take hi, ← ha, cmp_leb, decide_eq_false (by omega)]; rfl
theorem at_eq {t : List ByteArray} {s : ByteArray} {i : Nat} (h : cmpS (t.getD i default) s = 0) : (i : Int) = atS t s (i + 1) := by
  rw [atS, if_pos (cmp_eq0.2 h)]
theorem at_ne {t : List ByteArray} {s : ByteArray} {i : Nat} {m : Int} (hm : m = atS t s i) (h : ¬ cmpS (t.getD i default) s = 0) : m = atS t s (i + 1) := by
  rw [atS, if_neg (fun h1 => h (cmp_eq0.1 h1)), hm]
theorem at_all {t : List ByteArray} (hr : Rises t) (s : ByteArray) : ∀ i, i ≤ t.length → atS t s i = if codeB t s && decide (codeI t s < i) then (codeI t s : Int) else -1
  | 0, _ => by simp [atS]
  | i + 1, h => by
    rw [atS]
    by_cases he : t.getD i default = s
    · subst he
      have hc := code_at hr (show i < t.length by omega)
      rw [if_pos rfl, hc.1, hc.2, decide_eq_true (by omega)]; rfl
    · rw [if_neg he, at_all hr s i (by omega)]
      cases hb : codeB t s with
      | false => rfl
      | true =>
        have hne : codeI t s ≠ i := by
          intro e
          simp only [codeB, Bool.and_eq_true, decide_eq_true_eq] at hb
          have e2 : codeI t s = lowN t s := by rw [codeI, if_pos (by simp only [codeB, Bool.and_eq_true, decide_eq_true_eq]; exact hb)]
          rw [← e, e2] at he
          exact he hb.2
        congr 2
        simp only [Bool.true_and]
        exact decide_eq_decide.2 (by omega)
theorem at_end {t : List ByteArray} (hr : Rises t) (s : ByteArray) {i : Nat} {m : Int} (hi : i ≤ t.length) (h : (t.length : Int) ≤ i) (hm : m = atS t s i) : m = if codeB t s then (codeI t s : Int) else -1 := by
  rw [hm, at_all hr s i hi]
  cases hb : codeB t s with
  | false => rfl
  | true =>
    have e2 : codeI t s = lowN t s := by rw [codeI, hb]; rfl
    simp only [codeB, Bool.and_eq_true, decide_eq_true_eq] at hb
    rw [decide_eq_true (by omega)]; rfl
theorem low_upp {t : List ByteArray} (hr : Rises t) (s : ByteArray) : uppN t s = lowN t s + if codeB t s then 1 else 0 := by
  have hl := lowN_le t s
  have hu := uppN_le t s
  have h1 := lowN_iff hr s
  have h2 := uppN_iff hr s
  have hge : lowN t s ≤ uppN t s := by
    rcases Nat.eq_zero_or_pos (lowN t s) with h0 | h0
    · omega
    · have h3 := (h1 (lowN t s - 1) (by omega)).2 (by omega)
      have h4 := (h2 (lowN t s - 1) (by omega)).1 (by rw [slt_asymm h3]; rfl)
      omega
  cases hb : codeB t s with
  | true =>
    simp only [codeB, Bool.and_eq_true, decide_eq_true_eq] at hb
    have h3 := (h2 (lowN t s) hb.1).1 (by rw [hb.2, slt_irrefl]; rfl)
    have h4 : uppN t s ≤ lowN t s + 1 := by
      rcases Nat.lt_or_ge (lowN t s + 1) (uppN t s) with h | h
      · have h5 := (h2 (lowN t s + 1) (by omega)).2 h
        have h6 := hr (lowN t s) (lowN t s + 1) (by omega) (by omega)
        rw [hb.2] at h6
        rw [h6] at h5
        cases h5
      · exact h
    simp only [if_true]
    omega
  | false =>
    have h4 : uppN t s ≤ lowN t s := by
      rcases Nat.lt_or_ge (lowN t s) (uppN t s) with h | h
      · have h5 := (h2 (lowN t s) (by omega)).2 h
        have h6 : slt (t.getD (lowN t s) default) s = false := by
          cases hc : slt (t.getD (lowN t s) default) s with
          | false => rfl
          | true => have := (h1 (lowN t s) (by omega)).1 hc; omega
        have h7 := slt_total h6 (by simpa using h5)
        rw [codeB, h7, decide_eq_true (by omega)] at hb
        simp at hb
      · exact h
    simp only [Bool.false_eq_true, if_false]
    omega
theorem bounds_ok {t : List ByteArray} (hr : Rises t) (s : ByteArray) {p : Prop}
    (h : (((codeB t s == !decide ((lowN t s : Int) = (uppN t s : Int))) = false ∨ (lowN t s : Int) + 1 < (uppN t s : Int)) ∨ (lowN t s : Int) < 0) ∨ (t.length : Int) < (uppN t s : Int)) : p := by
  have h1 := low_upp hr s
  have h2 := uppN_le t s
  cases hb : codeB t s with
  | true =>
    rw [hb] at h h1
    simp only [if_true] at h1
    rw [decide_eq_false (by omega)] at h
    simp at h
    omega
  | false =>
    rw [hb] at h h1
    simp only [Bool.false_eq_true, if_false, Nat.add_zero] at h1
    rw [decide_eq_true (by omega)] at h
    simp at h
    omega
theorem bound_lt {t : List ByteArray} (hr : Rises t) (s : ByteArray) {i : Nat} (hi : (i : Int) < t.length) : decide (cmpS (t.getD i default) s < 0) = decide ((i : Int) < (lowN t s : Int)) := by
  rw [← cmp_ltb]
  have h := lowN_iff hr s i (by omega)
  cases hc : slt (t.getD i default) s with
  | true => have := h.1 hc; rw [decide_eq_true (by omega)]
  | false =>
    rw [decide_eq_false]
    intro h2
    have := h.2 (by omega)
    rw [hc] at this; cases this
theorem bound_gt {t : List ByteArray} (hr : Rises t) (s : ByteArray) {i : Nat} (hi : (i : Int) < t.length) : decide (0 < cmpS (t.getD i default) s) = decide ((uppN t s : Int) ≤ (i : Int)) := by
  have h := uppN_iff hr s i (by omega)
  rw [cmp_leb] at h
  simp only [decide_eq_true_eq] at h
  exact decide_eq_decide.2 (by omega)
theorem fin27 {t : List ByteArray} {s : ByteArray} {m : Int} (hm : m = if codeB t s then (codeI t s : Int) else -1) :
    (codeB t s == decide (0 ≤ m) && (codeB t s && decide ((codeI t s : Int) = m) || !codeB t s && decide ((codeI t s : Int) = 0))) = true := by
  cases hb : codeB t s with
  | true =>
    rw [hb] at hm
    simp only [if_true] at hm
    rw [hm, decide_eq_true (by omega)]
    simp
  | false =>
    have hz : codeI t s = 0 := by rw [codeI, hb]; rfl
    rw [hb] at hm
    simp only [Bool.false_eq_true, if_false] at hm
    rw [hm, hz]
    rfl
end Go.Fw
namespace Go.Fw
open Go Go.Proofs
set_option maxHeartbeats 10000000
set_option maxRecDepth 100000
set_option linter.constructorNameAsVariable false
set_option linter.unusedVariables false
set_option linter.unusedSimpArgs false
theorem awake14_con : Has Try.prog 9 [] (fun rs _ => rs = [CV.d (D.bool true)]) := by
  refine Has_of_run (fn := Try.f9) (M := M0) fol (by kernel_rfl) 8 noPlan [] [] (by kernel_rfl) (Nat.le_of_ble_eq_true rfl) ?_
  (repeat' ((conv => whnf); first | done | (refine And.intro (fun h => ?_) (fun h => ?_) <;> (try simp only [Bool.or_eq_true, Bool.and_eq_true, Bool.or_eq_false_iff, Bool.and_eq_false_iff, toNat_pred, toNat_succ, toNat_addn, toNat_subn, decide_eq_true_eq, decide_eq_false_iff_not, Bool.not_eq_true', Bool.not_eq_false', List.length_map, Int.toNat_natCast, Int.not_lt, Int.not_le, Bool.not_eq_true, Bool.false_eq_true, Bool.true_eq_false, Bool.not_true, Bool.not_false, reduceCtorEq, beq_iff_eq, Bool.not_eq_eq_eq_not, bne_iff_ne, ne_eq, decide_not, Decidable.not_not, Classical.not_not] at h)) | exact (rfl : (_ : AV) = _) | exact (rfl : (_ : St) = _) | refine Exists.intro (α := AV) AV.dead (And.intro (fun h => Bool.noConfusion h) ?_) | apply ex_av | (refine fun (h : (_ : Bool) = true) => ?_; have h' := h; (try simp only [Bool.or_eq_true, Bool.and_eq_true, Bool.or_eq_false_iff, Bool.and_eq_false_iff, toNat_pred, toNat_succ, toNat_addn, toNat_subn, decide_eq_true_eq, decide_eq_false_iff_not, Bool.not_eq_true', Bool.not_eq_false', List.length_map, Int.toNat_natCast, Int.not_lt, Int.not_le, Bool.not_eq_true, Bool.false_eq_true, Bool.true_eq_false, Bool.not_true, Bool.not_false, reduceCtorEq, beq_iff_eq, Bool.not_eq_eq_eq_not, bne_iff_ne, ne_eq, decide_not, Decidable.not_not, Classical.not_not] at h')) | (refine And.intro (a := Both _ _ _) ?_ ?_; (refine ⟨fun h => ?_, fun h => ?_⟩ <;> first | rfl | exact h | exact Bool.noConfusion h | (rw [h]; rfl) | (rw [h]; simp only [Bool.not_false, Bool.not_true, Bool.and_true]; assumption) | (simp_all; done) | fail); skip) | refine And.intro rfl ?_ | refine Two.mk ?_ ?_ | refine And.intro (allU8_bytes _) ?_ | (refine And.intro (a := (_ : Bool) = true) ?_ ?_; (first | assumption | exact decide_eq_true (by assumption) | (rw [Bool.not_eq_true']; exact decide_eq_false (by assumption)) | (rw [Bool.not_not]; exact decide_eq_true (by assumption)) | (simp_all; done) | fail); skip) | refine And.intro (Or.inr rfl) ?_ | refine And.intro (Nat.le_of_ble_eq_true rfl) ?_ | refine And.intro (decide_eq_false (by omega)) ?_ | refine And.intro (show Program.stoodInHeld _ _ = _ by kernel_rfl) (And.intro (by kernel_rfl) ?_) | refine And.intro (show Nat.beq _ _ = _ from rfl) (And.intro (by decide) ?_) | refine And.intro ⟨rfl, rfl⟩ ?_ | refine And.intro ⟨rfl, rfl, trivial⟩ ?_ | refine And.intro (Int.natCast_nonneg _) ?_ | refine Or.inl (And.intro rfl (And.intro rfl (And.intro rfl (And.intro rfl ?_)))) | refine Or.inl (And.intro rfl (And.intro rfl ?_)) | refine Or.inr (And.intro (Nat.le_of_ble_eq_true rfl) ?_) | refine Or.inl (And.intro (by unfold in64; omega) ?_) | refine And.intro (by first | omega | (simp only [dlen, true_and, and_true, Nat.le_refl, List.length_map, List.length_append, List.length_cons, List.length_nil, List.length_take, List.length_drop, List.length_replicate, Int.toNat_natCast, List.append_nil] <;> omega) | fail) ?_ | refine And.intro (allU8_bytes _) ?_ | refine And.intro (show elemsP _ _ _ by repeat' (first | exact rfl | exact trivial | constructor)) ?_ | (refine (dict_yes [_, _, _] ok_three).mono fun rs bs hr => ?_; rw [tidy_three] at hr; subst hr) | (refine (prefix_con [_, _, _] _ rises_three (by decide)).mono fun rs bs hr => ?_; subst hr) | (refine (code_con [_, _, _] _ rises_three (by decide)).mono fun rs bs hr => ?_; subst hr) | (refine (lower_con [_, _, _] _ rises_three (by decide)).mono fun rs bs hr => ?_; subst hr) | (refine (upper_con [_, _, _] _ rises_three (by decide)).mono fun rs bs hr => ?_; subst hr) | (refine (map_con [_, _, _] [_, _, _] rises_three (by decide) (by decide)).mono fun rs bs hr => ?_; subst hr) | (refine (merge_con [_, _, _] [_, _, _] (by decide) (by decide)).mono fun rs bs hr => ?_; rw [tidy_twice] at hr; subst hr) | (refine fun x hx => ?_; (try simp (disch := omega) only [Int.tdiv_eq_ediv_of_nonneg, Int.tmod_eq_emod_of_nonneg, bx, Bool.true_or, Bool.false_or, Bool.or_false, Bool.or_true, Bool.and_true, Bool.true_and, Bool.false_and, Bool.and_false, cond_true, cond_false, if_true, if_false, Bool.false_eq_true, min_nn, max_nn, min_ln, min_nl, max_ln, max_nl, getD_map, str_of_bytes, take_bytes, take_data, wrap_u64, wrap_u32, wrap_u8, shr_i64, shr_u64, shr_u32, shl_i64, shl_u64, Int.reduceToNat, Int.reducePow, Int.pow_succ, Int.pow_zero, Int.one_mul, Int.reduceMul, wrap_id, wrap_u8_nat, wrap_i64_u8, byteD_mk, map_snoc, map_app, set_map, take_map', drop_map', Nat.sub_zero, List.length_map, List.length_append, List.length_cons, List.length_nil, Int.toNat_natCast, List.drop_zero, List.take_succ_cons, List.take_zero, List.take_length, List.nil_append, List.append_nil, Nat.zero_add, toNat_pred, toNat_succ, toNat_addn, toNat_subn] at hx); subst hx) | rw [List.take_length] | (rw [List.take_of_length_le]; rotate_left; (first | omega | (simp only [dlen, true_and, and_true, Nat.le_refl, List.length_map, List.length_append, List.length_cons, List.length_nil, List.length_take, List.length_drop, List.length_replicate, Int.toNat_natCast, List.append_nil] <;> omega) | fail)) | refine fun h => ?_ | fail)); all_goals (try exact (AV.dead : AV)); all_goals (try (conv => whnf))
  all_goals first
    | exact rb (by decide)
    | (rename_i g; exfalso; exact g (by decide))
    | (rename_i g1 g2 g3; exfalso; revert g1; decide +kernel)
    | (trace_state; fail)
end Go.Fw
namespace Go.Fw
open Go Go.Proofs
set_option maxHeartbeats 10000000
set_option maxRecDepth 100000
set_option linter.constructorNameAsVariable false
set_option linter.unusedVariables false
set_option linter.unusedSimpArgs false
theorem seekCodes_con (l : List ByteArray) (s : ByteArray) : Has Try.prog 3 [CV.d (D.sl 1 (l.map D.str)), CV.d (D.str s)] (fun rs _ => rs = [CV.d (D.bool true)]) := by
  refine Has_of_run (fn := Try.f3) (M := M0) fol (by kernel_rfl) 15 noPlan [] [] (by kernel_rfl) (Nat.le_of_ble_eq_true rfl) ?_
  (repeat' ((conv => whnf); first | done | (refine And.intro (fun h => ?_) (fun h => ?_) <;> (try simp only [Bool.or_eq_true, Bool.and_eq_true, Bool.or_eq_false_iff, Bool.and_eq_false_iff, toNat_pred, toNat_succ, toNat_addn, toNat_subn, decide_eq_true_eq, decide_eq_false_iff_not, Bool.not_eq_true', Bool.not_eq_false', List.length_map, Int.toNat_natCast, Int.not_lt, Int.not_le, Bool.not_eq_true, Bool.false_eq_true, Bool.true_eq_false, Bool.not_true, Bool.not_false, reduceCtorEq, beq_iff_eq, Bool.not_eq_eq_eq_not, bne_iff_ne, ne_eq, decide_not, Decidable.not_not, Classical.not_not] at h)) | exact (rfl : (_ : AV) = _) | exact (rfl : (_ : St) = _) | refine Exists.intro (α := AV) AV.dead (And.intro (fun h => Bool.noConfusion h) ?_) | apply ex_av | (refine fun (h : (_ : Bool) = true) => ?_; have h' := h; (try simp only [Bool.or_eq_true, Bool.and_eq_true, Bool.or_eq_false_iff, Bool.and_eq_false_iff, toNat_pred, toNat_succ, toNat_addn, toNat_subn, decide_eq_true_eq, decide_eq_false_iff_not, Bool.not_eq_true', Bool.not_eq_false', List.length_map, Int.toNat_natCast, Int.not_lt, Int.not_le, Bool.not_eq_true, Bool.false_eq_true, Bool.true_eq_false, Bool.not_true, Bool.not_false, reduceCtorEq, beq_iff_eq, Bool.not_eq_eq_eq_not, bne_iff_ne, ne_eq, decide_not, Decidable.not_not, Classical.not_not] at h')) | (refine And.intro (a := Both _ _ _) ?_ ?_; (refine ⟨fun h => ?_, fun h => ?_⟩ <;> first | rfl | exact h | exact Bool.noConfusion h | (rw [h]; rfl) | (rw [h]; simp only [Bool.not_false, Bool.not_true, Bool.and_true]; assumption) | (simp_all; done) | fail); skip) | refine And.intro rfl ?_ | refine Two.mk ?_ ?_ | refine And.intro (allU8_bytes _) ?_ | (refine And.intro (a := (_ : Bool) = true) ?_ ?_; (first | assumption | exact decide_eq_true (by assumption) | (rw [Bool.not_eq_true']; exact decide_eq_false (by assumption)) | (rw [Bool.not_not]; exact decide_eq_true (by assumption)) | (simp_all; done) | fail); skip) | refine And.intro (Or.inr rfl) ?_ | refine And.intro (Nat.le_of_ble_eq_true rfl) ?_ | refine And.intro (decide_eq_false (by omega)) ?_ | refine And.intro (show Program.stoodInHeld _ _ = _ by kernel_rfl) (And.intro (by kernel_rfl) ?_) | refine And.intro (show Nat.beq _ _ = _ from rfl) (And.intro (by decide) ?_) | refine And.intro ⟨rfl, rfl⟩ ?_ | refine And.intro ⟨rfl, rfl, trivial⟩ ?_ | refine And.intro (Int.natCast_nonneg _) ?_ | refine Or.inl (And.intro rfl (And.intro rfl (And.intro rfl (And.intro rfl ?_)))) | refine Or.inl (And.intro rfl (And.intro rfl ?_)) | refine Or.inr (And.intro (Nat.le_of_ble_eq_true rfl) ?_) | refine Or.inl (And.intro (by unfold in64; omega) ?_) | refine And.intro (by first | omega | (simp only [dlen, true_and, and_true, Nat.le_refl, List.length_map, List.length_append, List.length_cons, List.length_nil, List.length_take, List.length_drop, List.length_replicate, Int.toNat_natCast, List.append_nil] <;> omega) | fail) ?_ | refine And.intro (allU8_bytes _) ?_ | refine And.intro (show elemsP _ _ _ by repeat' (first | exact rfl | exact trivial | constructor)) ?_ | ((rcases Bool.eq_false_or_eq_true (okD l) with hd | hd; all_goals first | (have htl := ok_len hd; have hlo := lowN_le (tidy l) s; have hup := uppN_le (tidy l) s; have hpl := preN_le (tidy l) s; refine (dict_yes l hd).mono fun rs bs hr => ?_; subst hr) | (refine (dict_no l hd).mono fun rs bs hr => ?_; subst hr) | fail)) | (refine (awake14_con).mono fun rs bs hr => ?_; subst hr) | (refine (code_con (tidy l) _ (tidy_rises l) (by have := ok_len hd; omega)).mono fun rs bs hr => ?_; subst hr) | (refine (lower_con (tidy l) _ (tidy_rises l) (by have := ok_len hd; omega)).mono fun rs bs hr => ?_; subst hr) | (refine (upper_con (tidy l) _ (tidy_rises l) (by have := ok_len hd; omega)).mono fun rs bs hr => ?_; subst hr) | (refine (prefix_con (tidy l) _ (tidy_rises l) (by have := ok_len hd; omega)).mono fun rs bs hr => ?_; subst hr) | (refine (compare_con _ _ (by have := ok_sizes hd i (by omega); omega) (by omega)).mono fun rs bs hr => ?_; subst hr) | (refine (hasPre_con _ _).mono fun rs bs hr => ?_; subst hr) | (refine Loops.by (M := M0) 15 noPlan fol (by kernel_rfl) (ι := Nat × Nat × Nat × Int) (fun ⟨i, a, b, m⟩ => ⟨[(1, AV.d (D.str s)), (5, AV.d (dictD (tidy l))), (6, AV.d (D.sl 1 ((tidy l).map D.str))), (8, AV.d (D.int .i64 a)), (9, AV.d (D.int .i64 b)), (10, AV.d (D.int .i64 m)), (11, AV.d (D.int .i64 i))], [], 16⟩) (fun ⟨i, a, b, m⟩ => i ≤ (tidy l).length ∧ a = ((tidy l).take i).countP (fun x => slt x s) ∧ b = ((tidy l).take i).countP (fun x => !slt s x) ∧ m = atS (tidy l) s i) (fun ⟨i, a, b, m⟩ => (tidy l).length - i) (fun p hI => ?_) ((0, 0, 0, -1)) ⟨Nat.zero_le _, rfl, rfl, rfl⟩ (Forget.mk' ⟨⟨rfl, rfl⟩, ⟨rfl, rfl⟩, ⟨rfl, rfl⟩, ⟨rfl, rfl⟩, ⟨rfl, rfl⟩, ⟨rfl, rfl⟩, ⟨rfl, rfl⟩, trivial⟩ trivial rfl rfl); obtain ⟨i, a, b, m⟩ := p; obtain ⟨hi, ha, hb, hm⟩ := hI; have hal : a ≤ i := (by rw [ha]; exact Nat.le_trans List.countP_le_length (by simp; omega)); have hbl : b ≤ i := (by rw [hb]; exact Nat.le_trans List.countP_le_length (by simp; omega))) | (refine fun x hx => ?_; (try simp (disch := omega) only [Int.tdiv_eq_ediv_of_nonneg, Int.tmod_eq_emod_of_nonneg, bx, Bool.true_or, Bool.false_or, Bool.or_false, Bool.or_true, Bool.and_true, Bool.true_and, Bool.false_and, Bool.and_false, cond_true, cond_false, if_true, if_false, Bool.false_eq_true, min_nn, max_nn, min_ln, min_nl, max_ln, max_nl, getD_map, str_of_bytes, take_bytes, take_data, wrap_u64, wrap_u32, wrap_u8, shr_i64, shr_u64, shr_u32, shl_i64, shl_u64, Int.reduceToNat, Int.reducePow, Int.pow_succ, Int.pow_zero, Int.one_mul, Int.reduceMul, wrap_id, wrap_u8_nat, wrap_i64_u8, byteD_mk, map_snoc, map_app, set_map, take_map', drop_map', Nat.sub_zero, List.length_map, List.length_append, List.length_cons, List.length_nil, Int.toNat_natCast, List.drop_zero, List.take_succ_cons, List.take_zero, List.take_length, List.nil_append, List.append_nil, Nat.zero_add, toNat_pred, toNat_succ, toNat_addn, toNat_subn] at hx); subst hx) | rw [List.take_length] | (rw [List.take_of_length_le]; rotate_left; (first | omega | (simp only [dlen, true_and, and_true, Nat.le_refl, List.length_map, List.length_append, List.length_cons, List.length_nil, List.length_take, List.length_drop, List.length_replicate, Int.toNat_natCast, List.append_nil] <;> omega) | fail)) | refine fun h => ?_ | fail)); all_goals (try exact (AV.dead : AV)); all_goals (try (conv => whnf))
  all_goals first
    | (exfalso; omega)
    | (exfalso; exact h.2)
    | exact ⟨(i + 1, a, b, m), ⟨⟨by omega, cnt_nlt ‹_› ha ‹_›, cnt_nle ‹_› hb ‹_›, at_ne hm ‹_›⟩, by show (tidy l).length - (i + 1) < (tidy l).length - i; omega⟩, (Forget.mk' ⟨⟨rfl, rfl⟩, ⟨rfl, rfl⟩, ⟨rfl, rfl⟩, ⟨rfl, rfl⟩, ⟨rfl, rfl⟩, ⟨rfl, rfl⟩, ⟨rfl, rfl⟩, trivial⟩ trivial rfl rfl)⟩
    | exact ⟨(i + 1, a, b, (i : Int)), ⟨⟨by omega, cnt_nlt ‹_› ha ‹_›, cnt_nle ‹_› hb ‹_›, at_eq ‹_›⟩, by show (tidy l).length - (i + 1) < (tidy l).length - i; omega⟩, (Forget.mk' ⟨⟨rfl, rfl⟩, ⟨rfl, rfl⟩, ⟨rfl, rfl⟩, ⟨rfl, rfl⟩, ⟨rfl, rfl⟩, ⟨rfl, rfl⟩, ⟨rfl, rfl⟩, trivial⟩ trivial rfl rfl)⟩
    | exact ⟨(i + 1, a, b + 1, m), ⟨⟨by omega, cnt_nlt ‹_› ha ‹_›, cnt_le ‹_› hb ‹_›, at_ne hm ‹_›⟩, by show (tidy l).length - (i + 1) < (tidy l).length - i; omega⟩, (Forget.mk' ⟨⟨rfl, rfl⟩, ⟨rfl, rfl⟩, ⟨rfl, rfl⟩, ⟨rfl, rfl⟩, ⟨rfl, rfl⟩, ⟨rfl, rfl⟩, ⟨rfl, rfl⟩, trivial⟩ trivial rfl rfl)⟩
    | exact ⟨(i + 1, a, b + 1, (i : Int)), ⟨⟨by omega, cnt_nlt ‹_› ha ‹_›, cnt_le ‹_› hb ‹_›, at_eq ‹_›⟩, by show (tidy l).length - (i + 1) < (tidy l).length - i; omega⟩, (Forget.mk' ⟨⟨rfl, rfl⟩, ⟨rfl, rfl⟩, ⟨rfl, rfl⟩, ⟨rfl, rfl⟩, ⟨rfl, rfl⟩, ⟨rfl, rfl⟩, ⟨rfl, rfl⟩, trivial⟩ trivial rfl rfl)⟩
    | exact ⟨(i + 1, a + 1, b, m), ⟨⟨by omega, cnt_lt ‹_› ha ‹_›, cnt_nle ‹_› hb ‹_›, at_ne hm ‹_›⟩, by show (tidy l).length - (i + 1) < (tidy l).length - i; omega⟩, (Forget.mk' ⟨⟨rfl, rfl⟩, ⟨rfl, rfl⟩, ⟨rfl, rfl⟩, ⟨rfl, rfl⟩, ⟨rfl, rfl⟩, ⟨rfl, rfl⟩, ⟨rfl, rfl⟩, trivial⟩ trivial rfl rfl)⟩
    | exact ⟨(i + 1, a + 1, b, (i : Int)), ⟨⟨by omega, cnt_lt ‹_› ha ‹_›, cnt_nle ‹_› hb ‹_›, at_eq ‹_›⟩, by show (tidy l).length - (i + 1) < (tidy l).length - i; omega⟩, (Forget.mk' ⟨⟨rfl, rfl⟩, ⟨rfl, rfl⟩, ⟨rfl, rfl⟩, ⟨rfl, rfl⟩, ⟨rfl, rfl⟩, ⟨rfl, rfl⟩, ⟨rfl, rfl⟩, trivial⟩ trivial rfl rfl)⟩
    | exact ⟨(i + 1, a + 1, b + 1, m), ⟨⟨by omega, cnt_lt ‹_› ha ‹_›, cnt_le ‹_› hb ‹_›, at_ne hm ‹_›⟩, by show (tidy l).length - (i + 1) < (tidy l).length - i; omega⟩, (Forget.mk' ⟨⟨rfl, rfl⟩, ⟨rfl, rfl⟩, ⟨rfl, rfl⟩, ⟨rfl, rfl⟩, ⟨rfl, rfl⟩, ⟨rfl, rfl⟩, ⟨rfl, rfl⟩, trivial⟩ trivial rfl rfl)⟩
    | exact ⟨(i + 1, a + 1, b + 1, (i : Int)), ⟨⟨by omega, cnt_lt ‹_› ha ‹_›, cnt_le ‹_› hb ‹_›, at_eq ‹_›⟩, by show (tidy l).length - (i + 1) < (tidy l).length - i; omega⟩, (Forget.mk' ⟨⟨rfl, rfl⟩, ⟨rfl, rfl⟩, ⟨rfl, rfl⟩, ⟨rfl, rfl⟩, ⟨rfl, rfl⟩, ⟨rfl, rfl⟩, ⟨rfl, rfl⟩, trivial⟩ trivial rfl rfl)⟩
    | (have hm' := at_end (tidy_rises l) s hi h hm
       have ea : a = lowN (tidy l) s := (by rw [ha, List.take_of_length_le (by omega)]; rfl)
       have eb : b = uppN (tidy l) s := (by rw [hb, List.take_of_length_le (by omega)]; rfl)
       rw [fin27 hm', ea, eb]
       simp; done)
    | (trace_state; fail)
theorem seekCodes_law (xs : List D) (h : HasTs Try.prog Try.f3.params.toList xs) : Has Try.prog 3 (xs.map CV.d) (fun rs _ => rs = [.d (.bool true)]) := by
  obtain ⟨x, y, rfl, h1, h2⟩ := two_args h
  obtain ⟨l, rfl, _, _⟩ := h1.asStrs (e := 9) (by kernel_rfl) (by kernel_rfl) (by kernel_rfl)
  obtain ⟨s, rfl, _⟩ := h2.asStr (by kernel_rfl)
  exact seekCodes_con l s
end Go.Fw
namespace Go.Fw
open Go Go.Proofs
set_option maxHeartbeats 10000000
set_option maxRecDepth 100000
set_option linter.constructorNameAsVariable false
set_option linter.unusedVariables false
set_option linter.unusedSimpArgs false
theorem seekPrefixes_con (l : List ByteArray) (s : ByteArray) : Has Try.prog 4 [CV.d (D.sl 1 (l.map D.str)), CV.d (D.str s)] (fun rs _ => rs = [CV.d (D.bool true)]) := by
  refine Has_of_run (fn := Try.f4) (M := M0) fol (by kernel_rfl) 11 noPlan [] [] (by kernel_rfl) (Nat.le_of_ble_eq_true rfl) ?_
  (repeat' ((conv => whnf); first | done | (refine And.intro (fun h => ?_) (fun h => ?_) <;> (try simp only [Bool.or_eq_true, Bool.and_eq_true, Bool.or_eq_false_iff, Bool.and_eq_false_iff, toNat_pred, toNat_succ, toNat_addn, toNat_subn, decide_eq_true_eq, decide_eq_false_iff_not, Bool.not_eq_true', Bool.not_eq_false', List.length_map, Int.toNat_natCast, Int.not_lt, Int.not_le, Bool.not_eq_true, Bool.false_eq_true, Bool.true_eq_false, Bool.not_true, Bool.not_false, reduceCtorEq, beq_iff_eq, Bool.not_eq_eq_eq_not, bne_iff_ne, ne_eq, decide_not, Decidable.not_not, Classical.not_not] at h)) | exact (rfl : (_ : AV) = _) | exact (rfl : (_ : St) = _) | refine Exists.intro (α := AV) AV.dead (And.intro (fun h => Bool.noConfusion h) ?_) | apply ex_av | (refine fun (h : (_ : Bool) = true) => ?_; have h' := h; (try simp only [Bool.or_eq_true, Bool.and_eq_true, Bool.or_eq_false_iff, Bool.and_eq_false_iff, toNat_pred, toNat_succ, toNat_addn, toNat_subn, decide_eq_true_eq, decide_eq_false_iff_not, Bool.not_eq_true', Bool.not_eq_false', List.length_map, Int.toNat_natCast, Int.not_lt, Int.not_le, Bool.not_eq_true, Bool.false_eq_true, Bool.true_eq_false, Bool.not_true, Bool.not_false, reduceCtorEq, beq_iff_eq, Bool.not_eq_eq_eq_not, bne_iff_ne, ne_eq, decide_not, Decidable.not_not, Classical.not_not] at h')) | (refine And.intro (a := Both _ _ _) ?_ ?_; (refine ⟨fun h => ?_, fun h => ?_⟩ <;> first | rfl | exact h | exact Bool.noConfusion h | (rw [h]; rfl) | (rw [h]; simp only [Bool.not_false, Bool.not_true, Bool.and_true]; assumption) | (simp_all; done) | fail); skip) | refine And.intro rfl ?_ | refine Two.mk ?_ ?_ | refine And.intro (allU8_bytes _) ?_ | (refine And.intro (a := (_ : Bool) = true) ?_ ?_; (first | assumption | exact decide_eq_true (by assumption) | (rw [Bool.not_eq_true']; exact decide_eq_false (by assumption)) | (rw [Bool.not_not]; exact decide_eq_true (by assumption)) | (simp_all; done) | fail); skip) | refine And.intro (Or.inr rfl) ?_ | refine And.intro (Nat.le_of_ble_eq_true rfl) ?_ | refine And.intro (decide_eq_false (by omega)) ?_ | refine And.intro (show Program.stoodInHeld _ _ = _ by kernel_rfl) (And.intro (by kernel_rfl) ?_) | refine And.intro (show Nat.beq _ _ = _ from rfl) (And.intro (by decide) ?_) | refine And.intro ⟨rfl, rfl⟩ ?_ | refine And.intro ⟨rfl, rfl, trivial⟩ ?_ | refine And.intro (Int.natCast_nonneg _) ?_ | refine Or.inl (And.intro rfl (And.intro rfl (And.intro rfl (And.intro rfl ?_)))) | refine Or.inl (And.intro rfl (And.intro rfl ?_)) | refine Or.inr (And.intro (Nat.le_of_ble_eq_true rfl) ?_) | refine Or.inl (And.intro (by unfold in64; omega) ?_) | refine And.intro (by first | omega | (simp only [dlen, true_and, and_true, Nat.le_refl, List.length_map, List.length_append, List.length_cons, List.length_nil, List.length_take, List.length_drop, List.length_replicate, Int.toNat_natCast, List.append_nil] <;> omega) | fail) ?_ | refine And.intro (allU8_bytes _) ?_ | refine And.intro (show elemsP _ _ _ by repeat' (first | exact rfl | exact trivial | constructor)) ?_ | ((rcases Bool.eq_false_or_eq_true (okD l) with hd | hd; all_goals first | (have htl := ok_len hd; have hlo := lowN_le (tidy l) s; have hup := uppN_le (tidy l) s; have hpl := preN_le (tidy l) s; refine (dict_yes l hd).mono fun rs bs hr => ?_; subst hr) | (refine (dict_no l hd).mono fun rs bs hr => ?_; subst hr) | fail)) | (refine (awake14_con).mono fun rs bs hr => ?_; subst hr) | (refine (code_con (tidy l) _ (tidy_rises l) (by have := ok_len hd; omega)).mono fun rs bs hr => ?_; subst hr) | (refine (lower_con (tidy l) _ (tidy_rises l) (by have := ok_len hd; omega)).mono fun rs bs hr => ?_; subst hr) | (refine (upper_con (tidy l) _ (tidy_rises l) (by have := ok_len hd; omega)).mono fun rs bs hr => ?_; subst hr) | (refine (prefix_con (tidy l) _ (tidy_rises l) (by have := ok_len hd; omega)).mono fun rs bs hr => ?_; subst hr) | (refine (compare_con _ _ (by have := ok_sizes hd i (by omega); omega) (by omega)).mono fun rs bs hr => ?_; subst hr) | (refine (hasPre_con _ _).mono fun rs bs hr => ?_; subst hr) | (refine Loops.by (M := M0) 11 noPlan fol (by kernel_rfl) (ι := Nat) (fun i => ⟨[(1, AV.d (D.str s)), (6, AV.d (D.sl 1 ((tidy l).map D.str))), (8, AV.d (D.int .i64 (lowN (tidy l) s))), (9, AV.d (D.int .i64 ((lowN (tidy l) s + preN (tidy l) s : Nat) : Int))), (10, AV.d (D.int .i64 i))], [], 16⟩) (fun i => i ≤ (tidy l).length) (fun i => (tidy l).length - i) (fun i hI => ?_) (0) (Nat.zero_le _) (Forget.mk' ⟨⟨rfl, rfl⟩, ⟨rfl, rfl⟩, ⟨rfl, rfl⟩, ⟨rfl, rfl⟩, ⟨rfl, rfl⟩, trivial⟩ trivial rfl rfl); have hpl' := preN_le (tidy l) s) | (refine fun x hx => ?_; (try simp (disch := omega) only [Int.tdiv_eq_ediv_of_nonneg, Int.tmod_eq_emod_of_nonneg, bx, Bool.true_or, Bool.false_or, Bool.or_false, Bool.or_true, Bool.and_true, Bool.true_and, Bool.false_and, Bool.and_false, cond_true, cond_false, if_true, if_false, Bool.false_eq_true, min_nn, max_nn, min_ln, min_nl, max_ln, max_nl, getD_map, str_of_bytes, take_bytes, take_data, wrap_u64, wrap_u32, wrap_u8, shr_i64, shr_u64, shr_u32, shl_i64, shl_u64, Int.reduceToNat, Int.reducePow, Int.pow_succ, Int.pow_zero, Int.one_mul, Int.reduceMul, wrap_id, wrap_u8_nat, wrap_i64_u8, byteD_mk, map_snoc, map_app, set_map, take_map', drop_map', Nat.sub_zero, List.length_map, List.length_append, List.length_cons, List.length_nil, Int.toNat_natCast, List.drop_zero, List.take_succ_cons, List.take_zero, List.take_length, List.nil_append, List.append_nil, Nat.zero_add, toNat_pred, toNat_succ, toNat_addn, toNat_subn] at hx); subst hx) | rw [List.take_length] | (rw [List.take_of_length_le]; rotate_left; (first | omega | (simp only [dlen, true_and, and_true, Nat.le_refl, List.length_map, List.length_append, List.length_cons, List.length_nil, List.length_take, List.length_drop, List.length_replicate, Int.toNat_natCast, List.append_nil] <;> omega) | fail)) | refine fun h => ?_ | fail)); all_goals (try exact (AV.dead : AV)); all_goals (try (conv => whnf))
  all_goals first
    | (exfalso; exact h.2)
    | (exfalso; simp only [not_true_eq_false, false_or] at h; omega)
    | (exfalso; rw [pre_range (tidy_rises l) s (by assumption)] at h; exact Bool.noConfusion h)
    | exact ⟨i + 1, ⟨by omega, by omega⟩, (Forget.mk' ⟨⟨rfl, rfl⟩, ⟨rfl, rfl⟩, ⟨rfl, rfl⟩, ⟨rfl, rfl⟩, ⟨rfl, rfl⟩, trivial⟩ trivial rfl rfl)⟩
    | (trace_state; fail)
theorem seekPrefixes_law (xs : List D) (h : HasTs Try.prog Try.f4.params.toList xs) : Has Try.prog 4 (xs.map CV.d) (fun rs _ => rs = [.d (.bool true)]) := by
  obtain ⟨x, y, rfl, h1, h2⟩ := two_args h
  obtain ⟨l, rfl, _, _⟩ := h1.asStrs (e := 9) (by kernel_rfl) (by kernel_rfl) (by kernel_rfl)
  obtain ⟨s, rfl, _⟩ := h2.asStr (by kernel_rfl)
  exact seekPrefixes_con l s
end Go.Fw
namespace Go.Fw
open Go Go.Proofs
set_option maxHeartbeats 10000000
set_option maxRecDepth 100000
set_option linter.constructorNameAsVariable false
set_option linter.unusedVariables false
set_option linter.unusedSimpArgs false
theorem seekBounds_con (l : List ByteArray) (s : ByteArray) : Has Try.prog 6 [CV.d (D.sl 1 (l.map D.str)), CV.d (D.str s)] (fun rs _ => rs = [CV.d (D.bool true)]) := by
  refine Has_of_run (fn := Try.f6) (M := M0) fol (by kernel_rfl) 13 noPlan [] [] (by kernel_rfl) (Nat.le_of_ble_eq_true rfl) ?_
  (repeat' ((conv => whnf); first | done | (refine And.intro (fun h => ?_) (fun h => ?_) <;> (try simp only [Bool.or_eq_true, Bool.and_eq_true, Bool.or_eq_false_iff, Bool.and_eq_false_iff, toNat_pred, toNat_succ, toNat_addn, toNat_subn, decide_eq_true_eq, decide_eq_false_iff_not, Bool.not_eq_true', Bool.not_eq_false', List.length_map, Int.toNat_natCast, Int.not_lt, Int.not_le, Bool.not_eq_true, Bool.false_eq_true, Bool.true_eq_false, Bool.not_true, Bool.not_false, reduceCtorEq, beq_iff_eq, Bool.not_eq_eq_eq_not, bne_iff_ne, ne_eq, decide_not, Decidable.not_not, Classical.not_not] at h)) | exact (rfl : (_ : AV) = _) | exact (rfl : (_ : St) = _) | refine Exists.intro (α := AV) AV.dead (And.intro (fun h => Bool.noConfusion h) ?_) | apply ex_av | (refine fun (h : (_ : Bool) = true) => ?_; have h' := h; (try simp only [Bool.or_eq_true, Bool.and_eq_true, Bool.or_eq_false_iff, Bool.and_eq_false_iff, toNat_pred, toNat_succ, toNat_addn, toNat_subn, decide_eq_true_eq, decide_eq_false_iff_not, Bool.not_eq_true', Bool.not_eq_false', List.length_map, Int.toNat_natCast, Int.not_lt, Int.not_le, Bool.not_eq_true, Bool.false_eq_true, Bool.true_eq_false, Bool.not_true, Bool.not_false, reduceCtorEq, beq_iff_eq, Bool.not_eq_eq_eq_not, bne_iff_ne, ne_eq, decide_not, Decidable.not_not, Classical.not_not] at h')) | (refine And.intro (a := Both _ _ _) ?_ ?_; (refine ⟨fun h => ?_, fun h => ?_⟩ <;> first | rfl | exact h | exact Bool.noConfusion h | (rw [h]; rfl) | (rw [h]; simp only [Bool.not_false, Bool.not_true, Bool.and_true]; assumption) | (simp_all; done) | fail); skip) | refine And.intro rfl ?_ | refine Two.mk ?_ ?_ | refine And.intro (allU8_bytes _) ?_ | (refine And.intro (a := (_ : Bool) = true) ?_ ?_; (first | assumption | exact decide_eq_true (by assumption) | (rw [Bool.not_eq_true']; exact decide_eq_false (by assumption)) | (rw [Bool.not_not]; exact decide_eq_true (by assumption)) | (simp_all; done) | fail); skip) | refine And.intro (Or.inr rfl) ?_ | refine And.intro (Nat.le_of_ble_eq_true rfl) ?_ | refine And.intro (decide_eq_false (by omega)) ?_ | refine And.intro (show Program.stoodInHeld _ _ = _ by kernel_rfl) (And.intro (by kernel_rfl) ?_) | refine And.intro (show Nat.beq _ _ = _ from rfl) (And.intro (by decide) ?_) | refine And.intro ⟨rfl, rfl⟩ ?_ | refine And.intro ⟨rfl, rfl, trivial⟩ ?_ | refine And.intro (Int.natCast_nonneg _) ?_ | refine Or.inl (And.intro rfl (And.intro rfl (And.intro rfl (And.intro rfl ?_)))) | refine Or.inl (And.intro rfl (And.intro rfl ?_)) | refine Or.inr (And.intro (Nat.le_of_ble_eq_true rfl) ?_) | refine Or.inl (And.intro (by unfold in64; omega) ?_) | refine And.intro (by first | omega | (simp only [dlen, true_and, and_true, Nat.le_refl, List.length_map, List.length_append, List.length_cons, List.length_nil, List.length_take, List.length_drop, List.length_replicate, Int.toNat_natCast, List.append_nil] <;> omega) | fail) ?_ | refine And.intro (allU8_bytes _) ?_ | refine And.intro (show elemsP _ _ _ by repeat' (first | exact rfl | exact trivial | constructor)) ?_ | ((rcases Bool.eq_false_or_eq_true (okD l) with hd | hd; all_goals first | (have htl := ok_len hd; have hlo := lowN_le (tidy l) s; have hup := uppN_le (tidy l) s; have hpl := preN_le (tidy l) s; refine (dict_yes l hd).mono fun rs bs hr => ?_; subst hr) | (refine (dict_no l hd).mono fun rs bs hr => ?_; subst hr) | fail)) | (refine (awake14_con).mono fun rs bs hr => ?_; subst hr) | (refine (code_con (tidy l) _ (tidy_rises l) (by have := ok_len hd; omega)).mono fun rs bs hr => ?_; subst hr) | (refine (lower_con (tidy l) _ (tidy_rises l) (by have := ok_len hd; omega)).mono fun rs bs hr => ?_; subst hr) | (refine (upper_con (tidy l) _ (tidy_rises l) (by have := ok_len hd; omega)).mono fun rs bs hr => ?_; subst hr) | (refine (prefix_con (tidy l) _ (tidy_rises l) (by have := ok_len hd; omega)).mono fun rs bs hr => ?_; subst hr) | (refine (compare_con _ _ (by have := ok_sizes hd i (by omega); omega) (by omega)).mono fun rs bs hr => ?_; subst hr) | (refine (hasPre_con _ _).mono fun rs bs hr => ?_; subst hr) | (refine Loops.by (M := M0) 13 noPlan fol (by kernel_rfl) (ι := Nat) (fun i => ⟨[(1, AV.d (D.str s)), (6, AV.d (D.sl 1 ((tidy l).map D.str))), (8, AV.d (D.int .i64 (lowN (tidy l) s))), (9, AV.d (D.int .i64 (uppN (tidy l) s))), (12, AV.d (D.int .i64 i))], [], 16⟩) (fun i => i ≤ (tidy l).length) (fun i => (tidy l).length - i) (fun i hI => ?_) (0) (Nat.zero_le _) (Forget.mk' ⟨⟨rfl, rfl⟩, ⟨rfl, rfl⟩, ⟨rfl, rfl⟩, ⟨rfl, rfl⟩, ⟨rfl, rfl⟩, trivial⟩ trivial rfl rfl)) | (refine fun x hx => ?_; (try simp (disch := omega) only [Int.tdiv_eq_ediv_of_nonneg, Int.tmod_eq_emod_of_nonneg, bx, Bool.true_or, Bool.false_or, Bool.or_false, Bool.or_true, Bool.and_true, Bool.true_and, Bool.false_and, Bool.and_false, cond_true, cond_false, if_true, if_false, Bool.false_eq_true, min_nn, max_nn, min_ln, min_nl, max_ln, max_nl, getD_map, str_of_bytes, take_bytes, take_data, wrap_u64, wrap_u32, wrap_u8, shr_i64, shr_u64, shr_u32, shl_i64, shl_u64, Int.reduceToNat, Int.reducePow, Int.pow_succ, Int.pow_zero, Int.one_mul, Int.reduceMul, wrap_id, wrap_u8_nat, wrap_i64_u8, byteD_mk, map_snoc, map_app, set_map, take_map', drop_map', Nat.sub_zero, List.length_map, List.length_append, List.length_cons, List.length_nil, Int.toNat_natCast, List.drop_zero, List.take_succ_cons, List.take_zero, List.take_length, List.nil_append, List.append_nil, Nat.zero_add, toNat_pred, toNat_succ, toNat_addn, toNat_subn] at hx); subst hx) | rw [List.take_length] | (rw [List.take_of_length_le]; rotate_left; (first | omega | (simp only [dlen, true_and, and_true, Nat.le_refl, List.length_map, List.length_append, List.length_cons, List.length_nil, List.length_take, List.length_drop, List.length_replicate, Int.toNat_natCast, List.append_nil] <;> omega) | fail)) | refine fun h => ?_ | fail)); all_goals (try exact (AV.dead : AV)); all_goals (try (conv => whnf))
  all_goals first
    | (exfalso; exact h.2)
    | exact bounds_ok (tidy_rises l) s h
    | (exfalso; rw [bound_lt (tidy_rises l) s (by assumption), bound_gt (tidy_rises l) s (by assumption)] at h; simp at h; done)
    | exact ⟨i + 1, ⟨by omega, by omega⟩, (Forget.mk' ⟨⟨rfl, rfl⟩, ⟨rfl, rfl⟩, ⟨rfl, rfl⟩, ⟨rfl, rfl⟩, ⟨rfl, rfl⟩, trivial⟩ trivial rfl rfl)⟩
    | (trace_state; fail)
theorem seekBounds_law (xs : List D) (h : HasTs Try.prog Try.f6.params.toList xs) : Has Try.prog 6 (xs.map CV.d) (fun rs _ => rs = [.d (.bool true)]) := by
  obtain ⟨x, y, rfl, h1, h2⟩ := two_args h
  obtain ⟨l, rfl, _, _⟩ := h1.asStrs (e := 9) (by kernel_rfl) (by kernel_rfl) (by kernel_rfl)
  obtain ⟨s, rfl, _⟩ := h2.asStr (by kernel_rfl)
  exact seekBounds_con l s
end Go.Fw
namespace Go.Fw
open Go
set_option linter.unusedVariables false
set_option linter.unusedSimpArgs false
 
def fnd (t : List ByteArray) (x : ByteArray) : Nat → Bool
  | 0 => false
  | k + 1 => fnd t x k || decide (t.getD k default = x)
theorem fnd_iff {t : List ByteArray} {x : ByteArray} : ∀ k, k ≤ t.length → (fnd t x k = true ↔ ∃ j, j < k ∧ t.getD j default = x)
  | 0, _ => by simp [fnd]
  | k + 1, h => by
    rw [fnd, Bool.or_eq_true, fnd_iff k (by omega), decide_eq_true_eq]
    constructor
    · rintro (⟨j, hj, he⟩ | he)
      · exact ⟨j, by omega, he⟩
      · exact ⟨k, by omega, he⟩
    · rintro ⟨j, hj, he⟩
      by_cases hjk : j = k
      · subst hjk; exact .inr he
      · exact .inl ⟨j, by omega, he⟩
theorem fnd_all {t : List ByteArray} (hr : Rises t) (x : ByteArray) {k : Nat} (hk : k ≤ t.length) (h : (t.length : Int) ≤ k) : fnd t x k = codeB t x := by
  have e : k = t.length := by omega
  subst e
  rw [Bool.eq_iff_iff, fnd_iff _ (Nat.le_refl _), code_iff hr]
  exact ⟨fun ⟨j, hj, he⟩ => he ▸ getD_memB hj, fun h => mem_getD h⟩
theorem getD_mapI {s t : List ByteArray} {i : Nat} (hi : i < s.length) : (s.map (mapI t)).getD i default = mapI t (s.getD i default) := by
  simp [List.getD_eq_getElem?_getD, hi]
theorem getD_iD {L : List Int} {i : Nat} (hi : i < L.length) : (L.map iD).getD i default = D.int .i64 (L.getD i default) := by
  rw [getD_map iD hi]; rfl
theorem map_facts {s t : List ByteArray} {i : Nat} (hi : (i : Int) < s.length) :
    (s.map (mapI t)).getD i default < t.length ∧ -1 ≤ (s.map (mapI t)).getD i default ∧ (0 ≤ (s.map (mapI t)).getD i default → t.getD ((s.map (mapI t)).getD i default).toNat default = s.getD i default) ∧
      codeB t (s.getD i default) = decide (0 ≤ (s.map (mapI t)).getD i default) := by
  rw [getD_mapI (by omega)]
  cases hb : codeB t (s.getD i default) with
  | true =>
    have e2 : codeI t (s.getD i default) = lowN t (s.getD i default) := by rw [codeI, hb]; rfl
    rw [mapI_yes hb, e2]
    simp only [codeB, Bool.and_eq_true, decide_eq_true_eq] at hb
    refine ⟨by omega, by omega, fun _ => ?_, ?_⟩
    · rw [Int.toNat_natCast]; exact hb.2
    · rw [decide_eq_true (by omega)]
  | false =>
    rw [mapI_no hb]
    refine ⟨by omega, by omega, fun h => absurd h (by omega), ?_⟩
    rw [decide_eq_false (by omega)]
theorem tidy_both (a b : List ByteArray) : tidy (tidy a ++ tidy b) = tidy (a ++ b) :=
  rises_unique (tidy_rises _) (tidy_rises _) fun s => by
    rw [tidy_mem, tidy_mem, List.mem_append, List.mem_append, tidy_mem, tidy_mem]
theorem tidy_dbl (a : List ByteArray) : tidy (tidy a ++ tidy a) = tidy a :=
  rises_unique (tidy_rises _) (tidy_rises _) fun s => by
    rw [tidy_mem, List.mem_append, tidy_mem, or_self]
theorem map_self {t : List ByteArray} (hr : Rises t) {i : Nat} (hi : (i : Int) < t.length) : (t.map (mapI t)).getD i default = (i : Int) := by
  have h := code_at hr (show i < t.length by omega)
  rw [getD_mapI (by omega), mapI_yes h.1, h.2]
theorem slt_empty (a : ByteArray) : slt a ⟨#[]⟩ = false := by
  simp only [slt]
  cases a.data.toList <;> rfl
theorem low_empty (t : List ByteArray) : lowN t ⟨#[]⟩ = 0 := by
  rw [lowN, List.countP_eq_zero]
  intro a _
  rw [slt_empty]; decide
theorem pre_empty (t : List ByteArray) : preN t ⟨#[]⟩ = t.length := by
  rw [preN, low_empty, List.drop_zero, List.countP_eq_length]
  intro a _
  exact preS_iff.2 List.nil_prefix
theorem both_sizes {a b : List ByteArray} (ha : ∀ j, j < a.length → (a.getD j default).size ≤ 5000) (hb : ∀ j, j < b.length → (b.getD j default).size ≤ 5000) : ∀ j, j < (a ++ b).length → ((a ++ b).getD j default).size ≤ 1000000 :=
  sizes_getD fun s hs => by
    rcases List.mem_append.1 hs with h | h
    · have := sizes_mem ha s h; omega
    · have := sizes_mem hb s h; omega
theorem maps_a {s t : List ByteArray} {i : Nat} {p : Prop} (hi : (i : Int) < s.length)
    (h : (t.length : Int) ≤ (s.map (mapI t)).getD i default ∨ 0 ≤ (s.map (mapI t)).getD i default ∧ ¬ t.getD ((s.map (mapI t)).getD i default).toNat default = s.getD i default) : p := by
  have hf := map_facts (t := t) hi
  rcases h with h | ⟨h, h2⟩
  · have := hf.1; omega
  · exact absurd (hf.2.2.1 h) h2
theorem maps_b {s t : List ByteArray} {i k : Nat} {p : Prop} (hr : Rises t) (hi : (i : Int) < s.length) (hk : k ≤ t.length) (hk2 : (t.length : Int) ≤ k)
    (h : (fnd t (s.getD i default) k == decide (0 ≤ (s.map (mapI t)).getD i default)) = false ∨ (s.map (mapI t)).getD i default < -1) : p := by
  have hf := map_facts (t := t) hi
  rw [fnd_all hr _ hk hk2, hf.2.2.2] at h
  rcases h with h | h
  · rw [beq_self_eq_true] at h; cases h
  · have := hf.2.1
    omega
end Go.Fw
