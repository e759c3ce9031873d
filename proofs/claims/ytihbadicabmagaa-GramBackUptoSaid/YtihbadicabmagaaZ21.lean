/- What the proofs of this seat lean on, part 21: a symbolic machine that is shown sound, walks through functions, plain laws. -/
import Derived.Test.YtihbadicabmagaaZ19
import Derived.Test.YtihbadicabmagaaZ18
import Derived.Test.YtihbadicabmagaaZ15
import Derived.Lib.ItoaNum
import Derived.Test.YtihbadicabmagaaZ20
import Derived.Test.YtihbadicabmagaaZ14
namespace Go.Fw
open Go Go.Proofs
set_option maxHeartbeats 10000000
set_option maxRecDepth 100000
set_option linter.constructorNameAsVariable false
set_option linter.unusedVariables false
set_option linter.unusedSimpArgs false
theorem len32_con (x : Nat) (hx : x < 4294967296) : Has Try.prog 79 [CV.d (D.int .u32 (x : Int))] (fun rs _ => rs = [CV.d (D.int .i64 (bl x : Nat))]) := by
  have e : Lib.bitLen x = bl x := by
    by_cases h0 : x = 0
    · subst h0; rfl
    · have h1 := Go.Lib.bitLenAux_bounds 64 x (by omega) h0
      have h2 : bl x ≤ Lib.bitLen x := bl_le.2 h1.2.2
      have h3 : Lib.bitLen x ≤ bl x := Go.Lib.bitLenAux_le 64 x _ (bl_le.1 (Nat.le_refl _))
      omega
  rw [← e]
  exact int_has (fn := Try.f79) (by kernel_rfl) (by kernel_rfl) (by kernel_rfl) .u32 .i64 x _ fun w => Try.bits_Len32 x w (by omega) (by omega)
theorem max_con (l : List Nat) (h0 : 0 < l.length) (hl : l.length ≤ 1000000000) (hx : ∀ x ∈ l, x < 4294967296) : Has Try.prog 86 [CV.d (D.sl 1 (l.map natD))] (fun rs _ => rs = [CV.d (D.int .i64 (maxN l))]) := by
  refine Has_of_run (fn := Try.f86) (M := M0) fol (by kernel_rfl) 5 noPlan [] [] (by kernel_rfl) (Nat.le_of_ble_eq_true rfl) ?_
  (repeat' ((conv => whnf); first | done | (refine And.intro (fun h => ?_) (fun h => ?_) <;> (try simp only [Bool.or_eq_true, Bool.and_eq_true, Bool.or_eq_false_iff, Bool.and_eq_false_iff, toNat_pred, toNat_succ, toNat_addn, toNat_subn, decide_eq_true_eq, decide_eq_false_iff_not, Bool.not_eq_true', Bool.not_eq_false', List.length_map, Int.toNat_natCast, Int.not_lt, Int.not_le, Bool.not_eq_true, Bool.false_eq_true, Bool.true_eq_false, Bool.not_true, Bool.not_false, reduceCtorEq, beq_iff_eq, Bool.not_eq_eq_eq_not, bne_iff_ne, ne_eq, decide_not, Decidable.not_not, Classical.not_not] at h)) | exact (rfl : (_ : AV) = _) | exact (rfl : (_ : St) = _) | refine Exists.intro (α := AV) AV.dead (And.intro (fun h => Bool.noConfusion h) ?_) | apply ex_av | (refine fun (h : (_ : Bool) = true) => ?_; have h' := h; (try simp only [Bool.or_eq_true, Bool.and_eq_true, Bool.or_eq_false_iff, Bool.and_eq_false_iff, toNat_pred, toNat_succ, toNat_addn, toNat_subn, decide_eq_true_eq, decide_eq_false_iff_not, Bool.not_eq_true', Bool.not_eq_false', List.length_map, Int.toNat_natCast, Int.not_lt, Int.not_le, Bool.not_eq_true, Bool.false_eq_true, Bool.true_eq_false, Bool.not_true, Bool.not_false, reduceCtorEq, beq_iff_eq, Bool.not_eq_eq_eq_not, bne_iff_ne, ne_eq, decide_not, Decidable.not_not, Classical.not_not] at h')) | (refine And.intro (a := Both _ _ _) ?_ ?_; (refine ⟨fun h => ?_, fun h => ?_⟩ <;> first | rfl | exact h | exact Bool.noConfusion h | (rw [h]; rfl) | (rw [h]; simp only [Bool.not_false, Bool.not_true, Bool.and_true]; assumption) | (simp_all; done) | fail); skip) | refine And.intro rfl ?_ | refine Two.mk ?_ ?_ | refine And.intro (allU8_bytes _) ?_ | (refine And.intro (a := (_ : Bool) = true) ?_ ?_; (first | assumption | exact decide_eq_true (by assumption) | (rw [Bool.not_eq_true']; exact decide_eq_false (by assumption)) | (rw [Bool.not_not]; exact decide_eq_true (by assumption)) | (simp_all; done) | fail); skip) | refine And.intro (Or.inr rfl) ?_ | refine And.intro (Nat.le_of_ble_eq_true rfl) ?_ | refine And.intro (decide_eq_false (by omega)) ?_ | refine And.intro (show Program.stoodInHeld _ _ = _ by kernel_rfl) (And.intro (by kernel_rfl) ?_) | refine And.intro (show Nat.beq _ _ = _ from rfl) (And.intro (by decide) ?_) | refine And.intro ⟨rfl, rfl⟩ ?_ | refine And.intro ⟨rfl, rfl, trivial⟩ ?_ | refine And.intro (Int.natCast_nonneg _) ?_ | refine Or.inl (And.intro rfl (And.intro rfl (And.intro rfl (And.intro rfl ?_)))) | refine Or.inl (And.intro rfl (And.intro rfl ?_)) | refine Or.inr (And.intro (Nat.le_of_ble_eq_true rfl) ?_) | refine Or.inl (And.intro (by unfold in64; omega) ?_) | refine And.intro (by first | omega | (simp only [dlen, true_and, and_true, Nat.le_refl, List.length_map, List.length_append, List.length_cons, List.length_nil, List.length_take, List.length_drop, List.length_replicate, Int.toNat_natCast, List.append_nil] <;> omega) | fail) ?_ | refine And.intro (allU8_bytes _) ?_ | refine And.intro (show elemsP _ _ _ by repeat' (first | exact rfl | exact trivial | constructor)) ?_ | (refine Loops.by (M := M0) 5 noPlan fol (by kernel_rfl) (ι := Nat × Nat) (fun ⟨k, m⟩ => ⟨[(0, AV.d (D.sl 1 (l.map natD))), (3, AV.d (D.int .i64 m)), (4, AV.d (D.int .i64 k))], [], 16⟩) (fun ⟨k, m⟩ => 1 ≤ k ∧ k ≤ l.length ∧ m = maxN (l.take k)) (fun ⟨k, m⟩ => l.length - k) (fun p hI => ?_) ((1, l.getD 0 default)) ⟨Nat.le_refl _, h0, by rw [maxN_take h0]; simp [maxN]⟩ (Forget.mk' ⟨⟨rfl, rfl⟩, ⟨rfl, rfl⟩, ⟨rfl, rfl⟩, trivial⟩ trivial rfl rfl); obtain ⟨k, m⟩ := p; obtain ⟨h1, h2, rfl⟩ := hI) | (refine fun x hx => ?_; (try simp (disch := omega) only [Int.tdiv_eq_ediv_of_nonneg, Int.tmod_eq_emod_of_nonneg, bx, Bool.true_or, Bool.false_or, Bool.or_false, Bool.or_true, Bool.and_true, Bool.true_and, Bool.false_and, Bool.and_false, cond_true, cond_false, if_true, if_false, Bool.false_eq_true, min_nn, max_nn, min_ln, min_nl, max_ln, max_nl, getD_map, str_of_bytes, take_bytes, take_data, wrap_u64, wrap_u32, wrap_u8, shr_i64, shr_u64, shr_u32, shl_i64, shl_u64, Int.reduceToNat, Int.reducePow, Int.pow_succ, Int.pow_zero, Int.one_mul, Int.reduceMul, wrap_id, wrap_u8_nat, wrap_i64_u8, byteD_mk, map_snoc, map_app, set_map, take_map', drop_map', Nat.sub_zero, List.length_map, List.length_append, List.length_cons, List.length_nil, Int.toNat_natCast, List.drop_zero, List.take_succ_cons, List.take_zero, List.take_length, List.nil_append, List.append_nil, Nat.zero_add, toNat_pred, toNat_succ, toNat_addn, toNat_subn] at hx); subst hx) | rw [List.take_length] | (rw [List.take_of_length_le]; rotate_left; (first | omega | (simp only [dlen, true_and, and_true, Nat.le_refl, List.length_map, List.length_append, List.length_cons, List.length_nil, List.length_take, List.length_drop, List.length_replicate, Int.toNat_natCast, List.append_nil] <;> omega) | fail)) | refine fun h => ?_ | fail)); all_goals (try exact (AV.dead : AV)); all_goals (try (conv => whnf))
  · omega
  · refine ⟨(k + 1, max (maxN (l.take k)) (l.getD k default)), ⟨⟨by omega, by omega, (maxN_take (by omega)).symm⟩, by show l.length - (k + 1) < l.length - k; omega⟩, ?_⟩
    exact (Forget.mk' ⟨⟨rfl, rfl⟩, ⟨rfl, rfl⟩, ⟨rfl, rfl⟩, trivial⟩ trivial rfl rfl)
theorem packWidth_con (l : List Nat) (hl : l.length ≤ 1000000000) (hx : ∀ x ∈ l, x < 4294967296) : Has Try.prog 58 [CV.d (D.sl 1 (l.map natD))] (fun rs _ => rs = [CV.d (D.int .i64 (widN l))] ) := by
  have hm : maxN l ≤ 4294967295 := maxN_le.2 (fun x h9 ↦ Nat.le_of_lt_succ (hx x h9))
  refine Has_of_run (fn := Try.f58) (M := M0) fol (by kernel_rfl) 3 noPlan [] [] (by kernel_rfl) (Nat.le_of_ble_eq_true rfl) ?_
  (repeat' ((conv => whnf); first | done | (refine And.intro (fun h => ?_) (fun h => ?_) <;> (try simp only [Bool.or_eq_true, Bool.and_eq_true, Bool.or_eq_false_iff, Bool.and_eq_false_iff, toNat_pred, toNat_succ, toNat_addn, toNat_subn, decide_eq_true_eq, decide_eq_false_iff_not, Bool.not_eq_true', Bool.not_eq_false', List.length_map, Int.toNat_natCast, Int.not_lt, Int.not_le, Bool.not_eq_true, Bool.false_eq_true, Bool.true_eq_false, Bool.not_true, Bool.not_false, reduceCtorEq, beq_iff_eq, Bool.not_eq_eq_eq_not, bne_iff_ne, ne_eq, decide_not, Decidable.not_not, Classical.not_not] at h)) | exact (rfl : (_ : AV) = _) | exact (rfl : (_ : St) = _) | refine Exists.intro (α := AV) AV.dead (And.intro (fun h => Bool.noConfusion h) ?_) | apply ex_av | (refine fun (h : (_ : Bool) = true) => ?_; have h' := h; (try simp only [Bool.or_eq_true, Bool.and_eq_true, Bool.or_eq_false_iff, Bool.and_eq_false_iff, toNat_pred, toNat_succ, toNat_addn, toNat_subn, decide_eq_true_eq, decide_eq_false_iff_not, Bool.not_eq_true', Bool.not_eq_false', List.length_map, Int.toNat_natCast, Int.not_lt, Int.not_le, Bool.not_eq_true, Bool.false_eq_true, Bool.true_eq_false, Bool.not_true, Bool.not_false, reduceCtorEq, beq_iff_eq, Bool.not_eq_eq_eq_not, bne_iff_ne, ne_eq, decide_not, Decidable.not_not, Classical.not_not] at h')) | (refine And.intro (a := Both _ _ _) ?_ ?_; (refine ⟨fun h => ?_, fun h => ?_⟩ <;> first | rfl | exact h | exact Bool.noConfusion h | (rw [h]; rfl) | (rw [h]; simp only [Bool.not_false, Bool.not_true, Bool.and_true]; assumption) | (simp_all; done) | fail); skip) | refine And.intro rfl ?_ | refine Two.mk ?_ ?_ | refine And.intro (allU8_bytes _) ?_ | (refine And.intro (a := (_ : Bool) = true) ?_ ?_; (first | assumption | exact decide_eq_true (by assumption) | (rw [Bool.not_eq_true']; exact decide_eq_false (by assumption)) | (rw [Bool.not_not]; exact decide_eq_true (by assumption)) | (simp_all; done) | fail); skip) | refine And.intro (Or.inr rfl) ?_ | refine And.intro (Nat.le_of_ble_eq_true rfl) ?_ | refine And.intro (decide_eq_false (by omega)) ?_ | refine And.intro (show Program.stoodInHeld _ _ = _ by kernel_rfl) (And.intro (by kernel_rfl) ?_) | refine And.intro (show Nat.beq _ _ = _ from rfl) (And.intro (by decide) ?_) | refine And.intro ⟨rfl, rfl⟩ ?_ | refine And.intro ⟨rfl, rfl, trivial⟩ ?_ | refine And.intro (Int.natCast_nonneg _) ?_ | refine Or.inl (And.intro rfl (And.intro rfl (And.intro rfl (And.intro rfl ?_)))) | refine Or.inl (And.intro rfl (And.intro rfl ?_)) | refine Or.inr (And.intro (Nat.le_of_ble_eq_true rfl) ?_) | refine Or.inl (And.intro (by unfold in64; omega) ?_) | refine And.intro (by first | omega | (simp only [dlen, true_and, and_true, Nat.le_refl, List.length_map, List.length_append, List.length_cons, List.length_nil, List.length_take, List.length_drop, List.length_replicate, Int.toNat_natCast, List.append_nil] <;> omega) | fail) ?_ | refine And.intro (allU8_bytes _) ?_ | refine And.intro (show elemsP _ _ _ by repeat' (first | exact rfl | exact trivial | constructor)) ?_ | (refine (max_con l (by omega) hl hx).mono fun rs bs hr => ?_; subst hr) | (refine (len32_con _ (by omega)).mono fun rs bs hr => ?_; subst hr) | (refine fun x hx => ?_; (try simp (disch := omega) only [Int.tdiv_eq_ediv_of_nonneg, Int.tmod_eq_emod_of_nonneg, bx, Bool.true_or, Bool.false_or, Bool.or_false, Bool.or_true, Bool.and_true, Bool.true_and, Bool.false_and, Bool.and_false, cond_true, cond_false, if_true, if_false, Bool.false_eq_true, min_nn, max_nn, min_ln, min_nl, max_ln, max_nl, getD_map, str_of_bytes, take_bytes, take_data, wrap_u64, wrap_u32, wrap_u8, shr_i64, shr_u64, shr_u32, shl_i64, shl_u64, Int.reduceToNat, Int.reducePow, Int.pow_succ, Int.pow_zero, Int.one_mul, Int.reduceMul, wrap_id, wrap_u8_nat, wrap_i64_u8, byteD_mk, map_snoc, map_app, set_map, take_map', drop_map', Nat.sub_zero, List.length_map, List.length_append, List.length_cons, List.length_nil, Int.toNat_natCast, List.drop_zero, List.take_succ_cons, List.take_zero, List.take_length, List.nil_append, List.append_nil, Nat.zero_add, toNat_pred, toNat_succ, toNat_addn, toNat_subn] at hx); subst hx) | rw [List.take_length] | (rw [List.take_of_length_le]; rotate_left; (first | omega | (simp only [dlen, true_and, and_true, Nat.le_refl, List.length_map, List.length_append, List.length_cons, List.length_nil, List.length_take, List.length_drop, List.length_replicate, Int.toNat_natCast, List.append_nil] <;> omega) | fail)) | refine fun h => ?_ | fail)); all_goals (try exact (AV.dead : AV)); all_goals (try (conv => whnf))
  · have h0 : l = [] := List.eq_nil_of_length_eq_zero (by omega)
    subst h0; rfl
  · exact ri (by rw [bl_maxN])
end Go.Fw
namespace Go.Fw
open Go
set_option linter.unusedVariables false
set_option linter.unusedSimpArgs false
theorem readP_eq {b : List UInt8} {n r n1 n2 n3 w : Nat} {e many e1 e2 e3 : Int} {c u : List UInt8} (h1 : mostS b n e many = (r, n1, e1)) (h2 : takeB b n1 e1 1 = (c, n2, e2)) (hw : byteOf1 c = (w : Int))
    (h3 : takeB b n2 e2 (sizeP r w : Nat) = (u, n3, e3)) : readP b n e many = if 32 < w then ([], n2, failE e2 3) else if u.length < sizeP r w then ([], n3, e3) else
      if widN ((List.range r).map (getP u w)) = w ∧ putP ((List.range r).map (getP u w)) w = u then ((List.range r).map (getP u w), n3, e3) else ([], n3, failE e3 3) := by
  simp only [readP, h1, h2, hw, Int.toNat_natCast, h3]
theorem getP_lt (b : List UInt8) (w i : Nat) : getP b w i < 2 ^ w := getU_lt b w i w
theorem gets_lt {u : List UInt8} {r w : Nat} : ∀ x ∈ (List.range r).map (getP u w), x < 2 ^ w := fun x hx => by
  obtain ⟨i, _, rfl⟩ := List.mem_map.1 hx
  exact getP_lt u w i
theorem gets_lt32 {u : List UInt8} {r w : Nat} (hw : w ≤ 32) : ∀ x ∈ (List.range r).map (getP u w), x < 4294967296 := fun x hx => by
  have h1 := gets_lt x hx
  have h2 : 2 ^ w ≤ 2 ^ 32 := Nat.pow_le_pow_right (by omega) hw
  omega
theorem gets_len {u : List UInt8} {r w : Nat} : ((List.range r).map (getP u w)).length = r := by simp
theorem gets_snoc {u : List UInt8} {i w : Nat} : (List.range i).map (getP u w) ++ [getP u w i] = (List.range (i + 1)).map (getP u w) := by simp [List.range_succ]
theorem takeB_len (b : List UInt8) (n : Nat) (e k : Int) : (takeB b n e k).1.length ≤ b.length := by
  unfold takeB
  split
  · simp
  · split
    · simp
    · split
      · simp
      · simp only [List.length_take, List.length_drop]; omega
end Go.Fw
namespace Go.Fw
open Go Go.Proofs
set_option maxHeartbeats 10000000
set_option maxRecDepth 100000
set_option linter.constructorNameAsVariable false
set_option linter.unusedVariables false
set_option linter.unusedSimpArgs false
theorem write03_con (l : List Nat) (hl : l.length ≤ 100000) (hx : ∀ x ∈ l, x < 4294967296) : Has Try.prog 44 [CV.d (D.sl 1 (l.map natD))] (fun rs _ => rs = [CV.own 5 1 ((pkW l).map byteD)] ) := by
  have hw : widN l ≤ 32 := widN_w hx; have hq := putN_len 8 l.length (by omega); have hpl := putP_len l (widN l); have hm : l.length * widN l ≤ 3200000 := Nat.mul_le_mul hl hw; have hpz : sizeP l.length (widN l) = (l.length * widN l + 7) / 8 := rfl
  have hb5 : Try.prog.bytesOf 5 = 1 := by kernel_rfl
  refine Has_of_run (fn := Try.f44) (M := M0) fol (by kernel_rfl) 5 noPlan [.own] [] (by kernel_rfl) (Nat.le_of_ble_eq_true rfl) ?_
  (repeat' ((conv => whnf); first | done | (refine And.intro (fun h => ?_) (fun h => ?_) <;> (try simp only [Bool.or_eq_true, Bool.and_eq_true, Bool.or_eq_false_iff, Bool.and_eq_false_iff, toNat_pred, toNat_succ, toNat_addn, toNat_subn, decide_eq_true_eq, decide_eq_false_iff_not, Bool.not_eq_true', Bool.not_eq_false', List.length_map, Int.toNat_natCast, Int.not_lt, Int.not_le, Bool.not_eq_true, Bool.false_eq_true, Bool.true_eq_false, Bool.not_true, Bool.not_false, reduceCtorEq, beq_iff_eq, Bool.not_eq_eq_eq_not, bne_iff_ne, ne_eq, decide_not, Decidable.not_not, Classical.not_not] at h)) | exact (rfl : (_ : AV) = _) | exact (rfl : (_ : St) = _) | refine Exists.intro (α := AV) AV.dead (And.intro (fun h => Bool.noConfusion h) ?_) | apply ex_av | (refine fun (h : (_ : Bool) = true) => ?_; have h' := h; (try simp only [Bool.or_eq_true, Bool.and_eq_true, Bool.or_eq_false_iff, Bool.and_eq_false_iff, toNat_pred, toNat_succ, toNat_addn, toNat_subn, decide_eq_true_eq, decide_eq_false_iff_not, Bool.not_eq_true', Bool.not_eq_false', List.length_map, Int.toNat_natCast, Int.not_lt, Int.not_le, Bool.not_eq_true, Bool.false_eq_true, Bool.true_eq_false, Bool.not_true, Bool.not_false, reduceCtorEq, beq_iff_eq, Bool.not_eq_eq_eq_not, bne_iff_ne, ne_eq, decide_not, Decidable.not_not, Classical.not_not] at h')) | (refine And.intro (a := Both _ _ _) ?_ ?_; (refine ⟨fun h => ?_, fun h => ?_⟩ <;> first | rfl | exact h | exact Bool.noConfusion h | (rw [h]; rfl) | (rw [h]; simp only [Bool.not_false, Bool.not_true, Bool.and_true]; assumption) | (simp_all; done) | fail); skip) | refine And.intro rfl ?_ | refine Two.mk ?_ ?_ | refine And.intro (allU8_bytes _) ?_ | (refine And.intro (a := (_ : Bool) = true) ?_ ?_; (first | assumption | exact decide_eq_true (by assumption) | (rw [Bool.not_eq_true']; exact decide_eq_false (by assumption)) | (rw [Bool.not_not]; exact decide_eq_true (by assumption)) | (simp_all; done) | fail); skip) | refine And.intro (Or.inr rfl) ?_ | refine And.intro (Nat.le_of_ble_eq_true rfl) ?_ | refine And.intro (decide_eq_false (by omega)) ?_ | refine And.intro (show Program.stoodInHeld _ _ = _ by kernel_rfl) (And.intro (by kernel_rfl) ?_) | refine And.intro (show Nat.beq _ _ = _ from rfl) (And.intro (by decide) ?_) | refine And.intro ⟨rfl, rfl⟩ ?_ | refine And.intro ⟨rfl, rfl, trivial⟩ ?_ | refine And.intro (Int.natCast_nonneg _) ?_ | refine Or.inl (And.intro rfl (And.intro rfl (And.intro rfl (And.intro rfl ?_)))) | refine Or.inl (And.intro rfl (And.intro rfl ?_)) | refine Or.inr (And.intro (Nat.le_of_ble_eq_true rfl) ?_) | refine Or.inl (And.intro (by unfold in64; omega) ?_) | refine And.intro (by first | omega | (simp only [dlen, true_and, and_true, Nat.le_refl, List.length_map, List.length_append, List.length_cons, List.length_nil, List.length_take, List.length_drop, List.length_replicate, Int.toNat_natCast, List.append_nil, hb5] <;> omega) | fail) ?_ | refine And.intro (allU8_bytes _) ?_ | refine And.intro (show elemsP _ _ _ by repeat' (first | exact rfl | exact trivial | constructor)) ?_ | (refine (width03_con l (by omega) hx).mono fun rs bs hr => ?_; subst hr) | (refine (put03_con l (widN l) (by omega) hw (fun x h => widN_lt h)).mono fun rs bs hr => ?_; subst hr) | (refine (put01_con l.length (by omega)).mono fun rs bs hr => ?_; subst hr) | (refine fun x hx => ?_; (try simp (disch := omega) only [Int.tdiv_eq_ediv_of_nonneg, Int.tmod_eq_emod_of_nonneg, bx, Bool.true_or, Bool.false_or, Bool.or_false, Bool.or_true, Bool.and_true, Bool.true_and, Bool.false_and, Bool.and_false, cond_true, cond_false, if_true, if_false, Bool.false_eq_true, min_nn, max_nn, min_ln, min_nl, max_ln, max_nl, getD_map, str_of_bytes, take_bytes, take_data, wrap_u64, wrap_u32, wrap_u8, shr_i64, shr_u64, shr_u32, shl_i64, shl_u64, Int.reduceToNat, Int.reducePow, Int.pow_succ, Int.pow_zero, Int.one_mul, Int.reduceMul, wrap_id, wrap_u8_nat, wrap_i64_u8, byteD_mk, map_snoc, map_app, set_map, take_map', drop_map', Nat.sub_zero, List.length_map, List.length_append, List.length_cons, List.length_nil, Int.toNat_natCast, List.drop_zero, List.take_succ_cons, List.take_zero, List.take_length, List.nil_append, List.append_nil, Nat.zero_add, toNat_pred, toNat_succ, toNat_addn, toNat_subn] at hx); subst hx) | rw [List.take_length] | (rw [List.take_of_length_le]; rotate_left; (first | omega | (simp only [dlen, true_and, and_true, Nat.le_refl, List.length_map, List.length_append, List.length_cons, List.length_nil, List.length_take, List.length_drop, List.length_replicate, Int.toNat_natCast, List.append_nil, hb5] <;> omega) | fail)) | refine fun h => ?_ | fail)); all_goals (try exact (AV.dead : AV)); all_goals (try (conv => whnf))
  rw [byte_of (n := widN l) (by omega)]; simp [pkW]
def pl67 : Nat → Plan
  | 6 => tks 0 [0, 0, 0, 1, 0, 0, 0, 1, 0] (.done)
  | _ => .done
theorem equal_con (a b : List UInt8) : Has Try.prog 67 [CV.d (D.sl 1 (a.map byteD)), CV.d (D.sl 1 (b.map byteD))] (fun rs _ => rs = [CV.d (D.bool (decide (a = b)))]) := by
  refine Has_of_run (fn := Try.f67) (M := M0) fol (by kernel_rfl) 6 pl67 [] [] (by kernel_rfl) (Nat.le_of_ble_eq_true rfl) ?_
  (repeat' ((conv => whnf); first | done | (refine And.intro (fun h => ?_) (fun h => ?_) <;> (try simp only [Bool.or_eq_true, Bool.and_eq_true, Bool.or_eq_false_iff, Bool.and_eq_false_iff, toNat_pred, toNat_succ, toNat_addn, toNat_subn, decide_eq_true_eq, decide_eq_false_iff_not, Bool.not_eq_true', Bool.not_eq_false', List.length_map, Int.toNat_natCast, Int.not_lt, Int.not_le, Bool.not_eq_true, Bool.false_eq_true, Bool.true_eq_false, Bool.not_true, Bool.not_false, reduceCtorEq, beq_iff_eq, Bool.not_eq_eq_eq_not, bne_iff_ne, ne_eq, decide_not, Decidable.not_not, Classical.not_not] at h)) | exact (rfl : (_ : AV) = _) | exact (rfl : (_ : St) = _) | refine Exists.intro (α := AV) AV.dead (And.intro (fun h => Bool.noConfusion h) ?_) | apply ex_av | (refine fun (h : (_ : Bool) = true) => ?_; have h' := h; (try simp only [Bool.or_eq_true, Bool.and_eq_true, Bool.or_eq_false_iff, Bool.and_eq_false_iff, toNat_pred, toNat_succ, toNat_addn, toNat_subn, decide_eq_true_eq, decide_eq_false_iff_not, Bool.not_eq_true', Bool.not_eq_false', List.length_map, Int.toNat_natCast, Int.not_lt, Int.not_le, Bool.not_eq_true, Bool.false_eq_true, Bool.true_eq_false, Bool.not_true, Bool.not_false, reduceCtorEq, beq_iff_eq, Bool.not_eq_eq_eq_not, bne_iff_ne, ne_eq, decide_not, Decidable.not_not, Classical.not_not] at h')) | (refine And.intro (a := Both _ _ _) ?_ ?_; (refine ⟨fun h => ?_, fun h => ?_⟩ <;> first | rfl | exact h | exact Bool.noConfusion h | (rw [h]; rfl) | (rw [h]; simp only [Bool.not_false, Bool.not_true, Bool.and_true]; assumption) | (simp_all; done) | fail); skip) | refine And.intro rfl ?_ | refine Two.mk ?_ ?_ | refine And.intro (allU8_bytes _) ?_ | (refine And.intro (a := (_ : Bool) = true) ?_ ?_; (first | assumption | exact decide_eq_true (by assumption) | (rw [Bool.not_eq_true']; exact decide_eq_false (by assumption)) | (rw [Bool.not_not]; exact decide_eq_true (by assumption)) | (simp_all; done) | fail); skip) | refine And.intro (Or.inr rfl) ?_ | refine And.intro (Nat.le_of_ble_eq_true rfl) ?_ | refine And.intro (decide_eq_false (by omega)) ?_ | refine And.intro (show Program.stoodInHeld _ _ = _ by kernel_rfl) (And.intro (by kernel_rfl) ?_) | refine And.intro (show Nat.beq _ _ = _ from rfl) (And.intro (by decide) ?_) | refine And.intro ⟨rfl, rfl⟩ ?_ | refine And.intro ⟨rfl, rfl, trivial⟩ ?_ | refine And.intro (Int.natCast_nonneg _) ?_ | refine Or.inl (And.intro rfl (And.intro rfl (And.intro rfl (And.intro rfl ?_)))) | refine Or.inl (And.intro rfl (And.intro rfl ?_)) | refine Or.inr (And.intro (Nat.le_of_ble_eq_true rfl) ?_) | refine Or.inl (And.intro (by unfold in64; omega) ?_) | refine And.intro (by first | omega | (simp only [dlen, true_and, and_true, Nat.le_refl, List.length_map, List.length_append, List.length_cons, List.length_nil, List.length_take, List.length_drop, List.length_replicate, Int.toNat_natCast, List.append_nil] <;> omega) | fail) ?_ | refine And.intro (allU8_bytes _) ?_ | refine And.intro (show elemsP _ _ _ by repeat' (first | exact rfl | exact trivial | constructor)) ?_ | (refine Loops.by (M := M0) 6 pl67 fol (by kernel_rfl) (ι := Nat) (fun i => ⟨[(0, AV.d (D.sl 1 (a.map byteD))), (1, AV.d (D.sl 1 (b.map byteD))), (12, AV.d (D.int .i64 a.length)), (13, AV.d (D.int .i64 i))], [], 16⟩) (fun i => i ≤ a.length ∧ ∀ j, j < i → a.getD j default = b.getD j default) (fun i => a.length - i) (fun i hI => ?_) (0) ⟨Nat.zero_le _, fun j h => absurd h (Nat.not_lt_zero _)⟩ (Forget.mk' ⟨⟨rfl, rfl⟩, ⟨rfl, rfl⟩, ⟨rfl, rfl⟩, ⟨rfl, rfl⟩, trivial⟩ trivial rfl rfl); obtain ⟨hi, hok⟩ := hI) | (refine fun x hx => ?_; (try simp (disch := omega) only [Int.tdiv_eq_ediv_of_nonneg, Int.tmod_eq_emod_of_nonneg, bx, Bool.true_or, Bool.false_or, Bool.or_false, Bool.or_true, Bool.and_true, Bool.true_and, Bool.false_and, Bool.and_false, cond_true, cond_false, if_true, if_false, Bool.false_eq_true, min_nn, max_nn, min_ln, min_nl, max_ln, max_nl, getD_map, str_of_bytes, take_bytes, take_data, wrap_u64, wrap_u32, wrap_u8, shr_i64, shr_u64, shr_u32, shl_i64, shl_u64, Int.reduceToNat, Int.reducePow, Int.pow_succ, Int.pow_zero, Int.one_mul, Int.reduceMul, wrap_id, wrap_u8_nat, wrap_i64_u8, byteD_mk, map_snoc, map_app, set_map, take_map', drop_map', Nat.sub_zero, List.length_map, List.length_append, List.length_cons, List.length_nil, Int.toNat_natCast, List.drop_zero, List.take_succ_cons, List.take_zero, List.take_length, List.nil_append, List.append_nil, Nat.zero_add, toNat_pred, toNat_succ, toNat_addn, toNat_subn] at hx); subst hx) | rw [List.take_length] | (rw [List.take_of_length_le]; rotate_left; (first | omega | (simp only [dlen, true_and, and_true, Nat.le_refl, List.length_map, List.length_append, List.length_cons, List.length_nil, List.length_take, List.length_drop, List.length_replicate, Int.toNat_natCast, List.append_nil] <;> omega) | fail)) | refine fun h => ?_ | fail)); all_goals (try exact (AV.dead : AV)); all_goals (try (conv => whnf))
  all_goals first
    | exact rb (by rw [decide_eq_false]; rintro rfl; simp_all)
    | exact ⟨i + 1, ⟨⟨by omega, upto_succ hok (UInt8.toNat_inj.1 (by omega))⟩, by omega⟩, (Forget.mk' ⟨⟨rfl, rfl⟩, ⟨rfl, rfl⟩, ⟨rfl, rfl⟩, ⟨rfl, rfl⟩, trivial⟩ trivial rfl rfl)⟩
    | exact rb (by rw [decide_eq_true]; exact ext_getD (by omega) (fun j hj => hok j (by omega)))
    | (trace_state; fail)
end Go.Fw
namespace Go.Fw
open Go
set_option linter.unusedVariables false
set_option linter.unusedSimpArgs false
theorem or128 (m : Nat) : D.int .u8 (bitI .or .u8 ((UInt8.ofNat m).toNat : Int) 128) = byteD (UInt8.ofNat (m % 128 + 128)) := by
  have h : ∀ c : Fin 256, bitI .or .u8 ((c.val : Nat) : Int) 128 = ((c.val % 128 + 128 : Nat) : Int) := by decide +kernel
  have h1 : (UInt8.ofNat m).toNat = m % 256 := by simp
  have h2 := h ⟨m % 256, Nat.mod_lt _ (by omega)⟩
  simp only at h2
  rw [h1, h2, show m % 256 % 128 = m % 128 by omega, byte_of (by omega)]
def bN (l : List Bool) : List Nat := l.map Bool.toNat
theorem bN_len (l : List Bool) : (bN l).length = l.length := by simp [bN]
theorem bitP_bN (l : List Bool) (m : Nat) : bitP (bN l) 1 m = (l.getD m default).toNat := by
  unfold bitP bN
  rw [Nat.div_one, Nat.mod_one, Nat.pow_zero, Nat.div_one]
  rw [List.getD_eq_getElem?_getD, List.getD_eq_getElem?_getD, List.getElem?_map]
  cases l[m]? with
  | none => rfl
  | some b => cases b <;> rfl
 
def bmP (l : List Bool) : List UInt8 := upP (bN l) 1 l.length ((l.length + 7) / 8)
def bmW (l : List Bool) : List UInt8 := putN l.length ++ bmP l
theorem bmP_len (l : List Bool) : (bmP l).length = (l.length + 7) / 8 := upP_len _ _ _ _
theorem bm_set {l : List Bool} {i n : Nat} (hb : l.getD i default = true) (hn : i / 8 < n) :
    ((upP (bN l) 1 i n).map byteD).set ((i : Int) / 8).toNat (D.int .u8 (bitI .or .u8 (((upP (bN l) 1 i n).getD ((i : Int) / 8).toNat default).toNat : Int) (shlI .u8 1 ((i : Int) % 8).toNat))) = (upP (bN l) 1 (i + 1) n).map byteD := by
  have hb' : bitP (bN l) 1 i = 1 := by rw [bitP_bN, hb]; rfl
  have hf := oct_fits (l := bN l) (w := 1) (m := i)
  rw [hb'] at hf
  rw [show ((i : Int) / 8).toNat = i / 8 by omega, show ((i : Int) % 8).toNat = i % 8 by omega, upP_byte hn, shl_lt (by simp [IntKind.bits]; omega)]
  have hp : (1 : Int) * 2 ^ (i % 8) = ((1 * 2 ^ (i % 8) : Nat) : Int) := by push_cast; rfl
  rw [hp, wrap_u8 (by omega) (by omega), bitOr_u8 (octS_low (bitP_le (bN l) 1) _ 8) hf, byte_of hf, set_map]
  congr 1
  have h9 := upP_set (l := bN l) (w := 1) hn
  rwa [hb'] at h9
theorem bm_set2 {l : List Bool} {m n : Nat} (hb : l.getD m default = true) (hn : m / 8 < n) :
    ((upP (bN l) 1 m n).map byteD).set ((m : Int) / 8).toNat (D.int .u8 (IntKind.u8.wrap ((((upP (bN l) 1 m n).getD ((m : Int) / 8).toNat default).toNat : Int) + ((UInt8.ofNat (2 ^ (m % 8))).toNat : Int)))) = (upP (bN l) 1 (m + 1) n).map byteD := by
  have hb' : bitP (bN l) 1 m = 1 := by rw [bitP_bN, hb]; rfl
  have hf := oct_fits (l := bN l) (w := 1) (m := m)
  rw [hb'] at hf
  rw [show ((m : Int) / 8).toNat = m / 8 by omega, upP_byte hn, ofNat_toNat (by omega), wrap_u8 (by omega) (by omega)]
  rw [show ((octS (bitP (bN l) 1) m (m / 8) 8 : Nat) : Int) + ((2 ^ (m % 8) : Nat) : Int) = ((octS (bitP (bN l) 1) m (m / 8) 8 + 1 * 2 ^ (m % 8) : Nat) : Int) by omega, byte_of hf, set_map]
  congr 1
  have h9 := upP_set (l := bN l) (w := 1) hn
  rwa [hb'] at h9
theorem bm_same {l : List Bool} {i n : Nat} (hb : l.getD i default = false) : upP (bN l) 1 i n = upP (bN l) 1 (i + 1) n := upP_same (by rw [bitP_bN, hb]; rfl)
theorem bmP_end {l : List Bool} {i : Nat} (hi : i ≤ l.length) (h : l.length ≤ i) : upP (bN l) 1 i ((i + 7) / 8) = bmP l := by
  rw [show i = l.length by omega]; rfl
theorem bmP_put (l : List Bool) : bmP l = putP (bN l) 1 := by
  unfold bmP putP sizeP
  rw [bN_len, Nat.mul_one]
theorem flat_snoc (ls : List (List UInt8)) (i : Nat) (hi : i < ls.length) : (ls.take i).flatten ++ ls.getD i default = (ls.take (i + 1)).flatten := by
  rw [List.take_succ_eq_append_getElem hi, List.flatten_append, List.getD_eq_getElem?_getD, List.getElem?_eq_getElem hi]
  simp
theorem flat_lenS (ls : List (List UInt8)) (i : Nat) (hi : i < ls.length) : (ls.take i).flatten.length + (ls.getD i default).length = (ls.take (i + 1)).flatten.length := by
  rw [← flat_snoc ls i hi, List.length_append]
theorem flat_len (ls : List (List UInt8)) (i : Nat) : (ls.take i).flatten.length ≤ ls.flatten.length := by
  have h : ls.flatten = (ls.take i).flatten ++ (ls.drop i).flatten := by rw [← List.flatten_append, List.take_append_drop]
  rw [h, List.length_append]
  omega
 
def stepL (zs : List Int) (i : Nat) : List Int := (List.range i).map fun k => zs.getD k default - (if k = 0 then 0 else zs.getD (k - 1) default)
theorem stepL_snoc (zs : List Int) (i : Nat) : stepL zs i ++ [zs.getD i default - (if i = 0 then 0 else zs.getD (i - 1) default)] = stepL zs (i + 1) := by
  simp [stepL, List.range_succ]
def stepN (zs : List Int) : List Nat := (stepL zs zs.length).map Int.toNat
theorem stepL_range {zs : List Int} (hr : Rise zs) (h0 : ∀ x ∈ zs, 0 ≤ x ∧ x ≤ 16777215) (i : Nat) (hi : i ≤ zs.length) : ∀ x ∈ stepL zs i, 0 ≤ x ∧ x ≤ 16777215 := fun x hx => by
  obtain ⟨k, hk, rfl⟩ := List.mem_map.1 hx
  have hk' := List.mem_range.1 hk
  have h1 := h0 _ (getD_mem (t := zs) (show k < zs.length by omega))
  by_cases hz : k = 0
  · simp only [hz, if_true]
    rw [hz] at h1
    omega
  · rw [if_neg hz]
    have h2 := h0 _ (getD_mem (t := zs) (show k - 1 < zs.length by omega))
    have h3 := rise_lt hr (show k - 1 < k by omega) (by omega)
    omega
theorem stepN_int {zs : List Int} (hr : Rise zs) (h0 : ∀ x ∈ zs, 0 ≤ x ∧ x ≤ 16777215) : (stepL zs zs.length).map intD = (stepN zs).map natD := by
  unfold stepN
  rw [List.map_map]
  refine List.map_congr_left fun x hx => ?_
  have := (stepL_range hr h0 _ (Nat.le_refl _) x hx).1
  simp only [Function.comp, natD, intD, Int.toNat_of_nonneg this]
theorem stepN_lt {zs : List Int} (hr : Rise zs) (h0 : ∀ x ∈ zs, 0 ≤ x ∧ x ≤ 16777215) : ∀ n ∈ stepN zs, n < 16777216 := fun n hn => by
  obtain ⟨x, hx, rfl⟩ := List.mem_map.1 hn
  have := stepL_range hr h0 _ (Nat.le_refl _) x hx
  omega
theorem stepN_len (zs : List Int) : (stepN zs).length = zs.length := by simp [stepN, stepL]
theorem stepL_len (zs : List Int) (i : Nat) : (stepL zs i).length = i := by simp [stepL]
 
def filtW (f : Filt) : List UInt8 := if 0 < f.b then putN f.b.toNat ++ bmW f.bs else putN 0 ++ pkW (stepN f.zs)
 
structure FWr (f : Filt) : Prop where
  ok : FOK f
  zl : f.zs.length ≤ 100000
  zr : ∀ x ∈ f.zs, 0 ≤ x ∧ x ≤ 16777215
theorem bmW_len (l : List Bool) : (bmW l).length = (putN l.length).length + (l.length + 7) / 8 := by
  simp [bmW, bmP_len]
def prevZ (zs : List Int) (i : Nat) : Int := if i = 0 then 0 else zs.getD (i - 1) default
theorem prevZ_range {zs : List Int} (h : ∀ x ∈ zs, 0 ≤ x ∧ x ≤ 16777215) (i : Nat) (hi : i ≤ zs.length) : 0 ≤ prevZ zs i ∧ prevZ zs i ≤ 16777215 := by
  unfold prevZ
  split
  · omega
  · exact h _ (getD_mem (by omega))
theorem at_range {zs : List Int} (h : ∀ x ∈ zs, 0 ≤ x ∧ x ≤ 16777215) (i : Nat) (hi : i < zs.length) : 0 ≤ zs.getD i default ∧ zs.getD i default ≤ 16777215 := h _ (getD_mem hi)
theorem prevZ_succ (zs : List Int) (i : Nat) : prevZ zs (i + 1) = zs.getD i default := by simp [prevZ]
theorem stepL_prev (zs : List Int) (i : Nat) : stepL zs i ++ [zs.getD i default - prevZ zs i] = stepL zs (i + 1) := stepL_snoc zs i
theorem pkW_len {l : List Nat} (hl : l.length ≤ 100000) (hx : ∀ x ∈ l, x < 4294967296) : (pkW l).length ≤ 400015 := by
  have hq := putN_len 8 l.length (by omega)
  have hw : widN l ≤ 32 := widN_w hx
  have hm : l.length * widN l ≤ 3200000 := Nat.mul_le_mul hl hw
  have hpl := putP_len l (widN l)
  unfold sizeP at hpl
  simp only [pkW, List.length_append, List.length_cons, hpl]
  omega
end Go.Fw
namespace Go.Fw
open Go Go.Proofs
set_option maxHeartbeats 10000000
set_option maxRecDepth 100000
set_option linter.constructorNameAsVariable false
set_option linter.unusedVariables false
set_option linter.unusedSimpArgs false
theorem curPut_con (n : Nat) (hn : n < 9223372036854775808) : Has Try.prog 38 [CV.d (D.int .i64 n)] (fun rs _ => rs = [CV.own 5 1 ((putN n).map byteD)] ) := by
  have hpl := putN_len 9 n (by omega)
  have hb5 : Try.prog.bytesOf 5 = 1 := by kernel_rfl
  refine Has_of_run (fn := Try.f38) (M := M0) fol (by kernel_rfl) 4 noPlan [.own] [] (by kernel_rfl) (Nat.le_of_ble_eq_true rfl) ?_
  (repeat' ((conv => whnf); first | done | (refine And.intro (fun h => ?_) (fun h => ?_) <;> (try simp only [Bool.or_eq_true, Bool.and_eq_true, Bool.or_eq_false_iff, Bool.and_eq_false_iff, toNat_pred, toNat_succ, toNat_addn, toNat_subn, decide_eq_true_eq, decide_eq_false_iff_not, Bool.not_eq_true', Bool.not_eq_false', List.length_map, Int.toNat_natCast, Int.not_lt, Int.not_le, Bool.not_eq_true, Bool.false_eq_true, Bool.true_eq_false, Bool.not_true, Bool.not_false, reduceCtorEq, beq_iff_eq, Bool.not_eq_eq_eq_not, bne_iff_ne, ne_eq, decide_not, Decidable.not_not, Classical.not_not] at h)) | exact (rfl : (_ : AV) = _) | exact (rfl : (_ : St) = _) | refine Exists.intro (α := AV) AV.dead (And.intro (fun h => Bool.noConfusion h) ?_) | apply ex_av | (refine fun (h : (_ : Bool) = true) => ?_; have h' := h; (try simp only [Bool.or_eq_true, Bool.and_eq_true, Bool.or_eq_false_iff, Bool.and_eq_false_iff, toNat_pred, toNat_succ, toNat_addn, toNat_subn, decide_eq_true_eq, decide_eq_false_iff_not, Bool.not_eq_true', Bool.not_eq_false', List.length_map, Int.toNat_natCast, Int.not_lt, Int.not_le, Bool.not_eq_true, Bool.false_eq_true, Bool.true_eq_false, Bool.not_true, Bool.not_false, reduceCtorEq, beq_iff_eq, Bool.not_eq_eq_eq_not, bne_iff_ne, ne_eq, decide_not, Decidable.not_not, Classical.not_not] at h')) | (refine And.intro (a := Both _ _ _) ?_ ?_; (refine ⟨fun h => ?_, fun h => ?_⟩ <;> first | rfl | exact h | exact Bool.noConfusion h | (rw [h]; rfl) | (rw [h]; simp only [Bool.not_false, Bool.not_true, Bool.and_true]; assumption) | (simp_all; done) | fail); skip) | refine And.intro rfl ?_ | refine Two.mk ?_ ?_ | refine And.intro (allU8_bytes _) ?_ | (refine And.intro (a := (_ : Bool) = true) ?_ ?_; (first | assumption | exact decide_eq_true (by assumption) | (rw [Bool.not_eq_true']; exact decide_eq_false (by assumption)) | (rw [Bool.not_not]; exact decide_eq_true (by assumption)) | (simp_all; done) | fail); skip) | refine And.intro (Or.inr rfl) ?_ | refine And.intro (Nat.le_of_ble_eq_true rfl) ?_ | refine And.intro (decide_eq_false (by omega)) ?_ | refine And.intro (show Program.stoodInHeld _ _ = _ by kernel_rfl) (And.intro (by kernel_rfl) ?_) | refine And.intro (show Nat.beq _ _ = _ from rfl) (And.intro (by decide) ?_) | refine And.intro ⟨rfl, rfl⟩ ?_ | refine And.intro ⟨rfl, rfl, trivial⟩ ?_ | refine And.intro (Int.natCast_nonneg _) ?_ | refine Or.inl (And.intro rfl (And.intro rfl (And.intro rfl (And.intro rfl ?_)))) | refine Or.inl (And.intro rfl (And.intro rfl ?_)) | refine Or.inr (And.intro (Nat.le_of_ble_eq_true rfl) ?_) | refine Or.inl (And.intro (by unfold in64; omega) ?_) | refine And.intro (by first | omega | (simp only [dlen, true_and, and_true, Nat.le_refl, List.length_map, List.length_append, List.length_cons, List.length_nil, List.length_take, List.length_drop, List.length_replicate, Int.toNat_natCast, List.append_nil, hb5] <;> omega) | fail) ?_ | refine And.intro (allU8_bytes _) ?_ | refine And.intro (show elemsP _ _ _ by repeat' (first | exact rfl | exact trivial | constructor)) ?_ | (refine Loops.by (M := M0) 4 noPlan fol (by kernel_rfl) (ι := Nat × List UInt8) (fun ⟨m, a⟩ => ⟨[(0, AV.d (D.int .i64 m)), (3, AV.ref [3] 16 1 0 (a.map byteD).length)], [([3], 16, AO.row 5 1 (a.map byteD))], 17⟩) (fun ⟨m, a⟩ => a ++ putN m = putN n ∧ m ≤ n) (fun ⟨m, a⟩ => m) (fun p hI => ?_) ((n, [])) ⟨rfl, Nat.le_refl _⟩ (Forget.mk' ⟨⟨rfl, rfl⟩, ⟨rfl, rfl⟩, trivial⟩ ⟨⟨rfl, rfl, rfl⟩, trivial⟩ rfl rfl); obtain ⟨m, a⟩ := p; obtain ⟨ha, hm⟩ := hI; have hal := congrArg List.length ha; rw [List.length_append] at hal) | (refine fun x hx => ?_; (try simp (disch := omega) only [Int.tdiv_eq_ediv_of_nonneg, Int.tmod_eq_emod_of_nonneg, bx, Bool.true_or, Bool.false_or, Bool.or_false, Bool.or_true, Bool.and_true, Bool.true_and, Bool.false_and, Bool.and_false, cond_true, cond_false, if_true, if_false, Bool.false_eq_true, min_nn, max_nn, min_ln, min_nl, max_ln, max_nl, getD_map, str_of_bytes, take_bytes, take_data, wrap_u64, wrap_u32, wrap_u8, shr_i64, shr_u64, shr_u32, shl_i64, shl_u64, Int.reduceToNat, Int.reducePow, Int.pow_succ, Int.pow_zero, Int.one_mul, Int.reduceMul, wrap_id, wrap_u8_nat, wrap_i64_u8, byteD_mk, map_snoc, map_app, set_map, take_map', drop_map', Nat.sub_zero, List.length_map, List.length_append, List.length_cons, List.length_nil, Int.toNat_natCast, List.drop_zero, List.take_succ_cons, List.take_zero, List.take_length, List.nil_append, List.append_nil, Nat.zero_add, toNat_pred, toNat_succ, toNat_addn, toNat_subn, or128] at hx); subst hx) | rw [List.take_length] | (rw [List.take_of_length_le]; rotate_left; (first | omega | (simp only [dlen, true_and, and_true, Nat.le_refl, List.length_map, List.length_append, List.length_cons, List.length_nil, List.length_take, List.length_drop, List.length_replicate, Int.toNat_natCast, List.append_nil, hb5] <;> omega) | fail)) | refine fun h => ?_ | fail)); all_goals (try exact (AV.dead : AV)); all_goals (try (conv => whnf))
  all_goals first
    | (exfalso; omega)
    | (rw [show (m : Int) / 128 = ((m / 128 : Nat) : Int) by omega]
       exact ⟨(m / 128, _), ⟨⟨by rw [← ha, putN_ge (n := m) (by omega), List.append_assoc]; rfl, by omega⟩, by show m / 128 < m; omega⟩, (Forget.mk' ⟨⟨rfl, rfl⟩, ⟨rfl, rfl⟩, trivial⟩ ⟨⟨rfl, rfl, rfl⟩, trivial⟩ rfl rfl)⟩)
    | (rw [← ha, putN_lt (n := m) (by omega), byte_of (by omega)]; simp; done)
    | fail
theorem grow_con (n : Nat) (hn : n ≤ 1000000000) : Has Try.prog 87 [CV.nils, CV.d (D.int .i64 n)] (fun rs _ => rs = [CV.own 5 1 ([])] ) := by
  have hb5 : Try.prog.bytesOf 5 = 1 := by kernel_rfl
  refine Has_of_run (fn := Try.f87) (M := M0) fol (by kernel_rfl) 5 noPlan [.own] [] (by kernel_rfl) (Nat.le_of_ble_eq_true rfl) ?_
  (repeat' ((conv => whnf); first | done | (refine And.intro (fun h => ?_) (fun h => ?_) <;> (try simp only [Bool.or_eq_true, Bool.and_eq_true, Bool.or_eq_false_iff, Bool.and_eq_false_iff, toNat_pred, toNat_succ, toNat_addn, toNat_subn, decide_eq_true_eq, decide_eq_false_iff_not, Bool.not_eq_true', Bool.not_eq_false', List.length_map, Int.toNat_natCast, Int.not_lt, Int.not_le, Bool.not_eq_true, Bool.false_eq_true, Bool.true_eq_false, Bool.not_true, Bool.not_false, reduceCtorEq, beq_iff_eq, Bool.not_eq_eq_eq_not, bne_iff_ne, ne_eq, decide_not, Decidable.not_not, Classical.not_not] at h)) | exact (rfl : (_ : AV) = _) | exact (rfl : (_ : St) = _) | refine Exists.intro (α := AV) AV.dead (And.intro (fun h => Bool.noConfusion h) ?_) | apply ex_av | (refine fun (h : (_ : Bool) = true) => ?_; have h' := h; (try simp only [Bool.or_eq_true, Bool.and_eq_true, Bool.or_eq_false_iff, Bool.and_eq_false_iff, toNat_pred, toNat_succ, toNat_addn, toNat_subn, decide_eq_true_eq, decide_eq_false_iff_not, Bool.not_eq_true', Bool.not_eq_false', List.length_map, Int.toNat_natCast, Int.not_lt, Int.not_le, Bool.not_eq_true, Bool.false_eq_true, Bool.true_eq_false, Bool.not_true, Bool.not_false, reduceCtorEq, beq_iff_eq, Bool.not_eq_eq_eq_not, bne_iff_ne, ne_eq, decide_not, Decidable.not_not, Classical.not_not] at h')) | (refine And.intro (a := Both _ _ _) ?_ ?_; (refine ⟨fun h => ?_, fun h => ?_⟩ <;> first | rfl | exact h | exact Bool.noConfusion h | (rw [h]; rfl) | (rw [h]; simp only [Bool.not_false, Bool.not_true, Bool.and_true]; assumption) | (simp_all; done) | fail); skip) | refine And.intro rfl ?_ | refine Two.mk ?_ ?_ | refine And.intro (allU8_bytes _) ?_ | (refine And.intro (a := (_ : Bool) = true) ?_ ?_; (first | assumption | exact decide_eq_true (by assumption) | (rw [Bool.not_eq_true']; exact decide_eq_false (by assumption)) | (rw [Bool.not_not]; exact decide_eq_true (by assumption)) | (simp_all; done) | fail); skip) | refine And.intro (Or.inr rfl) ?_ | refine And.intro (Nat.le_of_ble_eq_true rfl) ?_ | refine And.intro (decide_eq_false (by omega)) ?_ | refine And.intro (show Program.stoodInHeld _ _ = _ by kernel_rfl) (And.intro (by kernel_rfl) ?_) | refine And.intro (show Nat.beq _ _ = _ from rfl) (And.intro (by decide) ?_) | refine And.intro ⟨rfl, rfl⟩ ?_ | refine And.intro ⟨rfl, rfl, trivial⟩ ?_ | refine And.intro (Int.natCast_nonneg _) ?_ | refine Or.inl (And.intro rfl (And.intro rfl (And.intro rfl (And.intro rfl ?_)))) | refine Or.inl (And.intro rfl (And.intro rfl ?_)) | refine Or.inr (And.intro (Nat.le_of_ble_eq_true rfl) ?_) | refine Or.inl (And.intro (by unfold in64; omega) ?_) | refine And.intro (by first | omega | (simp only [dlen, true_and, and_true, Nat.le_refl, List.length_map, List.length_append, List.length_cons, List.length_nil, List.length_take, List.length_drop, List.length_replicate, Int.toNat_natCast, List.append_nil, hb5] <;> omega) | fail) ?_ | refine And.intro (allU8_bytes _) ?_ | refine And.intro (show elemsP _ _ _ by repeat' (first | exact rfl | exact trivial | constructor)) ?_ | (refine fun x hx => ?_; (try simp (disch := omega) only [Int.tdiv_eq_ediv_of_nonneg, Int.tmod_eq_emod_of_nonneg, bx, Bool.true_or, Bool.false_or, Bool.or_false, Bool.or_true, Bool.and_true, Bool.true_and, Bool.false_and, Bool.and_false, cond_true, cond_false, if_true, if_false, Bool.false_eq_true, min_nn, max_nn, min_ln, min_nl, max_ln, max_nl, getD_map, str_of_bytes, take_bytes, take_data, wrap_u64, wrap_u32, wrap_u8, shr_i64, shr_u64, shr_u32, shl_i64, shl_u64, Int.reduceToNat, Int.reducePow, Int.pow_succ, Int.pow_zero, Int.one_mul, Int.reduceMul, wrap_id, wrap_u8_nat, wrap_i64_u8, byteD_mk, map_snoc, map_app, set_map, take_map', drop_map', Nat.sub_zero, List.length_map, List.length_append, List.length_cons, List.length_nil, Int.toNat_natCast, List.drop_zero, List.take_succ_cons, List.take_zero, List.take_length, List.nil_append, List.append_nil, Nat.zero_add, toNat_pred, toNat_succ, toNat_addn, toNat_subn] at hx); subst hx) | rw [List.take_length] | (rw [List.take_of_length_le]; rotate_left; (first | omega | (simp only [dlen, true_and, and_true, Nat.le_refl, List.length_map, List.length_append, List.length_cons, List.length_nil, List.length_take, List.length_drop, List.length_replicate, Int.toNat_natCast, List.append_nil, hb5] <;> omega) | fail)) | refine fun h => ?_ | fail)); all_goals (try exact (AV.dead : AV)); all_goals (try (conv => whnf))
  all_goals first
    | (exfalso; omega)
    | rfl
    | fail
theorem grow_own (n : Nat) (hn : n ≤ 1000000000) : Has Try.prog 87 [.nils, .d (.int .i64 n)] (fun rs bs => rs = [.own 5 1 []] ∧ bs = [.gone, .gone]) :=
  (grow_con n hn).gone.mono fun rs bs ⟨⟨az, h1⟩, h2⟩ => ⟨h1, h2⟩
def M60 : FuncId → List Mode := fun g => if g = 87 then [.own] else []
theorem concat_con (ls : List (List UInt8)) (hl : ls.length ≤ 1000000) (ht : ls.flatten.length ≤ 1000000000) : Has Try.prog 60 [CV.d (D.sl 1 (ls.map fun l => D.sl 1 (l.map byteD)))] (fun rs _ => rs = [CV.own 5 1 (ls.flatten.map byteD)] ) := by
  have hb5 : Try.prog.bytesOf 5 = 1 := by kernel_rfl
  refine Has_of_run (fn := Try.f60) (M := M60) fol (by kernel_rfl) 9 noPlan [.own] [] (by kernel_rfl) (Nat.le_of_ble_eq_true rfl) ?_
  (repeat' ((conv => whnf); first | done | (refine And.intro (fun h => ?_) (fun h => ?_) <;> (try simp only [Bool.or_eq_true, Bool.and_eq_true, Bool.or_eq_false_iff, Bool.and_eq_false_iff, toNat_pred, toNat_succ, toNat_addn, toNat_subn, decide_eq_true_eq, decide_eq_false_iff_not, Bool.not_eq_true', Bool.not_eq_false', List.length_map, Int.toNat_natCast, Int.not_lt, Int.not_le, Bool.not_eq_true, Bool.false_eq_true, Bool.true_eq_false, Bool.not_true, Bool.not_false, reduceCtorEq, beq_iff_eq, Bool.not_eq_eq_eq_not, bne_iff_ne, ne_eq, decide_not, Decidable.not_not, Classical.not_not] at h)) | exact (rfl : (_ : AV) = _) | exact (rfl : (_ : St) = _) | refine Exists.intro (α := AV) AV.dead (And.intro (fun h => Bool.noConfusion h) ?_) | apply ex_av | (refine fun (h : (_ : Bool) = true) => ?_; have h' := h; (try simp only [Bool.or_eq_true, Bool.and_eq_true, Bool.or_eq_false_iff, Bool.and_eq_false_iff, toNat_pred, toNat_succ, toNat_addn, toNat_subn, decide_eq_true_eq, decide_eq_false_iff_not, Bool.not_eq_true', Bool.not_eq_false', List.length_map, Int.toNat_natCast, Int.not_lt, Int.not_le, Bool.not_eq_true, Bool.false_eq_true, Bool.true_eq_false, Bool.not_true, Bool.not_false, reduceCtorEq, beq_iff_eq, Bool.not_eq_eq_eq_not, bne_iff_ne, ne_eq, decide_not, Decidable.not_not, Classical.not_not] at h')) | (refine And.intro (a := Both _ _ _) ?_ ?_; (refine ⟨fun h => ?_, fun h => ?_⟩ <;> first | rfl | exact h | exact Bool.noConfusion h | (rw [h]; rfl) | (rw [h]; simp only [Bool.not_false, Bool.not_true, Bool.and_true]; assumption) | (simp_all; done) | fail); skip) | refine And.intro rfl ?_ | refine Two.mk ?_ ?_ | refine And.intro (allU8_bytes _) ?_ | (refine And.intro (a := (_ : Bool) = true) ?_ ?_; (first | assumption | exact decide_eq_true (by assumption) | (rw [Bool.not_eq_true']; exact decide_eq_false (by assumption)) | (rw [Bool.not_not]; exact decide_eq_true (by assumption)) | (simp_all; done) | fail); skip) | refine And.intro (Or.inr rfl) ?_ | refine And.intro (Nat.le_of_ble_eq_true rfl) ?_ | refine And.intro (decide_eq_false (by omega)) ?_ | refine And.intro (show Program.stoodInHeld _ _ = _ by kernel_rfl) (And.intro (by kernel_rfl) ?_) | refine And.intro (show Nat.beq _ _ = _ from rfl) (And.intro (by decide) ?_) | refine And.intro ⟨rfl, rfl⟩ ?_ | refine And.intro ⟨rfl, rfl, trivial⟩ ?_ | refine And.intro (Int.natCast_nonneg _) ?_ | refine Or.inl (And.intro rfl (And.intro rfl (And.intro rfl (And.intro rfl ?_)))) | refine Or.inl (And.intro rfl (And.intro rfl ?_)) | refine Or.inr (And.intro (Nat.le_of_ble_eq_true rfl) ?_) | refine Or.inl (And.intro (by unfold in64; omega) ?_) | refine And.intro (by first | omega | (simp only [dlen, true_and, and_true, Nat.le_refl, List.length_map, List.length_append, List.length_cons, List.length_nil, List.length_take, List.length_drop, List.length_replicate, Int.toNat_natCast, List.append_nil, hb5] <;> omega) | fail) ?_ | refine And.intro (allU8_bytes _) ?_ | refine And.intro (show elemsP _ _ _ by repeat' (first | exact rfl | exact trivial | constructor)) ?_ | (refine (grow_own _ (by omega)).mono fun rs bs hr => ?_; obtain ⟨rfl, rfl⟩ := hr) | (refine Loops.by (M := M60) 9 noPlan fol (by kernel_rfl) (ι := Nat) (fun i => ⟨[(0, AV.d (D.sl 1 (ls.map fun l => D.sl 1 (l.map byteD)))), (3, AV.d (D.int .i64 ((ls.take i).flatten.length))), (9, AV.d (D.sl 1 (ls.map fun l => D.sl 1 (l.map byteD)))), (10, AV.d (D.int .i64 ls.length)), (11, AV.d (D.int .i64 i))], [], 16⟩) (fun i => i ≤ ls.length) (fun i => ls.length - i) (fun i hI => ?_) (0) (Nat.zero_le _) (Forget.mk' ⟨⟨rfl, rfl⟩, ⟨rfl, rfl⟩, ⟨rfl, rfl⟩, ⟨rfl, rfl⟩, ⟨rfl, rfl⟩, trivial⟩ trivial rfl rfl); have hfl := flat_len ls i; have hfl1 := flat_len ls (i + 1); have hfs := flat_lenS ls i) | (refine Loops.by (M := M60) 9 noPlan fol (by kernel_rfl) (ι := Nat) (fun j => ⟨[(6, AV.ref [6] 16 1 0 (((ls.take j).flatten).map byteD).length), (25, AV.d (D.sl 1 (ls.map fun l => D.sl 1 (l.map byteD)))), (26, AV.d (D.int .i64 ls.length)), (27, AV.d (D.int .i64 j))], [([6], 16, AO.row 5 1 (((ls.take j).flatten).map byteD))], 17⟩) (fun j => j ≤ ls.length) (fun j => ls.length - j) (fun j hI => ?_) (0) (Nat.zero_le _) (Forget.mk' ⟨⟨rfl, rfl⟩, ⟨rfl, rfl⟩, ⟨rfl, rfl⟩, ⟨rfl, rfl⟩, trivial⟩ ⟨⟨rfl, rfl, rfl⟩, trivial⟩ rfl rfl); have hfl := flat_len ls j; have hfl1 := flat_len ls (j + 1); have hfs := flat_lenS ls j) | (refine fun x hx => ?_; (try simp (disch := omega) only [Int.tdiv_eq_ediv_of_nonneg, Int.tmod_eq_emod_of_nonneg, bx, Bool.true_or, Bool.false_or, Bool.or_false, Bool.or_true, Bool.and_true, Bool.true_and, Bool.false_and, Bool.and_false, cond_true, cond_false, if_true, if_false, Bool.false_eq_true, min_nn, max_nn, min_ln, min_nl, max_ln, max_nl, getD_map, str_of_bytes, take_bytes, take_data, wrap_u64, wrap_u32, wrap_u8, shr_i64, shr_u64, shr_u32, shl_i64, shl_u64, Int.reduceToNat, Int.reducePow, Int.pow_succ, Int.pow_zero, Int.one_mul, Int.reduceMul, wrap_id, wrap_u8_nat, wrap_i64_u8, byteD_mk, map_snoc, map_app, set_map, take_map', drop_map', Nat.sub_zero, List.length_map, List.length_append, List.length_cons, List.length_nil, Int.toNat_natCast, List.drop_zero, List.take_succ_cons, List.take_zero, List.take_length, List.nil_append, List.append_nil, Nat.zero_add, toNat_pred, toNat_succ, toNat_addn, toNat_subn, flat_snoc] at hx); subst hx) | rw [List.take_length] | (rw [List.take_of_length_le]; rotate_left; (first | omega | (simp only [dlen, true_and, and_true, Nat.le_refl, List.length_map, List.length_append, List.length_cons, List.length_nil, List.length_take, List.length_drop, List.length_replicate, Int.toNat_natCast, List.append_nil, hb5] <;> omega) | fail)) | refine fun h => ?_ | fail)); all_goals (try exact (AV.dead : AV)); all_goals (try (conv => whnf))
  all_goals first
    | (exfalso; omega)
    | (rw [show (((ls.take i).flatten.length : Nat) : Int) + ((ls.getD i default).length : Nat) = (((ls.take (i + 1)).flatten.length : Nat) : Int) by omega]
       exact ⟨i + 1, ⟨by omega, by omega⟩, (Forget.mk' ⟨⟨rfl, rfl⟩, ⟨rfl, rfl⟩, ⟨rfl, rfl⟩, ⟨rfl, rfl⟩, ⟨rfl, rfl⟩, trivial⟩ trivial rfl rfl)⟩)
    | exact ⟨j + 1, ⟨by omega, by omega⟩, (Forget.mk' ⟨⟨rfl, rfl⟩, ⟨rfl, rfl⟩, ⟨rfl, rfl⟩, ⟨rfl, rfl⟩, trivial⟩ ⟨⟨rfl, rfl, rfl⟩, trivial⟩ rfl rfl)⟩
    | (rw [List.take_of_length_le (l := ls) (by omega)]; done)
    | fail
theorem packW1_con (x : Nat) (hx : x < 4294967296) : Has Try.prog 57 [CV.d (D.int .i64 x)] (fun rs _ => rs = [CV.d (D.bool false)]) := by
  refine Has_of_run (fn := Try.f57) (M := M0) fol (by kernel_rfl) 3 noPlan [] [] (by kernel_rfl) (Nat.le_of_ble_eq_true rfl) ?_
  (repeat' ((conv => whnf); first | done | (refine And.intro (fun h => ?_) (fun h => ?_) <;> (try simp only [Bool.or_eq_true, Bool.and_eq_true, Bool.or_eq_false_iff, Bool.and_eq_false_iff, toNat_pred, toNat_succ, toNat_addn, toNat_subn, decide_eq_true_eq, decide_eq_false_iff_not, Bool.not_eq_true', Bool.not_eq_false', List.length_map, Int.toNat_natCast, Int.not_lt, Int.not_le, Bool.not_eq_true, Bool.false_eq_true, Bool.true_eq_false, Bool.not_true, Bool.not_false, reduceCtorEq, beq_iff_eq, Bool.not_eq_eq_eq_not, bne_iff_ne, ne_eq, decide_not, Decidable.not_not, Classical.not_not] at h)) | exact (rfl : (_ : AV) = _) | exact (rfl : (_ : St) = _) | refine Exists.intro (α := AV) AV.dead (And.intro (fun h => Bool.noConfusion h) ?_) | apply ex_av | (refine fun (h : (_ : Bool) = true) => ?_; have h' := h; (try simp only [Bool.or_eq_true, Bool.and_eq_true, Bool.or_eq_false_iff, Bool.and_eq_false_iff, toNat_pred, toNat_succ, toNat_addn, toNat_subn, decide_eq_true_eq, decide_eq_false_iff_not, Bool.not_eq_true', Bool.not_eq_false', List.length_map, Int.toNat_natCast, Int.not_lt, Int.not_le, Bool.not_eq_true, Bool.false_eq_true, Bool.true_eq_false, Bool.not_true, Bool.not_false, reduceCtorEq, beq_iff_eq, Bool.not_eq_eq_eq_not, bne_iff_ne, ne_eq, decide_not, Decidable.not_not, Classical.not_not] at h')) | (refine And.intro (a := Both _ _ _) ?_ ?_; (refine ⟨fun h => ?_, fun h => ?_⟩ <;> first | rfl | exact h | exact Bool.noConfusion h | (rw [h]; rfl) | (rw [h]; simp only [Bool.not_false, Bool.not_true, Bool.and_true]; assumption) | (simp_all; done) | fail); skip) | refine And.intro rfl ?_ | refine Two.mk ?_ ?_ | refine And.intro (allU8_bytes _) ?_ | (refine And.intro (a := (_ : Bool) = true) ?_ ?_; (first | assumption | exact decide_eq_true (by assumption) | (rw [Bool.not_eq_true']; exact decide_eq_false (by assumption)) | (rw [Bool.not_not]; exact decide_eq_true (by assumption)) | (simp_all; done) | fail); skip) | refine And.intro (Or.inr rfl) ?_ | refine And.intro (Nat.le_of_ble_eq_true rfl) ?_ | refine And.intro (decide_eq_false (by omega)) ?_ | refine And.intro (show Program.stoodInHeld _ _ = _ by kernel_rfl) (And.intro (by kernel_rfl) ?_) | refine And.intro (show Nat.beq _ _ = _ from rfl) (And.intro (by decide) ?_) | refine And.intro ⟨rfl, rfl⟩ ?_ | refine And.intro ⟨rfl, rfl, trivial⟩ ?_ | refine And.intro (Int.natCast_nonneg _) ?_ | refine Or.inl (And.intro rfl (And.intro rfl (And.intro rfl (And.intro rfl ?_)))) | refine Or.inl (And.intro rfl (And.intro rfl ?_)) | refine Or.inr (And.intro (Nat.le_of_ble_eq_true rfl) ?_) | refine Or.inl (And.intro (by unfold in64; omega) ?_) | refine And.intro (by first | omega | (simp only [dlen, true_and, and_true, Nat.le_refl, List.length_map, List.length_append, List.length_cons, List.length_nil, List.length_take, List.length_drop, List.length_replicate, Int.toNat_natCast, List.append_nil] <;> omega) | fail) ?_ | refine And.intro (allU8_bytes _) ?_ | refine And.intro (show elemsP _ _ _ by repeat' (first | exact rfl | exact trivial | constructor)) ?_ | (refine fun x hx => ?_; (try simp (disch := omega) only [Int.tdiv_eq_ediv_of_nonneg, Int.tmod_eq_emod_of_nonneg, bx, Bool.true_or, Bool.false_or, Bool.or_false, Bool.or_true, Bool.and_true, Bool.true_and, Bool.false_and, Bool.and_false, cond_true, cond_false, if_true, if_false, Bool.false_eq_true, min_nn, max_nn, min_ln, min_nl, max_ln, max_nl, getD_map, str_of_bytes, take_bytes, take_data, wrap_u64, wrap_u32, wrap_u8, shr_i64, shr_u64, shr_u32, shl_i64, shl_u64, Int.reduceToNat, Int.reducePow, Int.pow_succ, Int.pow_zero, Int.one_mul, Int.reduceMul, wrap_id, wrap_u8_nat, wrap_i64_u8, byteD_mk, map_snoc, map_app, set_map, take_map', drop_map', Nat.sub_zero, List.length_map, List.length_append, List.length_cons, List.length_nil, Int.toNat_natCast, List.drop_zero, List.take_succ_cons, List.take_zero, List.take_length, List.nil_append, List.append_nil, Nat.zero_add, toNat_pred, toNat_succ, toNat_addn, toNat_subn] at hx); subst hx) | rw [List.take_length] | (rw [List.take_of_length_le]; rotate_left; (first | omega | (simp only [dlen, true_and, and_true, Nat.le_refl, List.length_map, List.length_append, List.length_cons, List.length_nil, List.length_take, List.length_drop, List.length_replicate, Int.toNat_natCast, List.append_nil] <;> omega) | fail)) | refine fun h => ?_ | fail)); all_goals (try exact (AV.dead : AV)); all_goals (try (conv => whnf))
  exact rb (by rw [decide_eq_false (by omega), decide_eq_false (by omega)]; rfl)
theorem indexW_con (l : List Nat) (hl : l.length ≤ 1000000) (hx : ∀ x ∈ l, x < 4294967296) : Has Try.prog 54 [CV.d (D.sl 1 (l.map natD)), CV.d (D.clo (.func 57) [] [])] (fun rs _ => rs = [CV.d (D.int .i64 (-1))]) := by
  refine Has_of_run (fn := Try.f54) (M := M0) fol (by kernel_rfl) 6 noPlan [] [] (by kernel_rfl) (Nat.le_of_ble_eq_true rfl) ?_
  (repeat' ((conv => whnf); first | done | (refine And.intro (fun h => ?_) (fun h => ?_) <;> (try simp only [Bool.or_eq_true, Bool.and_eq_true, Bool.or_eq_false_iff, Bool.and_eq_false_iff, toNat_pred, toNat_succ, toNat_addn, toNat_subn, decide_eq_true_eq, decide_eq_false_iff_not, Bool.not_eq_true', Bool.not_eq_false', List.length_map, Int.toNat_natCast, Int.not_lt, Int.not_le, Bool.not_eq_true, Bool.false_eq_true, Bool.true_eq_false, Bool.not_true, Bool.not_false, reduceCtorEq, beq_iff_eq, Bool.not_eq_eq_eq_not, bne_iff_ne, ne_eq, decide_not, Decidable.not_not, Classical.not_not] at h)) | exact (rfl : (_ : AV) = _) | exact (rfl : (_ : St) = _) | refine Exists.intro (α := AV) AV.dead (And.intro (fun h => Bool.noConfusion h) ?_) | apply ex_av | (refine fun (h : (_ : Bool) = true) => ?_; have h' := h; (try simp only [Bool.or_eq_true, Bool.and_eq_true, Bool.or_eq_false_iff, Bool.and_eq_false_iff, toNat_pred, toNat_succ, toNat_addn, toNat_subn, decide_eq_true_eq, decide_eq_false_iff_not, Bool.not_eq_true', Bool.not_eq_false', List.length_map, Int.toNat_natCast, Int.not_lt, Int.not_le, Bool.not_eq_true, Bool.false_eq_true, Bool.true_eq_false, Bool.not_true, Bool.not_false, reduceCtorEq, beq_iff_eq, Bool.not_eq_eq_eq_not, bne_iff_ne, ne_eq, decide_not, Decidable.not_not, Classical.not_not] at h')) | (refine And.intro (a := Both _ _ _) ?_ ?_; (refine ⟨fun h => ?_, fun h => ?_⟩ <;> first | rfl | exact h | exact Bool.noConfusion h | (rw [h]; rfl) | (rw [h]; simp only [Bool.not_false, Bool.not_true, Bool.and_true]; assumption) | (simp_all; done) | fail); skip) | refine And.intro rfl ?_ | refine Two.mk ?_ ?_ | refine And.intro (allU8_bytes _) ?_ | (refine And.intro (a := (_ : Bool) = true) ?_ ?_; (first | assumption | exact decide_eq_true (by assumption) | (rw [Bool.not_eq_true']; exact decide_eq_false (by assumption)) | (rw [Bool.not_not]; exact decide_eq_true (by assumption)) | (simp_all; done) | fail); skip) | refine And.intro (Or.inr rfl) ?_ | refine And.intro (Nat.le_of_ble_eq_true rfl) ?_ | refine And.intro (decide_eq_false (by omega)) ?_ | refine And.intro (show Program.stoodInHeld _ _ = _ by kernel_rfl) (And.intro (by kernel_rfl) ?_) | refine And.intro (show Nat.beq _ _ = _ from rfl) (And.intro (by decide) ?_) | refine And.intro ⟨rfl, rfl⟩ ?_ | refine And.intro ⟨rfl, rfl, trivial⟩ ?_ | refine And.intro (Int.natCast_nonneg _) ?_ | refine Or.inl (And.intro rfl (And.intro rfl (And.intro rfl (And.intro rfl ?_)))) | refine Or.inl (And.intro rfl (And.intro rfl ?_)) | refine Or.inr (And.intro (Nat.le_of_ble_eq_true rfl) ?_) | refine Or.inl (And.intro (by unfold in64; omega) ?_) | refine And.intro (by first | omega | (simp only [dlen, true_and, and_true, Nat.le_refl, List.length_map, List.length_append, List.length_cons, List.length_nil, List.length_take, List.length_drop, List.length_replicate, Int.toNat_natCast, List.append_nil] <;> omega) | fail) ?_ | refine And.intro (allU8_bytes _) ?_ | refine And.intro (show elemsP _ _ _ by repeat' (first | exact rfl | exact trivial | constructor)) ?_ | (refine (packW1_con _ (hx _ (nat_getD (by omega)))).mono fun rs bs hr => ?_; subst hr) | (refine Loops.by (M := M0) 6 noPlan fol (by kernel_rfl) (ι := Nat) (fun i => ⟨[(0, AV.d (D.sl 1 (l.map natD))), (1, AV.d (D.clo (.func 57) [] [])), (7, AV.d (D.int .i64 l.length)), (8, AV.d (D.int .i64 i))], [], 16⟩) (fun i => i ≤ l.length) (fun i => l.length - i) (fun i hI => ?_) (0) (Nat.zero_le _) (Forget.mk' ⟨⟨rfl, rfl⟩, ⟨rfl, rfl⟩, ⟨rfl, rfl⟩, ⟨rfl, rfl⟩, trivial⟩ trivial rfl rfl)) | (refine fun x hx => ?_; (try simp (disch := omega) only [Int.tdiv_eq_ediv_of_nonneg, Int.tmod_eq_emod_of_nonneg, bx, Bool.true_or, Bool.false_or, Bool.or_false, Bool.or_true, Bool.and_true, Bool.true_and, Bool.false_and, Bool.and_false, cond_true, cond_false, if_true, if_false, Bool.false_eq_true, min_nn, max_nn, min_ln, min_nl, max_ln, max_nl, getD_map, str_of_bytes, take_bytes, take_data, wrap_u64, wrap_u32, wrap_u8, shr_i64, shr_u64, shr_u32, shl_i64, shl_u64, Int.reduceToNat, Int.reducePow, Int.pow_succ, Int.pow_zero, Int.one_mul, Int.reduceMul, wrap_id, wrap_u8_nat, wrap_i64_u8, byteD_mk, map_snoc, map_app, set_map, take_map', drop_map', Nat.sub_zero, List.length_map, List.length_append, List.length_cons, List.length_nil, Int.toNat_natCast, List.drop_zero, List.take_succ_cons, List.take_zero, List.take_length, List.nil_append, List.append_nil, Nat.zero_add, toNat_pred, toNat_succ, toNat_addn, toNat_subn] at hx); subst hx) | rw [List.take_length] | (rw [List.take_of_length_le]; rotate_left; (first | omega | (simp only [dlen, true_and, and_true, Nat.le_refl, List.length_map, List.length_append, List.length_cons, List.length_nil, List.length_take, List.length_drop, List.length_replicate, Int.toNat_natCast, List.append_nil] <;> omega) | fail)) | refine fun h => ?_ | fail)); all_goals (try exact (AV.dead : AV)); all_goals (try (conv => whnf))
  all_goals first
    | exact ⟨i + 1, ⟨by omega, by omega⟩, (Forget.mk' ⟨⟨rfl, rfl⟩, ⟨rfl, rfl⟩, ⟨rfl, rfl⟩, ⟨rfl, rfl⟩, trivial⟩ trivial rfl rfl)⟩
    | fail
theorem containsW_con (l : List Nat) (hl : l.length ≤ 1000000) (hx : ∀ x ∈ l, x < 4294967296) : Has Try.prog 35 [CV.d (D.sl 1 (l.map natD)), CV.d (D.clo (.func 57) [] [])] (fun rs _ => rs = [CV.d (D.bool false)]) := by
  refine Has_of_run (fn := Try.f35) (M := M0) fol (by kernel_rfl) 5 noPlan [] [] (by kernel_rfl) (Nat.le_of_ble_eq_true rfl) ?_
  (repeat' ((conv => whnf); first | done | (refine And.intro (fun h => ?_) (fun h => ?_) <;> (try simp only [Bool.or_eq_true, Bool.and_eq_true, Bool.or_eq_false_iff, Bool.and_eq_false_iff, toNat_pred, toNat_succ, toNat_addn, toNat_subn, decide_eq_true_eq, decide_eq_false_iff_not, Bool.not_eq_true', Bool.not_eq_false', List.length_map, Int.toNat_natCast, Int.not_lt, Int.not_le, Bool.not_eq_true, Bool.false_eq_true, Bool.true_eq_false, Bool.not_true, Bool.not_false, reduceCtorEq, beq_iff_eq, Bool.not_eq_eq_eq_not, bne_iff_ne, ne_eq, decide_not, Decidable.not_not, Classical.not_not] at h)) | exact (rfl : (_ : AV) = _) | exact (rfl : (_ : St) = _) | refine Exists.intro (α := AV) AV.dead (And.intro (fun h => Bool.noConfusion h) ?_) | apply ex_av | (refine fun (h : (_ : Bool) = true) => ?_; have h' := h; (try simp only [Bool.or_eq_true, Bool.and_eq_true, Bool.or_eq_false_iff, Bool.and_eq_false_iff, toNat_pred, toNat_succ, toNat_addn, toNat_subn, decide_eq_true_eq, decide_eq_false_iff_not, Bool.not_eq_true', Bool.not_eq_false', List.length_map, Int.toNat_natCast, Int.not_lt, Int.not_le, Bool.not_eq_true, Bool.false_eq_true, Bool.true_eq_false, Bool.not_true, Bool.not_false, reduceCtorEq, beq_iff_eq, Bool.not_eq_eq_eq_not, bne_iff_ne, ne_eq, decide_not, Decidable.not_not, Classical.not_not] at h')) | (refine And.intro (a := Both _ _ _) ?_ ?_; (refine ⟨fun h => ?_, fun h => ?_⟩ <;> first | rfl | exact h | exact Bool.noConfusion h | (rw [h]; rfl) | (rw [h]; simp only [Bool.not_false, Bool.not_true, Bool.and_true]; assumption) | (simp_all; done) | fail); skip) | refine And.intro rfl ?_ | refine Two.mk ?_ ?_ | refine And.intro (allU8_bytes _) ?_ | (refine And.intro (a := (_ : Bool) = true) ?_ ?_; (first | assumption | exact decide_eq_true (by assumption) | (rw [Bool.not_eq_true']; exact decide_eq_false (by assumption)) | (rw [Bool.not_not]; exact decide_eq_true (by assumption)) | (simp_all; done) | fail); skip) | refine And.intro (Or.inr rfl) ?_ | refine And.intro (Nat.le_of_ble_eq_true rfl) ?_ | refine And.intro (decide_eq_false (by omega)) ?_ | refine And.intro (show Program.stoodInHeld _ _ = _ by kernel_rfl) (And.intro (by kernel_rfl) ?_) | refine And.intro (show Nat.beq _ _ = _ from rfl) (And.intro (by decide) ?_) | refine And.intro ⟨rfl, rfl⟩ ?_ | refine And.intro ⟨rfl, rfl, trivial⟩ ?_ | refine And.intro (Int.natCast_nonneg _) ?_ | refine Or.inl (And.intro rfl (And.intro rfl (And.intro rfl (And.intro rfl ?_)))) | refine Or.inl (And.intro rfl (And.intro rfl ?_)) | refine Or.inr (And.intro (Nat.le_of_ble_eq_true rfl) ?_) | refine Or.inl (And.intro (by unfold in64; omega) ?_) | refine And.intro (by first | omega | (simp only [dlen, true_and, and_true, Nat.le_refl, List.length_map, List.length_append, List.length_cons, List.length_nil, List.length_take, List.length_drop, List.length_replicate, Int.toNat_natCast, List.append_nil] <;> omega) | fail) ?_ | refine And.intro (allU8_bytes _) ?_ | refine And.intro (show elemsP _ _ _ by repeat' (first | exact rfl | exact trivial | constructor)) ?_ | (refine (indexW_con l hl hx).mono fun rs bs hr => ?_; subst hr) | (refine fun x hx => ?_; (try simp (disch := omega) only [Int.tdiv_eq_ediv_of_nonneg, Int.tmod_eq_emod_of_nonneg, bx, Bool.true_or, Bool.false_or, Bool.or_false, Bool.or_true, Bool.and_true, Bool.true_and, Bool.false_and, Bool.and_false, cond_true, cond_false, if_true, if_false, Bool.false_eq_true, min_nn, max_nn, min_ln, min_nl, max_ln, max_nl, getD_map, str_of_bytes, take_bytes, take_data, wrap_u64, wrap_u32, wrap_u8, shr_i64, shr_u64, shr_u32, shl_i64, shl_u64, Int.reduceToNat, Int.reducePow, Int.pow_succ, Int.pow_zero, Int.one_mul, Int.reduceMul, wrap_id, wrap_u8_nat, wrap_i64_u8, byteD_mk, map_snoc, map_app, set_map, take_map', drop_map', Nat.sub_zero, List.length_map, List.length_append, List.length_cons, List.length_nil, Int.toNat_natCast, List.drop_zero, List.take_succ_cons, List.take_zero, List.take_length, List.nil_append, List.append_nil, Nat.zero_add, toNat_pred, toNat_succ, toNat_addn, toNat_subn] at hx); subst hx) | rw [List.take_length] | (rw [List.take_of_length_le]; rotate_left; (first | omega | (simp only [dlen, true_and, and_true, Nat.le_refl, List.length_map, List.length_append, List.length_cons, List.length_nil, List.length_take, List.length_drop, List.length_replicate, Int.toNat_natCast, List.append_nil] <;> omega) | fail)) | refine fun h => ?_ | fail)); all_goals (try exact (AV.dead : AV)); all_goals (try (conv => whnf))
  rfl
theorem packWrite_con (l : List Nat) (hl : l.length ≤ 100000) (hx : ∀ x ∈ l, x < 4294967296) : Has Try.prog 40 [CV.d (D.sl 1 (l.map natD))] (fun rs _ => rs = [CV.own 5 1 ((pkW l).map byteD), CV.d (D.int .i64 0)] ) := by
  have hw : widN l ≤ 32 := widN_w hx; have hq := putN_len 8 l.length (by omega); have hpl := putP_len l (widN l); have hm : l.length * widN l ≤ 3200000 := Nat.mul_le_mul hl hw; have hpz : sizeP l.length (widN l) = (l.length * widN l + 7) / 8 := rfl
  refine Has_of_run (fn := Try.f40) (M := M0) fol (by kernel_rfl) 7 noPlan [.own] [] (by kernel_rfl) (Nat.le_of_ble_eq_true rfl) ?_
  (repeat' ((conv => whnf); first | done | (refine And.intro (fun h => ?_) (fun h => ?_) <;> (try simp only [Bool.or_eq_true, Bool.and_eq_true, Bool.or_eq_false_iff, Bool.and_eq_false_iff, toNat_pred, toNat_succ, toNat_addn, toNat_subn, decide_eq_true_eq, decide_eq_false_iff_not, Bool.not_eq_true', Bool.not_eq_false', List.length_map, Int.toNat_natCast, Int.not_lt, Int.not_le, Bool.not_eq_true, Bool.false_eq_true, Bool.true_eq_false, Bool.not_true, Bool.not_false, reduceCtorEq, beq_iff_eq, Bool.not_eq_eq_eq_not, bne_iff_ne, ne_eq, decide_not, Decidable.not_not, Classical.not_not] at h)) | exact (rfl : (_ : AV) = _) | exact (rfl : (_ : St) = _) | refine Exists.intro (α := AV) AV.dead (And.intro (fun h => Bool.noConfusion h) ?_) | apply ex_av | (refine fun (h : (_ : Bool) = true) => ?_; have h' := h; (try simp only [Bool.or_eq_true, Bool.and_eq_true, Bool.or_eq_false_iff, Bool.and_eq_false_iff, toNat_pred, toNat_succ, toNat_addn, toNat_subn, decide_eq_true_eq, decide_eq_false_iff_not, Bool.not_eq_true', Bool.not_eq_false', List.length_map, Int.toNat_natCast, Int.not_lt, Int.not_le, Bool.not_eq_true, Bool.false_eq_true, Bool.true_eq_false, Bool.not_true, Bool.not_false, reduceCtorEq, beq_iff_eq, Bool.not_eq_eq_eq_not, bne_iff_ne, ne_eq, decide_not, Decidable.not_not, Classical.not_not] at h')) | (refine And.intro (a := Both _ _ _) ?_ ?_; (refine ⟨fun h => ?_, fun h => ?_⟩ <;> first | rfl | exact h | exact Bool.noConfusion h | (rw [h]; rfl) | (rw [h]; simp only [Bool.not_false, Bool.not_true, Bool.and_true]; assumption) | (simp_all; done) | fail); skip) | refine And.intro rfl ?_ | refine Two.mk ?_ ?_ | refine And.intro (allU8_bytes _) ?_ | (refine And.intro (a := (_ : Bool) = true) ?_ ?_; (first | assumption | exact decide_eq_true (by assumption) | (rw [Bool.not_eq_true']; exact decide_eq_false (by assumption)) | (rw [Bool.not_not]; exact decide_eq_true (by assumption)) | (simp_all; done) | fail); skip) | refine And.intro (Or.inr rfl) ?_ | refine And.intro (Nat.le_of_ble_eq_true rfl) ?_ | refine And.intro (decide_eq_false (by omega)) ?_ | refine And.intro (show Program.stoodInHeld _ _ = _ by kernel_rfl) (And.intro (by kernel_rfl) ?_) | refine And.intro (show Nat.beq _ _ = _ from rfl) (And.intro (by decide) ?_) | refine And.intro ⟨rfl, rfl⟩ ?_ | refine And.intro ⟨rfl, rfl, trivial⟩ ?_ | refine And.intro (Int.natCast_nonneg _) ?_ | refine Or.inl (And.intro rfl (And.intro rfl (And.intro rfl (And.intro rfl ?_)))) | refine Or.inl (And.intro rfl (And.intro rfl ?_)) | refine Or.inr (And.intro (Nat.le_of_ble_eq_true rfl) ?_) | refine Or.inl (And.intro (by unfold in64; omega) ?_) | refine And.intro (by first | omega | (simp only [dlen, true_and, and_true, Nat.le_refl, List.length_map, List.length_append, List.length_cons, List.length_nil, List.length_take, List.length_drop, List.length_replicate, Int.toNat_natCast, List.append_nil] <;> omega) | fail) ?_ | refine And.intro (allU8_bytes _) ?_ | refine And.intro (show elemsP _ _ _ by repeat' (first | exact rfl | exact trivial | constructor)) ?_ | (refine (containsW_con l (by omega) hx).mono fun rs bs hr => ?_; subst hr) | (refine (packWidth_con l (by omega) hx).mono fun rs bs hr => ?_; subst hr) | (refine (packPut_con l (widN l) (by omega) hw (fun x h => widN_lt h)).mono fun rs bs hr => ?_; subst hr) | (refine (curPut_con l.length (by omega)).mono fun rs bs hr => ?_; subst hr) | ((rw [byte_of (n := widN l) (by omega)]; refine (concat_con [putN l.length, [UInt8.ofNat (widN l)], putP l (widN l)] (by simp) (by simp; omega)).mono fun rs bs hr => ?_; subst hr)) | (refine fun x hx => ?_; (try simp (disch := omega) only [Int.tdiv_eq_ediv_of_nonneg, Int.tmod_eq_emod_of_nonneg, bx, Bool.true_or, Bool.false_or, Bool.or_false, Bool.or_true, Bool.and_true, Bool.true_and, Bool.false_and, Bool.and_false, cond_true, cond_false, if_true, if_false, Bool.false_eq_true, min_nn, max_nn, min_ln, min_nl, max_ln, max_nl, getD_map, str_of_bytes, take_bytes, take_data, wrap_u64, wrap_u32, wrap_u8, shr_i64, shr_u64, shr_u32, shl_i64, shl_u64, Int.reduceToNat, Int.reducePow, Int.pow_succ, Int.pow_zero, Int.one_mul, Int.reduceMul, wrap_id, wrap_u8_nat, wrap_i64_u8, byteD_mk, map_snoc, map_app, set_map, take_map', drop_map', Nat.sub_zero, List.length_map, List.length_append, List.length_cons, List.length_nil, Int.toNat_natCast, List.drop_zero, List.take_succ_cons, List.take_zero, List.take_length, List.nil_append, List.append_nil, Nat.zero_add, toNat_pred, toNat_succ, toNat_addn, toNat_subn] at hx); subst hx) | rw [List.take_length] | (rw [List.take_of_length_le]; rotate_left; (first | omega | (simp only [dlen, true_and, and_true, Nat.le_refl, List.length_map, List.length_append, List.length_cons, List.length_nil, List.length_take, List.length_drop, List.length_replicate, Int.toNat_natCast, List.append_nil] <;> omega) | fail)) | refine fun h => ?_ | fail)); all_goals (try exact (AV.dead : AV)); all_goals (try (conv => whnf))
  all_goals first
    | (simp [pkW]; done)
    | fail
end Go.Fw
namespace Go.Fw
open Go Go.Proofs
set_option maxHeartbeats 10000000
set_option maxRecDepth 100000
set_option linter.constructorNameAsVariable false
set_option linter.unusedVariables false
set_option linter.unusedSimpArgs false
theorem bmSize_con (n : Nat) (hn : n ≤ 1000000) : Has Try.prog 66 [CV.d (D.int .i64 n)] (fun rs _ => rs = [CV.d (D.int .i64 ((n + 7) / 8 : Nat))]) := by
  refine Has_of_run (fn := Try.f66) (M := M0) fol (by kernel_rfl) 3 noPlan [] [] (by kernel_rfl) (Nat.le_of_ble_eq_true rfl) ?_
  (repeat' ((conv => whnf); first | done | (refine And.intro (fun h => ?_) (fun h => ?_) <;> (try simp only [Bool.or_eq_true, Bool.and_eq_true, Bool.or_eq_false_iff, Bool.and_eq_false_iff, toNat_pred, toNat_succ, toNat_addn, toNat_subn, decide_eq_true_eq, decide_eq_false_iff_not, Bool.not_eq_true', Bool.not_eq_false', List.length_map, Int.toNat_natCast, Int.not_lt, Int.not_le, Bool.not_eq_true, Bool.false_eq_true, Bool.true_eq_false, Bool.not_true, Bool.not_false, reduceCtorEq, beq_iff_eq, Bool.not_eq_eq_eq_not, bne_iff_ne, ne_eq, decide_not, Decidable.not_not, Classical.not_not] at h)) | exact (rfl : (_ : AV) = _) | exact (rfl : (_ : St) = _) | refine Exists.intro (α := AV) AV.dead (And.intro (fun h => Bool.noConfusion h) ?_) | apply ex_av | (refine fun (h : (_ : Bool) = true) => ?_; have h' := h; (try simp only [Bool.or_eq_true, Bool.and_eq_true, Bool.or_eq_false_iff, Bool.and_eq_false_iff, toNat_pred, toNat_succ, toNat_addn, toNat_subn, decide_eq_true_eq, decide_eq_false_iff_not, Bool.not_eq_true', Bool.not_eq_false', List.length_map, Int.toNat_natCast, Int.not_lt, Int.not_le, Bool.not_eq_true, Bool.false_eq_true, Bool.true_eq_false, Bool.not_true, Bool.not_false, reduceCtorEq, beq_iff_eq, Bool.not_eq_eq_eq_not, bne_iff_ne, ne_eq, decide_not, Decidable.not_not, Classical.not_not] at h')) | (refine And.intro (a := Both _ _ _) ?_ ?_; (refine ⟨fun h => ?_, fun h => ?_⟩ <;> first | rfl | exact h | exact Bool.noConfusion h | (rw [h]; rfl) | (rw [h]; simp only [Bool.not_false, Bool.not_true, Bool.and_true]; assumption) | (simp_all; done) | fail); skip) | refine And.intro rfl ?_ | refine Two.mk ?_ ?_ | refine And.intro (allU8_bytes _) ?_ | (refine And.intro (a := (_ : Bool) = true) ?_ ?_; (first | assumption | exact decide_eq_true (by assumption) | (rw [Bool.not_eq_true']; exact decide_eq_false (by assumption)) | (rw [Bool.not_not]; exact decide_eq_true (by assumption)) | (simp_all; done) | fail); skip) | refine And.intro (Or.inr rfl) ?_ | refine And.intro (Nat.le_of_ble_eq_true rfl) ?_ | refine And.intro (decide_eq_false (by omega)) ?_ | refine And.intro (show Program.stoodInHeld _ _ = _ by kernel_rfl) (And.intro (by kernel_rfl) ?_) | refine And.intro (show Nat.beq _ _ = _ from rfl) (And.intro (by decide) ?_) | refine And.intro ⟨rfl, rfl⟩ ?_ | refine And.intro ⟨rfl, rfl, trivial⟩ ?_ | refine And.intro (Int.natCast_nonneg _) ?_ | refine Or.inl (And.intro rfl (And.intro rfl (And.intro rfl (And.intro rfl ?_)))) | refine Or.inl (And.intro rfl (And.intro rfl ?_)) | refine Or.inr (And.intro (Nat.le_of_ble_eq_true rfl) ?_) | refine Or.inl (And.intro (by unfold in64; omega) ?_) | refine And.intro (by first | omega | (simp only [dlen, true_and, and_true, Nat.le_refl, List.length_map, List.length_append, List.length_cons, List.length_nil, List.length_take, List.length_drop, List.length_replicate, Int.toNat_natCast, List.append_nil] <;> omega) | fail) ?_ | refine And.intro (allU8_bytes _) ?_ | refine And.intro (show elemsP _ _ _ by repeat' (first | exact rfl | exact trivial | constructor)) ?_ | (refine fun x hx => ?_; (try simp (disch := omega) only [Int.tdiv_eq_ediv_of_nonneg, Int.tmod_eq_emod_of_nonneg, bx, Bool.true_or, Bool.false_or, Bool.or_false, Bool.or_true, Bool.and_true, Bool.true_and, Bool.false_and, Bool.and_false, cond_true, cond_false, if_true, if_false, Bool.false_eq_true, min_nn, max_nn, min_ln, min_nl, max_ln, max_nl, getD_map, str_of_bytes, take_bytes, take_data, wrap_u64, wrap_u32, wrap_u8, shr_i64, shr_u64, shr_u32, shl_i64, shl_u64, Int.reduceToNat, Int.reducePow, Int.pow_succ, Int.pow_zero, Int.one_mul, Int.reduceMul, wrap_id, wrap_u8_nat, wrap_i64_u8, byteD_mk, map_snoc, map_app, set_map, take_map', drop_map', Nat.sub_zero, List.length_map, List.length_append, List.length_cons, List.length_nil, Int.toNat_natCast, List.drop_zero, List.take_succ_cons, List.take_zero, List.take_length, List.nil_append, List.append_nil, Nat.zero_add, toNat_pred, toNat_succ, toNat_addn, toNat_subn] at hx); subst hx) | rw [List.take_length] | (rw [List.take_of_length_le]; rotate_left; (first | omega | (simp only [dlen, true_and, and_true, Nat.le_refl, List.length_map, List.length_append, List.length_cons, List.length_nil, List.length_take, List.length_drop, List.length_replicate, Int.toNat_natCast, List.append_nil] <;> omega) | fail)) | refine fun h => ?_ | fail)); all_goals (try exact (AV.dead : AV)); all_goals (try (conv => whnf))
  exact ri (by omega)
def pl56 : Nat → Plan
  | 6 => tks 0 [0, 0, 0, 0, 1, 0, 0, 0, 0, 0] (.one 10 (.done))
  | _ => .done
theorem bmPut_con (l : List Bool) (hl : l.length ≤ 1000000) : Has Try.prog 56 [CV.d (D.sl 1 (l.map D.bool))] (fun rs _ => rs = [CV.own 5 1 ((bmP l).map byteD)] ) := by
  have hb5 : Try.prog.bytesOf 5 = 1 := by kernel_rfl
  refine Has_of_run (fn := Try.f56) (M := M0) fol (by kernel_rfl) 6 pl56 [.own] [] (by kernel_rfl) (Nat.le_of_ble_eq_true rfl) ?_
  (repeat' ((conv => whnf); first | done | (refine And.intro (fun h => ?_) (fun h => ?_) <;> (try simp only [Bool.or_eq_true, Bool.and_eq_true, Bool.or_eq_false_iff, Bool.and_eq_false_iff, toNat_pred, toNat_succ, toNat_addn, toNat_subn, decide_eq_true_eq, decide_eq_false_iff_not, Bool.not_eq_true', Bool.not_eq_false', List.length_map, Int.toNat_natCast, Int.not_lt, Int.not_le, Bool.not_eq_true, Bool.false_eq_true, Bool.true_eq_false, Bool.not_true, Bool.not_false, reduceCtorEq, beq_iff_eq, Bool.not_eq_eq_eq_not, bne_iff_ne, ne_eq, decide_not, Decidable.not_not, Classical.not_not, upP_len] at h)) | exact (rfl : (_ : AV) = _) | exact (rfl : (_ : St) = _) | refine Exists.intro (α := AV) AV.dead (And.intro (fun h => Bool.noConfusion h) ?_) | apply ex_av | (refine fun (h : (_ : Bool) = true) => ?_; have h' := h; (try simp only [Bool.or_eq_true, Bool.and_eq_true, Bool.or_eq_false_iff, Bool.and_eq_false_iff, toNat_pred, toNat_succ, toNat_addn, toNat_subn, decide_eq_true_eq, decide_eq_false_iff_not, Bool.not_eq_true', Bool.not_eq_false', List.length_map, Int.toNat_natCast, Int.not_lt, Int.not_le, Bool.not_eq_true, Bool.false_eq_true, Bool.true_eq_false, Bool.not_true, Bool.not_false, reduceCtorEq, beq_iff_eq, Bool.not_eq_eq_eq_not, bne_iff_ne, ne_eq, decide_not, Decidable.not_not, Classical.not_not, upP_len] at h')) | (refine And.intro (a := Both _ _ _) ?_ ?_; (refine ⟨fun h => ?_, fun h => ?_⟩ <;> first | rfl | exact h | exact Bool.noConfusion h | (rw [h]; rfl) | (rw [h]; simp only [Bool.not_false, Bool.not_true, Bool.and_true]; assumption) | (simp_all; done) | fail); skip) | refine And.intro rfl ?_ | refine Two.mk ?_ ?_ | refine And.intro (allU8_bytes _) ?_ | (refine And.intro (a := (_ : Bool) = true) ?_ ?_; (first | assumption | exact decide_eq_true (by assumption) | (rw [Bool.not_eq_true']; exact decide_eq_false (by assumption)) | (rw [Bool.not_not]; exact decide_eq_true (by assumption)) | (simp_all; done) | fail); skip) | refine And.intro (Or.inr rfl) ?_ | refine And.intro (Nat.le_of_ble_eq_true rfl) ?_ | refine And.intro (decide_eq_false (by omega)) ?_ | refine And.intro (show Program.stoodInHeld _ _ = _ by kernel_rfl) (And.intro (by kernel_rfl) ?_) | refine And.intro (show Nat.beq _ _ = _ from rfl) (And.intro (by decide) ?_) | refine And.intro ⟨rfl, rfl⟩ ?_ | refine And.intro ⟨rfl, rfl, trivial⟩ ?_ | refine And.intro (Int.natCast_nonneg _) ?_ | refine Or.inl (And.intro rfl (And.intro rfl (And.intro rfl (And.intro rfl ?_)))) | refine Or.inl (And.intro rfl (And.intro rfl ?_)) | refine Or.inr (And.intro (Nat.le_of_ble_eq_true rfl) ?_) | refine Or.inl (And.intro (by unfold in64; omega) ?_) | refine And.intro (by first | omega | (simp only [dlen, true_and, and_true, Nat.le_refl, List.length_map, List.length_append, List.length_cons, List.length_nil, List.length_take, List.length_drop, List.length_replicate, Int.toNat_natCast, List.append_nil, hb5, upP_len] <;> omega) | fail) ?_ | refine And.intro (allU8_bytes _) ?_ | refine And.intro (show elemsP _ _ _ by repeat' (first | exact rfl | exact trivial | constructor)) ?_ | (refine (bmSize_con l.length (by omega)).mono fun rs bs hr => ?_; subst hr) | (refine Loops.by (M := M0) 6 pl56 fol (by kernel_rfl) (ι := Nat × List D) (fun ⟨i, a⟩ => ⟨[(3, AV.ref [3] 16 1 0 ((l.length + 7) / 8)), (10, AV.d (D.sl 1 (l.map D.bool))), (11, AV.d (D.int .i64 l.length)), (12, AV.d (D.int .i64 i))], [([3], 16, AO.row 5 1 a)], 17⟩) (fun ⟨i, a⟩ => i ≤ l.length ∧ a = (upP (bN l) 1 i ((l.length + 7) / 8)).map byteD) (fun ⟨i, a⟩ => l.length - i) (fun p hI => ?_) ((0, List.replicate ((l.length + 7) / 8) (D.int .u8 0))) ⟨Nat.zero_le _, by rw [upP_zero, List.map_replicate]; rfl⟩ (Forget.mk' ⟨⟨rfl, rfl⟩, ⟨rfl, rfl⟩, ⟨rfl, rfl⟩, ⟨rfl, rfl⟩, trivial⟩ ⟨⟨rfl, rfl, rfl⟩, trivial⟩ rfl rfl); obtain ⟨i, a⟩ := p; obtain ⟨hi, rfl⟩ := hI; have hul := upP_len (bN l) 1 i ((l.length + 7) / 8)) | (refine fun x hx => ?_; (try simp (disch := omega) only [Int.tdiv_eq_ediv_of_nonneg, Int.tmod_eq_emod_of_nonneg, bx, Bool.true_or, Bool.false_or, Bool.or_false, Bool.or_true, Bool.and_true, Bool.true_and, Bool.false_and, Bool.and_false, cond_true, cond_false, if_true, if_false, Bool.false_eq_true, min_nn, max_nn, min_ln, min_nl, max_ln, max_nl, getD_map, str_of_bytes, take_bytes, take_data, wrap_u64, wrap_u32, wrap_u8, shr_i64, shr_u64, shr_u32, shl_i64, shl_u64, Int.reduceToNat, Int.reducePow, Int.pow_succ, Int.pow_zero, Int.one_mul, Int.reduceMul, wrap_id, wrap_u8_nat, wrap_i64_u8, byteD_mk, map_snoc, map_app, set_map, take_map', drop_map', Nat.sub_zero, List.length_map, List.length_append, List.length_cons, List.length_nil, Int.toNat_natCast, List.drop_zero, List.take_succ_cons, List.take_zero, List.take_length, List.nil_append, List.append_nil, Nat.zero_add, toNat_pred, toNat_succ, toNat_addn, toNat_subn, upP_len] at hx); subst hx) | rw [List.take_length] | (rw [List.take_of_length_le]; rotate_left; (first | omega | (simp only [dlen, true_and, and_true, Nat.le_refl, List.length_map, List.length_append, List.length_cons, List.length_nil, List.length_take, List.length_drop, List.length_replicate, Int.toNat_natCast, List.append_nil, hb5, upP_len] <;> omega) | fail)) | refine fun h => ?_ | fail)); all_goals (try exact (AV.dead : AV)); all_goals (try (conv => whnf))
  all_goals first
    | (refine ⟨(i + 1, _), ⟨⟨by omega, ?_⟩, by show l.length - (i + 1) < l.length - i; omega⟩, (Forget.mk' ⟨⟨rfl, rfl⟩, ⟨rfl, rfl⟩, ⟨rfl, rfl⟩, ⟨rfl, rfl⟩, trivial⟩ ⟨⟨rfl, rfl, rfl⟩, trivial⟩ rfl rfl)⟩
       first
         | exact bm_set h (by omega)
         | rw [bm_same h]
         | fail)
    | (have e : i = l.length := by omega
       subst e
       rfl)
    | fail
theorem bmWrite_con (l : List Bool) (hl : l.length ≤ 1000000) : Has Try.prog 39 [CV.d (D.sl 1 (l.map D.bool))] (fun rs _ => rs = [CV.own 5 1 ((bmW l).map byteD)] ) := by
  have hq := putN_len 8 l.length (by omega); have hpl := bmP_len l
  have hb5 : Try.prog.bytesOf 5 = 1 := by kernel_rfl
  refine Has_of_run (fn := Try.f39) (M := M0) fol (by kernel_rfl) 3 noPlan [.own] [] (by kernel_rfl) (Nat.le_of_ble_eq_true rfl) ?_
  (repeat' ((conv => whnf); first | done | (refine And.intro (fun h => ?_) (fun h => ?_) <;> (try simp only [Bool.or_eq_true, Bool.and_eq_true, Bool.or_eq_false_iff, Bool.and_eq_false_iff, toNat_pred, toNat_succ, toNat_addn, toNat_subn, decide_eq_true_eq, decide_eq_false_iff_not, Bool.not_eq_true', Bool.not_eq_false', List.length_map, Int.toNat_natCast, Int.not_lt, Int.not_le, Bool.not_eq_true, Bool.false_eq_true, Bool.true_eq_false, Bool.not_true, Bool.not_false, reduceCtorEq, beq_iff_eq, Bool.not_eq_eq_eq_not, bne_iff_ne, ne_eq, decide_not, Decidable.not_not, Classical.not_not] at h)) | exact (rfl : (_ : AV) = _) | exact (rfl : (_ : St) = _) | refine Exists.intro (α := AV) AV.dead (And.intro (fun h => Bool.noConfusion h) ?_) | apply ex_av | (refine fun (h : (_ : Bool) = true) => ?_; have h' := h; (try simp only [Bool.or_eq_true, Bool.and_eq_true, Bool.or_eq_false_iff, Bool.and_eq_false_iff, toNat_pred, toNat_succ, toNat_addn, toNat_subn, decide_eq_true_eq, decide_eq_false_iff_not, Bool.not_eq_true', Bool.not_eq_false', List.length_map, Int.toNat_natCast, Int.not_lt, Int.not_le, Bool.not_eq_true, Bool.false_eq_true, Bool.true_eq_false, Bool.not_true, Bool.not_false, reduceCtorEq, beq_iff_eq, Bool.not_eq_eq_eq_not, bne_iff_ne, ne_eq, decide_not, Decidable.not_not, Classical.not_not] at h')) | (refine And.intro (a := Both _ _ _) ?_ ?_; (refine ⟨fun h => ?_, fun h => ?_⟩ <;> first | rfl | exact h | exact Bool.noConfusion h | (rw [h]; rfl) | (rw [h]; simp only [Bool.not_false, Bool.not_true, Bool.and_true]; assumption) | (simp_all; done) | fail); skip) | refine And.intro rfl ?_ | refine Two.mk ?_ ?_ | refine And.intro (allU8_bytes _) ?_ | (refine And.intro (a := (_ : Bool) = true) ?_ ?_; (first | assumption | exact decide_eq_true (by assumption) | (rw [Bool.not_eq_true']; exact decide_eq_false (by assumption)) | (rw [Bool.not_not]; exact decide_eq_true (by assumption)) | (simp_all; done) | fail); skip) | refine And.intro (Or.inr rfl) ?_ | refine And.intro (Nat.le_of_ble_eq_true rfl) ?_ | refine And.intro (decide_eq_false (by omega)) ?_ | refine And.intro (show Program.stoodInHeld _ _ = _ by kernel_rfl) (And.intro (by kernel_rfl) ?_) | refine And.intro (show Nat.beq _ _ = _ from rfl) (And.intro (by decide) ?_) | refine And.intro ⟨rfl, rfl⟩ ?_ | refine And.intro ⟨rfl, rfl, trivial⟩ ?_ | refine And.intro (Int.natCast_nonneg _) ?_ | refine Or.inl (And.intro rfl (And.intro rfl (And.intro rfl (And.intro rfl ?_)))) | refine Or.inl (And.intro rfl (And.intro rfl ?_)) | refine Or.inr (And.intro (Nat.le_of_ble_eq_true rfl) ?_) | refine Or.inl (And.intro (by unfold in64; omega) ?_) | refine And.intro (by first | omega | (simp only [dlen, true_and, and_true, Nat.le_refl, List.length_map, List.length_append, List.length_cons, List.length_nil, List.length_take, List.length_drop, List.length_replicate, Int.toNat_natCast, List.append_nil, hb5] <;> omega) | fail) ?_ | refine And.intro (allU8_bytes _) ?_ | refine And.intro (show elemsP _ _ _ by repeat' (first | exact rfl | exact trivial | constructor)) ?_ | (refine (curPut_con l.length (by omega)).mono fun rs bs hr => ?_; subst hr) | (refine (bmPut_con l hl).mono fun rs bs hr => ?_; subst hr) | (refine fun x hx => ?_; (try simp (disch := omega) only [Int.tdiv_eq_ediv_of_nonneg, Int.tmod_eq_emod_of_nonneg, bx, Bool.true_or, Bool.false_or, Bool.or_false, Bool.or_true, Bool.and_true, Bool.true_and, Bool.false_and, Bool.and_false, cond_true, cond_false, if_true, if_false, Bool.false_eq_true, min_nn, max_nn, min_ln, min_nl, max_ln, max_nl, getD_map, str_of_bytes, take_bytes, take_data, wrap_u64, wrap_u32, wrap_u8, shr_i64, shr_u64, shr_u32, shl_i64, shl_u64, Int.reduceToNat, Int.reducePow, Int.pow_succ, Int.pow_zero, Int.one_mul, Int.reduceMul, wrap_id, wrap_u8_nat, wrap_i64_u8, byteD_mk, map_snoc, map_app, set_map, take_map', drop_map', Nat.sub_zero, List.length_map, List.length_append, List.length_cons, List.length_nil, Int.toNat_natCast, List.drop_zero, List.take_succ_cons, List.take_zero, List.take_length, List.nil_append, List.append_nil, Nat.zero_add, toNat_pred, toNat_succ, toNat_addn, toNat_subn] at hx); subst hx) | rw [List.take_length] | (rw [List.take_of_length_le]; rotate_left; (first | omega | (simp only [dlen, true_and, and_true, Nat.le_refl, List.length_map, List.length_append, List.length_cons, List.length_nil, List.length_take, List.length_drop, List.length_replicate, Int.toNat_natCast, List.append_nil, hb5] <;> omega) | fail)) | refine fun h => ?_ | fail)); all_goals (try exact (AV.dead : AV)); all_goals (try (conv => whnf))
  rfl
def pl61 : Nat → Plan
  | 8 => tks 0 [0, 0, 0, 0, 0, 0, 0] (tks 8 [0, 0] (.two 7 (.one 10 (tks 11 [0, 0, 0] (.one 14 (.done)))) 10 (tks 7 [1] (tks 11 [0, 0, 0] (.one 14 (.done))))))
  | _ => .done
theorem refBm_con (l : List Bool) (hl : l.length ≤ 1000000) : Has Try.prog 61 [CV.d (D.sl 1 (l.map D.bool))] (fun rs _ => rs = [CV.own 5 1 ((bmP l).map byteD)] ) := by
  have hb5 : Try.prog.bytesOf 5 = 1 := by kernel_rfl
  refine Has_of_run (fn := Try.f61) (M := M0) fol (by kernel_rfl) 5 pl61 [.own] [] (by kernel_rfl) (Nat.le_of_ble_eq_true rfl) ?_
  (repeat' ((conv => whnf); first | done | (refine And.intro (fun h => ?_) (fun h => ?_) <;> (try simp only [Bool.or_eq_true, Bool.and_eq_true, Bool.or_eq_false_iff, Bool.and_eq_false_iff, toNat_pred, toNat_succ, toNat_addn, toNat_subn, decide_eq_true_eq, decide_eq_false_iff_not, Bool.not_eq_true', Bool.not_eq_false', List.length_map, Int.toNat_natCast, Int.not_lt, Int.not_le, Bool.not_eq_true, Bool.false_eq_true, Bool.true_eq_false, Bool.not_true, Bool.not_false, reduceCtorEq, beq_iff_eq, Bool.not_eq_eq_eq_not, bne_iff_ne, ne_eq, decide_not, Decidable.not_not, Classical.not_not, upP_len] at h)) | exact (rfl : (_ : AV) = _) | exact (rfl : (_ : St) = _) | refine Exists.intro (α := AV) AV.dead (And.intro (fun h => Bool.noConfusion h) ?_) | apply ex_av | (refine fun (h : (_ : Bool) = true) => ?_; have h' := h; (try simp only [Bool.or_eq_true, Bool.and_eq_true, Bool.or_eq_false_iff, Bool.and_eq_false_iff, toNat_pred, toNat_succ, toNat_addn, toNat_subn, decide_eq_true_eq, decide_eq_false_iff_not, Bool.not_eq_true', Bool.not_eq_false', List.length_map, Int.toNat_natCast, Int.not_lt, Int.not_le, Bool.not_eq_true, Bool.false_eq_true, Bool.true_eq_false, Bool.not_true, Bool.not_false, reduceCtorEq, beq_iff_eq, Bool.not_eq_eq_eq_not, bne_iff_ne, ne_eq, decide_not, Decidable.not_not, Classical.not_not, upP_len] at h')) | (refine And.intro (a := Both _ _ _) ?_ ?_; (refine ⟨fun h => ?_, fun h => ?_⟩ <;> first | rfl | exact h | exact Bool.noConfusion h | (rw [h]; rfl) | (rw [h]; simp only [Bool.not_false, Bool.not_true, Bool.and_true]; assumption) | (simp_all; done) | fail); skip) | refine And.intro rfl ?_ | refine Two.mk ?_ ?_ | refine And.intro (allU8_bytes _) ?_ | (refine And.intro (a := (_ : Bool) = true) ?_ ?_; (first | assumption | exact decide_eq_true (by assumption) | (rw [Bool.not_eq_true']; exact decide_eq_false (by assumption)) | (rw [Bool.not_not]; exact decide_eq_true (by assumption)) | (simp_all; done) | fail); skip) | refine And.intro (Or.inr rfl) ?_ | refine And.intro (Nat.le_of_ble_eq_true rfl) ?_ | refine And.intro (decide_eq_false (by omega)) ?_ | refine And.intro (show Program.stoodInHeld _ _ = _ by kernel_rfl) (And.intro (by kernel_rfl) ?_) | refine And.intro (show Nat.beq _ _ = _ from rfl) (And.intro (by decide) ?_) | refine And.intro ⟨rfl, rfl⟩ ?_ | refine And.intro ⟨rfl, rfl, trivial⟩ ?_ | refine And.intro (Int.natCast_nonneg _) ?_ | refine Or.inl (And.intro rfl (And.intro rfl (And.intro rfl (And.intro rfl ?_)))) | refine Or.inl (And.intro rfl (And.intro rfl ?_)) | refine Or.inr (And.intro (Nat.le_of_ble_eq_true rfl) ?_) | refine Or.inl (And.intro (by unfold in64; omega) ?_) | refine And.intro (by first | omega | (simp only [dlen, true_and, and_true, Nat.le_refl, List.length_map, List.length_append, List.length_cons, List.length_nil, List.length_take, List.length_drop, List.length_replicate, Int.toNat_natCast, List.append_nil, hb5, upP_len] <;> omega) | fail) ?_ | refine And.intro (allU8_bytes _) ?_ | refine And.intro (show elemsP _ _ _ by repeat' (first | exact rfl | exact trivial | constructor)) ?_ | ((rw [show ((i : Int) % 8) = ((i % 8 : Nat) : Int) by omega]; refine (pow_con _ (by omega)).mono fun rs bs hr => ?_; subst hr)) | (refine (pow_con _ (by omega)).mono fun rs bs hr => ?_; subst hr) | (refine Loops.by (M := M0) 5 pl61 fol (by kernel_rfl) (ι := Nat) (fun i => ⟨[(0, AV.d (D.sl 1 (l.map D.bool))), (3, AV.ref [3] 16 1 0 ((i + 7) / 8)), (4, AV.d (D.int .i64 i))], [([3], 16, AO.row 5 1 ((upP (bN l) 1 i ((i + 7) / 8)).map byteD))], 17⟩) (fun i => i ≤ l.length) (fun i => l.length - i) (fun i hI => ?_) (0) (Nat.zero_le _) (Forget.mk' ⟨⟨rfl, rfl⟩, ⟨rfl, rfl⟩, ⟨rfl, rfl⟩, trivial⟩ ⟨⟨rfl, rfl, rfl⟩, trivial⟩ rfl rfl); have hul := upP_len (bN l) 1 i ((i + 7) / 8); have hul2 := upP_len (bN l) 1 i (i / 8 + 1)) | (refine fun x hx => ?_; (try simp (disch := omega) only [Int.tdiv_eq_ediv_of_nonneg, Int.tmod_eq_emod_of_nonneg, bx, Bool.true_or, Bool.false_or, Bool.or_false, Bool.or_true, Bool.and_true, Bool.true_and, Bool.false_and, Bool.and_false, cond_true, cond_false, if_true, if_false, Bool.false_eq_true, min_nn, max_nn, min_ln, min_nl, max_ln, max_nl, getD_map, str_of_bytes, take_bytes, take_data, wrap_u64, wrap_u32, wrap_u8, shr_i64, shr_u64, shr_u32, shl_i64, shl_u64, Int.reduceToNat, Int.reducePow, Int.pow_succ, Int.pow_zero, Int.one_mul, Int.reduceMul, wrap_id, wrap_u8_nat, wrap_i64_u8, byteD_mk, map_snoc, map_app, set_map, take_map', drop_map', Nat.sub_zero, List.length_map, List.length_append, List.length_cons, List.length_nil, Int.toNat_natCast, List.drop_zero, List.take_succ_cons, List.take_zero, List.take_length, List.nil_append, List.append_nil, Nat.zero_add, toNat_pred, toNat_succ, toNat_addn, toNat_subn, upP_len, snocB0, upP_app] at hx); subst hx) | rw [List.take_length] | (rw [List.take_of_length_le]; rotate_left; (first | omega | (simp only [dlen, true_and, and_true, Nat.le_refl, List.length_map, List.length_append, List.length_cons, List.length_nil, List.length_take, List.length_drop, List.length_replicate, Int.toNat_natCast, List.append_nil, hb5, upP_len] <;> omega) | fail)) | refine fun h => ?_ | fail)); all_goals (try exact (AV.dead : AV)); all_goals (try (conv => whnf))
  all_goals first
    | (refine ⟨i + 1, ⟨by omega, by omega⟩, ?_⟩
       first
         | rw [bm_set2 h (by omega)]
         | rw [bm_same h]
         | fail
       try simp only [List.length_map, upP_len]
       first
         | rw [show i / 8 + 1 = (i + 1 + 7) / 8 by omega]
         | rw [show (i + 7) / 8 = (i + 1 + 7) / 8 by omega]
         | fail
       exact (Forget.mk' ⟨⟨rfl, rfl⟩, ⟨rfl, rfl⟩, ⟨rfl, rfl⟩, trivial⟩ ⟨⟨rfl, rfl, rfl⟩, trivial⟩ rfl rfl))
    | (rw [bmP_end hI (by omega)]; done)
    | fail
theorem refBmWrite_con (l : List Bool) (hl : l.length ≤ 1000000) : Has Try.prog 43 [CV.d (D.sl 1 (l.map D.bool))] (fun rs _ => rs = [CV.own 5 1 ((bmW l).map byteD)] ) := by
  have hq := putN_len 8 l.length (by omega); have hpl := bmP_len l
  have hb5 : Try.prog.bytesOf 5 = 1 := by kernel_rfl
  refine Has_of_run (fn := Try.f43) (M := M0) fol (by kernel_rfl) 3 noPlan [.own] [] (by kernel_rfl) (Nat.le_of_ble_eq_true rfl) ?_
  (repeat' ((conv => whnf); first | done | (refine And.intro (fun h => ?_) (fun h => ?_) <;> (try simp only [Bool.or_eq_true, Bool.and_eq_true, Bool.or_eq_false_iff, Bool.and_eq_false_iff, toNat_pred, toNat_succ, toNat_addn, toNat_subn, decide_eq_true_eq, decide_eq_false_iff_not, Bool.not_eq_true', Bool.not_eq_false', List.length_map, Int.toNat_natCast, Int.not_lt, Int.not_le, Bool.not_eq_true, Bool.false_eq_true, Bool.true_eq_false, Bool.not_true, Bool.not_false, reduceCtorEq, beq_iff_eq, Bool.not_eq_eq_eq_not, bne_iff_ne, ne_eq, decide_not, Decidable.not_not, Classical.not_not] at h)) | exact (rfl : (_ : AV) = _) | exact (rfl : (_ : St) = _) | refine Exists.intro (α := AV) AV.dead (And.intro (fun h => Bool.noConfusion h) ?_) | apply ex_av | (refine fun (h : (_ : Bool) = true) => ?_; have h' := h; (try simp only [Bool.or_eq_true, Bool.and_eq_true, Bool.or_eq_false_iff, Bool.and_eq_false_iff, toNat_pred, toNat_succ, toNat_addn, toNat_subn, decide_eq_true_eq, decide_eq_false_iff_not, Bool.not_eq_true', Bool.not_eq_false', List.length_map, Int.toNat_natCast, Int.not_lt, Int.not_le, Bool.not_eq_true, Bool.false_eq_true, Bool.true_eq_false, Bool.not_true, Bool.not_false, reduceCtorEq, beq_iff_eq, Bool.not_eq_eq_eq_not, bne_iff_ne, ne_eq, decide_not, Decidable.not_not, Classical.not_not] at h')) | (refine And.intro (a := Both _ _ _) ?_ ?_; (refine ⟨fun h => ?_, fun h => ?_⟩ <;> first | rfl | exact h | exact Bool.noConfusion h | (rw [h]; rfl) | (rw [h]; simp only [Bool.not_false, Bool.not_true, Bool.and_true]; assumption) | (simp_all; done) | fail); skip) | refine And.intro rfl ?_ | refine Two.mk ?_ ?_ | refine And.intro (allU8_bytes _) ?_ | (refine And.intro (a := (_ : Bool) = true) ?_ ?_; (first | assumption | exact decide_eq_true (by assumption) | (rw [Bool.not_eq_true']; exact decide_eq_false (by assumption)) | (rw [Bool.not_not]; exact decide_eq_true (by assumption)) | (simp_all; done) | fail); skip) | refine And.intro (Or.inr rfl) ?_ | refine And.intro (Nat.le_of_ble_eq_true rfl) ?_ | refine And.intro (decide_eq_false (by omega)) ?_ | refine And.intro (show Program.stoodInHeld _ _ = _ by kernel_rfl) (And.intro (by kernel_rfl) ?_) | refine And.intro (show Nat.beq _ _ = _ from rfl) (And.intro (by decide) ?_) | refine And.intro ⟨rfl, rfl⟩ ?_ | refine And.intro ⟨rfl, rfl, trivial⟩ ?_ | refine And.intro (Int.natCast_nonneg _) ?_ | refine Or.inl (And.intro rfl (And.intro rfl (And.intro rfl (And.intro rfl ?_)))) | refine Or.inl (And.intro rfl (And.intro rfl ?_)) | refine Or.inr (And.intro (Nat.le_of_ble_eq_true rfl) ?_) | refine Or.inl (And.intro (by unfold in64; omega) ?_) | refine And.intro (by first | omega | (simp only [dlen, true_and, and_true, Nat.le_refl, List.length_map, List.length_append, List.length_cons, List.length_nil, List.length_take, List.length_drop, List.length_replicate, Int.toNat_natCast, List.append_nil, hb5] <;> omega) | fail) ?_ | refine And.intro (allU8_bytes _) ?_ | refine And.intro (show elemsP _ _ _ by repeat' (first | exact rfl | exact trivial | constructor)) ?_ | (refine (put01_con l.length (by omega)).mono fun rs bs hr => ?_; subst hr) | (refine (refBm_con l hl).mono fun rs bs hr => ?_; subst hr) | (refine fun x hx => ?_; (try simp (disch := omega) only [Int.tdiv_eq_ediv_of_nonneg, Int.tmod_eq_emod_of_nonneg, bx, Bool.true_or, Bool.false_or, Bool.or_false, Bool.or_true, Bool.and_true, Bool.true_and, Bool.false_and, Bool.and_false, cond_true, cond_false, if_true, if_false, Bool.false_eq_true, min_nn, max_nn, min_ln, min_nl, max_ln, max_nl, getD_map, str_of_bytes, take_bytes, take_data, wrap_u64, wrap_u32, wrap_u8, shr_i64, shr_u64, shr_u32, shl_i64, shl_u64, Int.reduceToNat, Int.reducePow, Int.pow_succ, Int.pow_zero, Int.one_mul, Int.reduceMul, wrap_id, wrap_u8_nat, wrap_i64_u8, byteD_mk, map_snoc, map_app, set_map, take_map', drop_map', Nat.sub_zero, List.length_map, List.length_append, List.length_cons, List.length_nil, Int.toNat_natCast, List.drop_zero, List.take_succ_cons, List.take_zero, List.take_length, List.nil_append, List.append_nil, Nat.zero_add, toNat_pred, toNat_succ, toNat_addn, toNat_subn] at hx); subst hx) | rw [List.take_length] | (rw [List.take_of_length_le]; rotate_left; (first | omega | (simp only [dlen, true_and, and_true, Nat.le_refl, List.length_map, List.length_append, List.length_cons, List.length_nil, List.length_take, List.length_drop, List.length_replicate, Int.toNat_natCast, List.append_nil, hb5] <;> omega) | fail)) | refine fun h => ?_ | fail)); all_goals (try exact (AV.dead : AV)); all_goals (try (conv => whnf))
  rfl
end Go.Fw
namespace Go.Fw
open Go Go.Proofs
set_option maxHeartbeats 10000000
set_option maxRecDepth 100000
set_option linter.constructorNameAsVariable false
set_option linter.unusedVariables false
set_option linter.unusedSimpArgs false
theorem gramWrite_con (f : Filt) (hw : FWr f) : Has Try.prog 21 [CV.d (f.d)] (fun rs _ => rs = [CV.own 5 1 ((filtW f).map byteD)] ) := by
  have h0 := hw.ok.b0; have h1 := hw.ok.b1; have hbl := hw.ok.bl; have hzl := hw.zl; have hq := putN_len 8 f.b.toNat (by omega); have hq2 := putN_len 8 f.bs.length (by omega); have hpl := bmW_len f.bs; have hsl := stepN_len f.zs; have hkw := pkW_len (l := stepN f.zs) (by omega) (fun x h => by have := stepN_lt hw.ok.rise hw.zr x h; omega)
  have hb3 : Try.prog.bytesOf 3 = 8 := by kernel_rfl
  have hb5 : Try.prog.bytesOf 5 = 1 := by kernel_rfl
  refine Has_of_run (fn := Try.f21) (M := M0) fol (by kernel_rfl) 1 noPlan [.own] [] (by kernel_rfl) (Nat.le_of_ble_eq_true rfl) ?_
  (repeat' ((conv => whnf); first | done | (refine And.intro (fun h => ?_) (fun h => ?_) <;> (try simp only [Bool.or_eq_true, Bool.and_eq_true, Bool.or_eq_false_iff, Bool.and_eq_false_iff, toNat_pred, toNat_succ, toNat_addn, toNat_subn, decide_eq_true_eq, decide_eq_false_iff_not, Bool.not_eq_true', Bool.not_eq_false', List.length_map, Int.toNat_natCast, Int.not_lt, Int.not_le, Bool.not_eq_true, Bool.false_eq_true, Bool.true_eq_false, Bool.not_true, Bool.not_false, reduceCtorEq, beq_iff_eq, Bool.not_eq_eq_eq_not, bne_iff_ne, ne_eq, decide_not, Decidable.not_not, Classical.not_not, stepL_len] at h)) | exact (rfl : (_ : AV) = _) | exact (rfl : (_ : St) = _) | refine Exists.intro (α := AV) AV.dead (And.intro (fun h => Bool.noConfusion h) ?_) | apply ex_av | (refine fun (h : (_ : Bool) = true) => ?_; have h' := h; (try simp only [Bool.or_eq_true, Bool.and_eq_true, Bool.or_eq_false_iff, Bool.and_eq_false_iff, toNat_pred, toNat_succ, toNat_addn, toNat_subn, decide_eq_true_eq, decide_eq_false_iff_not, Bool.not_eq_true', Bool.not_eq_false', List.length_map, Int.toNat_natCast, Int.not_lt, Int.not_le, Bool.not_eq_true, Bool.false_eq_true, Bool.true_eq_false, Bool.not_true, Bool.not_false, reduceCtorEq, beq_iff_eq, Bool.not_eq_eq_eq_not, bne_iff_ne, ne_eq, decide_not, Decidable.not_not, Classical.not_not, stepL_len] at h')) | (refine And.intro (a := Both _ _ _) ?_ ?_; (refine ⟨fun h => ?_, fun h => ?_⟩ <;> first | rfl | exact h | exact Bool.noConfusion h | (rw [h]; rfl) | (rw [h]; simp only [Bool.not_false, Bool.not_true, Bool.and_true]; assumption) | (simp_all; done) | fail); skip) | refine And.intro rfl ?_ | refine Two.mk ?_ ?_ | refine And.intro (allU8_bytes _) ?_ | (refine And.intro (a := (_ : Bool) = true) ?_ ?_; (first | assumption | exact decide_eq_true (by assumption) | (rw [Bool.not_eq_true']; exact decide_eq_false (by assumption)) | (rw [Bool.not_not]; exact decide_eq_true (by assumption)) | (simp_all; done) | fail); skip) | refine And.intro (Or.inr rfl) ?_ | refine And.intro (Nat.le_of_ble_eq_true rfl) ?_ | refine And.intro (decide_eq_false (by omega)) ?_ | refine And.intro (show Program.stoodInHeld _ _ = _ by kernel_rfl) (And.intro (by kernel_rfl) ?_) | refine And.intro (show Nat.beq _ _ = _ from rfl) (And.intro (by decide) ?_) | refine And.intro ⟨rfl, rfl⟩ ?_ | refine And.intro ⟨rfl, rfl, trivial⟩ ?_ | refine And.intro (Int.natCast_nonneg _) ?_ | refine Or.inl (And.intro rfl (And.intro rfl (And.intro rfl (And.intro rfl ?_)))) | refine Or.inl (And.intro rfl (And.intro rfl ?_)) | refine Or.inr (And.intro (Nat.le_of_ble_eq_true rfl) ?_) | refine Or.inl (And.intro (by unfold in64; omega) ?_) | refine And.intro (by first | omega | (simp only [dlen, true_and, and_true, Nat.le_refl, List.length_map, List.length_append, List.length_cons, List.length_nil, List.length_take, List.length_drop, List.length_replicate, Int.toNat_natCast, List.append_nil, hb3, hb5, stepL_len] <;> omega) | fail) ?_ | refine And.intro (allU8_bytes _) ?_ | refine And.intro (show elemsP _ _ _ by repeat' (first | exact rfl | exact trivial | constructor)) ?_ | ((rw [show f.b = ((f.b.toNat : Nat) : Int) by omega]; refine (curPut_con f.b.toNat (by omega)).mono fun rs bs hr => ?_; subst hr)) | ((rw [ha, show i = f.zs.length by omega, stepN_int hw.ok.rise hw.zr]; refine (packWrite_con (stepN f.zs) (by omega) (fun x h => by have := stepN_lt hw.ok.rise hw.zr x h; omega)).mono fun rs bs hr => ?_; subst hr)) | (refine (bmWrite_con f.bs (by omega)).mono fun rs bs hr => ?_; subst hr) | (refine Loops.by (M := M0) 1 noPlan fol (by kernel_rfl) (ι := Nat × Int × List Int) (fun ⟨i, pv, a⟩ => ⟨[(3, AV.ref [3] 16 1 0 ((putN f.b.toNat).map byteD).length), (4, AV.ref [4] 17 1 0 (a.map intD).length), (5, AV.d (D.int .i64 pv)), (22, AV.d (D.sl 1 (f.zs.map intD))), (23, AV.d (D.int .i64 f.zs.length)), (24, AV.d (D.int .i64 i))], [([3], 16, AO.row 5 1 ((putN f.b.toNat).map byteD)), ([4], 17, AO.row 3 1 (a.map intD))], 18⟩) (fun ⟨i, pv, a⟩ => i ≤ f.zs.length ∧ pv = prevZ f.zs i ∧ a = stepL f.zs i) (fun ⟨i, pv, a⟩ => f.zs.length - i) (fun p hI => ?_) ((0, 0, [])) ⟨Nat.zero_le _, rfl, rfl⟩ (Forget.mk' ⟨⟨rfl, rfl⟩, ⟨rfl, rfl⟩, ⟨rfl, rfl⟩, ⟨rfl, rfl⟩, ⟨rfl, rfl⟩, ⟨rfl, rfl⟩, trivial⟩ ⟨⟨rfl, rfl, rfl⟩, ⟨rfl, rfl, rfl⟩, trivial⟩ rfl rfl); obtain ⟨i, pv, a⟩ := p; obtain ⟨hi, hpz, ha⟩ := hI; have hpv := prevZ_range hw.zr i hi; have hav := at_range hw.zr i; have hav1 := at_range hw.zr (i - 1); have hal : a.length = i := (by rw [ha, stepL_len])) | (refine fun x hx => ?_; (try simp (disch := omega) only [Int.tdiv_eq_ediv_of_nonneg, Int.tmod_eq_emod_of_nonneg, bx, Bool.true_or, Bool.false_or, Bool.or_false, Bool.or_true, Bool.and_true, Bool.true_and, Bool.false_and, Bool.and_false, cond_true, cond_false, if_true, if_false, Bool.false_eq_true, min_nn, max_nn, min_ln, min_nl, max_ln, max_nl, getD_map, str_of_bytes, take_bytes, take_data, wrap_u64, wrap_u32, wrap_u8, shr_i64, shr_u64, shr_u32, shl_i64, shl_u64, Int.reduceToNat, Int.reducePow, Int.pow_succ, Int.pow_zero, Int.one_mul, Int.reduceMul, wrap_id, wrap_u8_nat, wrap_i64_u8, byteD_mk, map_snoc, map_app, set_map, take_map', drop_map', Nat.sub_zero, List.length_map, List.length_append, List.length_cons, List.length_nil, Int.toNat_natCast, List.drop_zero, List.take_succ_cons, List.take_zero, List.take_length, List.nil_append, List.append_nil, Nat.zero_add, toNat_pred, toNat_succ, toNat_addn, toNat_subn, stepL_len, snocZ] at hx); subst hx) | rw [List.take_length] | (rw [List.take_of_length_le]; rotate_left; (first | omega | (simp only [dlen, true_and, and_true, Nat.le_refl, List.length_map, List.length_append, List.length_cons, List.length_nil, List.length_take, List.length_drop, List.length_replicate, Int.toNat_natCast, List.append_nil, hb3, hb5, stepL_len] <;> omega) | fail)) | refine fun h => ?_ | fail)); all_goals (try exact (AV.dead : AV)); all_goals (try (conv => whnf))
  all_goals first
    | (rw [filtW, if_pos (by omega)]; done)
    | (rw [filtW, if_neg (by omega), show f.b.toNat = 0 by omega]; done)
    | exact ⟨(i + 1, f.zs.getD i default, _), ⟨⟨by omega, (prevZ_succ _ _).symm, by rw [ha, hpz, stepL_prev]⟩, by show f.zs.length - (i + 1) < f.zs.length - i; omega⟩, (Forget.mk' ⟨⟨rfl, rfl⟩, ⟨rfl, rfl⟩, ⟨rfl, rfl⟩, ⟨rfl, rfl⟩, ⟨rfl, rfl⟩, ⟨rfl, rfl⟩, trivial⟩ ⟨⟨rfl, rfl, rfl⟩, ⟨rfl, rfl, rfl⟩, trivial⟩ rfl rfl)⟩
    | fail
def pl24 : Nat → Plan
  | 2 => tks 0 [0] (tks 3 [0] (.tak 1 .rd [2, 5, 6, 7] (.two 2 (.tak 4 .rd [5, 6, 7] (.one 5 (.one 6 (.one 7 (.done))))) 4 (.one 2 (.one 5 (.one 6 (.one 7 (.done))))))))
  | 9 => tks 0 [0, 0] (tks 3 [0] (tks 6 [0] (tks 8 [0, 0] (.tak 2 .rd [4, 5, 12, 13, 14, 15] (tks 4 [0] (.tak 5 .rd [12, 13, 14, 15] (.tak 7 .rd [10, 11, 12, 13, 14, 15] (tks 10 [0] (.tak 11 .rd [12, 13, 14, 15] (tks 12 [0] (.one 13 (.one 14 (.one 15 (.done))))))))))))))
  | _ => .done
theorem refGramWrite_con (f : Filt) (hw : FWr f) : Has Try.prog 24 [CV.d (f.d)] (fun rs _ => rs = [CV.own 5 1 ((filtW f).map byteD)] ) := by
  have h0 := hw.ok.b0; have h1 := hw.ok.b1; have hbl := hw.ok.bl; have hzl := hw.zl; have hq := putN_len 8 f.b.toNat (by omega); have hq0 := putN_len 8 0 (by omega); have hq2 := putN_len 8 f.bs.length (by omega); have hpl := bmW_len f.bs; have hsl := stepN_len f.zs; have hkw := pkW_len (l := stepN f.zs) (by omega) (fun x h => by have := stepN_lt hw.ok.rise hw.zr x h; omega)
  have hb3 : Try.prog.bytesOf 3 = 8 := by kernel_rfl
  have hb5 : Try.prog.bytesOf 5 = 1 := by kernel_rfl
  refine Has_of_run (fn := Try.f24) (M := M0) fol (by kernel_rfl) 1 pl24 [.own] [] (by kernel_rfl) (Nat.le_of_ble_eq_true rfl) ?_
  (repeat' ((conv => whnf); first | done | (refine And.intro (fun h => ?_) (fun h => ?_) <;> (try simp only [Bool.or_eq_true, Bool.and_eq_true, Bool.or_eq_false_iff, Bool.and_eq_false_iff, toNat_pred, toNat_succ, toNat_addn, toNat_subn, decide_eq_true_eq, decide_eq_false_iff_not, Bool.not_eq_true', Bool.not_eq_false', List.length_map, Int.toNat_natCast, Int.not_lt, Int.not_le, Bool.not_eq_true, Bool.false_eq_true, Bool.true_eq_false, Bool.not_true, Bool.not_false, reduceCtorEq, beq_iff_eq, Bool.not_eq_eq_eq_not, bne_iff_ne, ne_eq, decide_not, Decidable.not_not, Classical.not_not, stepL_len] at h)) | exact (rfl : (_ : AV) = _) | exact (rfl : (_ : St) = _) | refine Exists.intro (α := AV) AV.dead (And.intro (fun h => Bool.noConfusion h) ?_) | apply ex_av | (refine fun (h : (_ : Bool) = true) => ?_; have h' := h; (try simp only [Bool.or_eq_true, Bool.and_eq_true, Bool.or_eq_false_iff, Bool.and_eq_false_iff, toNat_pred, toNat_succ, toNat_addn, toNat_subn, decide_eq_true_eq, decide_eq_false_iff_not, Bool.not_eq_true', Bool.not_eq_false', List.length_map, Int.toNat_natCast, Int.not_lt, Int.not_le, Bool.not_eq_true, Bool.false_eq_true, Bool.true_eq_false, Bool.not_true, Bool.not_false, reduceCtorEq, beq_iff_eq, Bool.not_eq_eq_eq_not, bne_iff_ne, ne_eq, decide_not, Decidable.not_not, Classical.not_not, stepL_len] at h')) | (refine And.intro (a := Both _ _ _) ?_ ?_; (refine ⟨fun h => ?_, fun h => ?_⟩ <;> first | rfl | exact h | exact Bool.noConfusion h | (rw [h]; rfl) | (rw [h]; simp only [Bool.not_false, Bool.not_true, Bool.and_true]; assumption) | (simp_all; done) | fail); skip) | refine And.intro rfl ?_ | refine Two.mk ?_ ?_ | refine And.intro (allU8_bytes _) ?_ | (refine And.intro (a := (_ : Bool) = true) ?_ ?_; (first | assumption | exact decide_eq_true (by assumption) | (rw [Bool.not_eq_true']; exact decide_eq_false (by assumption)) | (rw [Bool.not_not]; exact decide_eq_true (by assumption)) | (simp_all; done) | fail); skip) | refine And.intro (Or.inr rfl) ?_ | refine And.intro (Nat.le_of_ble_eq_true rfl) ?_ | refine And.intro (decide_eq_false (by omega)) ?_ | refine And.intro (show Program.stoodInHeld _ _ = _ by kernel_rfl) (And.intro (by kernel_rfl) ?_) | refine And.intro (show Nat.beq _ _ = _ from rfl) (And.intro (by decide) ?_) | refine And.intro ⟨rfl, rfl⟩ ?_ | refine And.intro ⟨rfl, rfl, trivial⟩ ?_ | refine And.intro (Int.natCast_nonneg _) ?_ | refine Or.inl (And.intro rfl (And.intro rfl (And.intro rfl (And.intro rfl ?_)))) | refine Or.inl (And.intro rfl (And.intro rfl ?_)) | refine Or.inr (And.intro (Nat.le_of_ble_eq_true rfl) ?_) | refine Or.inl (And.intro (by unfold in64; omega) ?_) | refine And.intro (by first | omega | (simp only [dlen, true_and, and_true, Nat.le_refl, List.length_map, List.length_append, List.length_cons, List.length_nil, List.length_take, List.length_drop, List.length_replicate, Int.toNat_natCast, List.append_nil, hb3, hb5, stepL_len] <;> omega) | fail) ?_ | refine And.intro (allU8_bytes _) ?_ | refine And.intro (show elemsP _ _ _ by repeat' (first | exact rfl | exact trivial | constructor)) ?_ | ((rw [show f.b = ((f.b.toNat : Nat) : Int) by omega]; refine (put01_con f.b.toNat (by omega)).mono fun rs bs hr => ?_; subst hr)) | (refine (put01_con 0 (by omega)).mono fun rs bs hr => ?_; subst hr) | ((rw [ha, show i = f.zs.length by omega, stepN_int hw.ok.rise hw.zr]; refine (write03_con (stepN f.zs) (by omega) (fun x h => by have := stepN_lt hw.ok.rise hw.zr x h; omega)).mono fun rs bs hr => ?_; subst hr)) | (refine (refBmWrite_con f.bs (by omega)).mono fun rs bs hr => ?_; subst hr) | (refine Loops.by (M := M0) 1 pl24 fol (by kernel_rfl) (ι := Nat × List Int) (fun ⟨i, a⟩ => ⟨[(1, AV.addr [1] 16 0), (3, AV.ref [3] 17 1 0 (a.map intD).length), (4, AV.d (D.int .i64 i))], [([1], 16, AO.box 28 [AV.d (D.int .i64 f.b), AV.d (D.sl 1 (f.zs.map intD)), AV.d (D.sl 1 (f.bs.map D.bool))]), ([3], 17, AO.row 3 1 (a.map intD))], 18⟩) (fun ⟨i, a⟩ => i ≤ f.zs.length ∧ a = stepL f.zs i) (fun ⟨i, a⟩ => f.zs.length - i) (fun p hI => ?_) ((0, [])) ⟨Nat.zero_le _, rfl⟩ (Forget.mk' ⟨⟨rfl, rfl⟩, ⟨rfl, rfl⟩, ⟨rfl, rfl⟩, trivial⟩ ⟨⟨rfl, rfl, rfl⟩, ⟨rfl, rfl, rfl⟩, trivial⟩ rfl rfl); obtain ⟨i, a⟩ := p; obtain ⟨hi, ha⟩ := hI; have hpv := prevZ_range hw.zr i hi; have hav := at_range hw.zr i; have hav1 := at_range hw.zr (i - 1); have hal : a.length = i := (by rw [ha, stepL_len])) | (refine fun x hx => ?_; (try simp (disch := omega) only [Int.tdiv_eq_ediv_of_nonneg, Int.tmod_eq_emod_of_nonneg, bx, Bool.true_or, Bool.false_or, Bool.or_false, Bool.or_true, Bool.and_true, Bool.true_and, Bool.false_and, Bool.and_false, cond_true, cond_false, if_true, if_false, Bool.false_eq_true, min_nn, max_nn, min_ln, min_nl, max_ln, max_nl, getD_map, str_of_bytes, take_bytes, take_data, wrap_u64, wrap_u32, wrap_u8, shr_i64, shr_u64, shr_u32, shl_i64, shl_u64, Int.reduceToNat, Int.reducePow, Int.pow_succ, Int.pow_zero, Int.one_mul, Int.reduceMul, wrap_id, wrap_u8_nat, wrap_i64_u8, byteD_mk, map_snoc, map_app, set_map, take_map', drop_map', Nat.sub_zero, List.length_map, List.length_append, List.length_cons, List.length_nil, Int.toNat_natCast, List.drop_zero, List.take_succ_cons, List.take_zero, List.take_length, List.nil_append, List.append_nil, Nat.zero_add, toNat_pred, toNat_succ, toNat_addn, toNat_subn, stepL_len, snocZ] at hx); subst hx) | rw [List.take_length] | (rw [List.take_of_length_le]; rotate_left; (first | omega | (simp only [dlen, true_and, and_true, Nat.le_refl, List.length_map, List.length_append, List.length_cons, List.length_nil, List.length_take, List.length_drop, List.length_replicate, Int.toNat_natCast, List.append_nil, hb3, hb5, stepL_len] <;> omega) | fail)) | refine fun h => ?_ | fail)); all_goals (try exact (AV.dead : AV)); all_goals (try (conv => whnf))
  all_goals first
    | (rw [filtW, if_pos (by omega)]; done)
    | (rw [filtW, if_neg (by omega)]; done)
    | exact ⟨(i + 1, _), ⟨⟨by omega, by rw [ha, ← stepL_prev, prevZ, if_pos (by omega), show i = 0 by omega, Int.sub_zero]⟩, by show f.zs.length - (i + 1) < f.zs.length - i; omega⟩, (Forget.mk' ⟨⟨rfl, rfl⟩, ⟨rfl, rfl⟩, ⟨rfl, rfl⟩, trivial⟩ ⟨⟨rfl, rfl, rfl⟩, ⟨rfl, rfl, rfl⟩, trivial⟩ rfl rfl)⟩
    | exact ⟨(i + 1, _), ⟨⟨by omega, by rw [ha, ← stepL_prev, prevZ, if_neg (by omega)]⟩, by show f.zs.length - (i + 1) < f.zs.length - i; omega⟩, (Forget.mk' ⟨⟨rfl, rfl⟩, ⟨rfl, rfl⟩, ⟨rfl, rfl⟩, trivial⟩ ⟨⟨rfl, rfl, rfl⟩, ⟨rfl, rfl, rfl⟩, trivial⟩ rfl rfl)⟩
    | fail
end Go.Fw
namespace Go.Fw
open Go Go.Proofs
set_option maxHeartbeats 10000000
set_option maxRecDepth 100000
set_option linter.constructorNameAsVariable false
set_option linter.unusedVariables false
set_option linter.unusedSimpArgs false
theorem make_none (l : List ByteArray) (hl : l.length ≤ 1000) (hz : sizeL l ≤ 60000) : Has Try.prog 10 [.d (.sl 1 (l.map D.str)), .d (.int .i64 0)] (fun rs _ => rs = [.agg [.d (.int .i64 0), .own 3 1 ((gramsS l).map intD), .nils], .d (.int .i64 0)]) :=
  (make_con l 0 hl hz).mono fun rs bs h => by rw [h, makeR, if_neg (by omega), if_pos rfl]
theorem make_some (l : List ByteArray) (b : Int) (hl : l.length ≤ 1000) (hz : sizeL l ≤ 60000) (h0 : 0 < b) (h1 : b ≤ 65536) : Has Try.prog 10 [.d (.sl 1 (l.map D.str)), .d (.int .i64 b)] (fun rs _ => rs = [.agg [.d (.int .i64 b), .nils, .own 4 1 ((bitsS b (gramsS l)).map D.bool)], .d (.int .i64 0)]) :=
  (make_con l b hl hz).mono fun rs bs h => by rw [h, makeR, if_neg (by omega), if_neg (by omega)]
theorem make_bad (l : List ByteArray) (b : Int) (hl : l.length ≤ 1000) (hz : sizeL l ≤ 60000) (h0 : b < 0 ∨ 65536 < b) : Has Try.prog 10 [.d (.sl 1 (l.map D.str)), .d (.int .i64 b)] (fun rs _ => rs = [.agg [.d (.int .i64 0), .nils, .nils], .d (.int .i64 1)]) :=
  (make_con l b hl hz).mono fun rs bs h => by rw [h, makeR, if_pos h0]
def abcd : ByteArray := ⟨#[97, 98, 99, 100]⟩
theorem gramS_of {s : ByteArray} {zs : List Int} (h : gramL s = zs) (hr : Rise zs) : gramS s = zs := rise_ext (gramS_rise s) hr fun x => by rw [gramS_mem, h]
theorem gS_abcd : gramS abcd = [6382179, 6447972] := gramS_of (by decide) (by simp [Rise])
theorem gsS_abcd : gramsS [abcd] = [6382179, 6447972] := by rw [gramsS_one, gS_abcd]
theorem gS_abc : gramS ⟨#[97, 98, 99]⟩ = [6382179] := gramS_of (by decide) (by simp [Rise])
theorem gS_acd : gramS ⟨#[97, 99, 100]⟩ = [6382436] := gramS_of (by decide) (by simp [Rise])
theorem gS_bcd : gramS ⟨#[98, 99, 100]⟩ = [6447972] := gramS_of (by decide) (by simp [Rise])
theorem fok_none (l : List ByteArray) : FOK ⟨0, gramsS l, []⟩ := ⟨by simp, by simp, fun h => by simp at h, gramsS_rise l, gramsS_len2 l, by simp⟩
theorem fok_some (l : List ByteArray) (b : Int) (h0 : 0 < b) (h1 : b ≤ 65536) : FOK ⟨b, [], bitsS b (gramsS l)⟩ := ⟨by show (0 : Int) ≤ b; omega, h1, fun _ => by simp [bitsS_len], by simp [Rise], by simp, by simp [bitsS_len]; omega⟩
theorem fwr_none (l : List ByteArray) (hz : sizeL l ≤ 60000) : FWr ⟨0, gramsS l, []⟩ := ⟨fok_none l, by have := gramsS_len l; show (gramsS l).length ≤ _; omega, fun x hx => gramsS_range hx⟩
theorem fwr_some (l : List ByteArray) (b : Int) (h0 : 0 < b) (h1 : b ≤ 65536) : FWr ⟨b, [], bitsS b (gramsS l)⟩ := ⟨fok_some l b h0 h1, by simp, by simp⟩
theorem ints_abcd : Has Try.prog 13 [.d (.sl 1 ((gramS abcd).map intD)), .d (.sl 1 [.int .i64 6382179, .int .i64 6447972])] (fun rs _ => rs = [.d (.bool true)]) :=
  (ints_con (gramS abcd) [6382179, 6447972]).mono fun rs bs h => by rw [h, gS_abcd]; rfl
theorem may_abc : Has Try.prog 18 [.d (Filt.d ⟨0, gramsS [abcd], []⟩), .d (.str ⟨#[97, 98, 99]⟩)] (fun rs _ => rs = [.d (.bool true)]) :=
  (may_con ⟨0, gramsS [abcd], []⟩ ⟨#[97, 98, 99]⟩ (fok_none _) (by decide)).mono fun rs bs h => by rw [h, mayF, gS_abc, gsS_abcd]; rfl
theorem may_acd : Has Try.prog 18 [.d (Filt.d ⟨0, gramsS [abcd], []⟩), .d (.str ⟨#[97, 99, 100]⟩)] (fun rs _ => rs = [.d (.bool false)]) :=
  (may_con ⟨0, gramsS [abcd], []⟩ ⟨#[97, 99, 100]⟩ (fok_none _) (by decide)).mono fun rs bs h => by rw [h, mayF, gS_acd, gsS_abcd]; rfl
theorem may_bcd : Has Try.prog 18 [.d (Filt.d ⟨8, [], bitsS 8 (gramsS [abcd])⟩), .d (.str ⟨#[98, 99, 100]⟩)] (fun rs _ => rs = [.d (.bool true)]) :=
  (may_con ⟨8, [], bitsS 8 (gramsS [abcd])⟩ ⟨#[98, 99, 100]⟩ (fok_some _ _ (by decide) (by decide)) (by decide)).mono fun rs bs h => by rw [h, mayF, gS_bcd, gsS_abcd]; rfl
theorem write_abcd : Has Try.prog 21 [.d (Filt.d ⟨0, gramsS [abcd], []⟩)] (fun rs _ => rs = [.own 5 1 ((filtW ⟨0, gramsS [abcd], []⟩).map byteD)]) := gramWrite_con _ (fwr_none _ (by decide))
theorem write_big : 2 < (filtW ⟨0, gramsS [abcd], []⟩).length := by
  rw [filtW, if_neg (by simp)]
  have h1 := putN_pos 0
  have h2 := putN_pos (stepN (gramsS [abcd])).length
  simp only [pkW, List.length_append, List.length_cons]
  omega
end Go.Fw
namespace Go.Fw
open Go Go.Proofs
set_option maxHeartbeats 10000000
set_option maxRecDepth 100000
set_option linter.constructorNameAsVariable false
set_option linter.unusedVariables false
set_option linter.unusedSimpArgs false
theorem awake15_con : Has Try.prog 8 [] (fun rs _ => rs = [CV.d (D.bool true)]) := by
  refine Has_of_run (fn := Try.f8) (M := M0) fol (by kernel_rfl) 1 noPlan [] [] (by kernel_rfl) (Nat.le_of_ble_eq_true rfl) ?_
  (repeat' ((conv => whnf); first | done | (refine And.intro (fun h => ?_) (fun h => ?_) <;> (try simp only [Bool.or_eq_true, Bool.and_eq_true, Bool.or_eq_false_iff, Bool.and_eq_false_iff, toNat_pred, toNat_succ, toNat_addn, toNat_subn, decide_eq_true_eq, decide_eq_false_iff_not, Bool.not_eq_true', Bool.not_eq_false', List.length_map, Int.toNat_natCast, Int.not_lt, Int.not_le, Bool.not_eq_true, Bool.false_eq_true, Bool.true_eq_false, Bool.not_true, Bool.not_false, reduceCtorEq, beq_iff_eq, Bool.not_eq_eq_eq_not, bne_iff_ne, ne_eq, decide_not, Decidable.not_not, Classical.not_not] at h)) | exact (rfl : (_ : AV) = _) | exact (rfl : (_ : St) = _) | refine Exists.intro (α := AV) AV.dead (And.intro (fun h => Bool.noConfusion h) ?_) | apply ex_av | (refine fun (h : (_ : Bool) = true) => ?_; have h' := h; (try simp only [Bool.or_eq_true, Bool.and_eq_true, Bool.or_eq_false_iff, Bool.and_eq_false_iff, toNat_pred, toNat_succ, toNat_addn, toNat_subn, decide_eq_true_eq, decide_eq_false_iff_not, Bool.not_eq_true', Bool.not_eq_false', List.length_map, Int.toNat_natCast, Int.not_lt, Int.not_le, Bool.not_eq_true, Bool.false_eq_true, Bool.true_eq_false, Bool.not_true, Bool.not_false, reduceCtorEq, beq_iff_eq, Bool.not_eq_eq_eq_not, bne_iff_ne, ne_eq, decide_not, Decidable.not_not, Classical.not_not] at h')) | (refine And.intro (a := Both _ _ _) ?_ ?_; (refine ⟨fun h => ?_, fun h => ?_⟩ <;> first | rfl | exact h | exact Bool.noConfusion h | (rw [h]; rfl) | (rw [h]; simp only [Bool.not_false, Bool.not_true, Bool.and_true]; assumption) | (simp_all; done) | fail); skip) | refine And.intro rfl ?_ | refine Two.mk ?_ ?_ | refine And.intro (allU8_bytes _) ?_ | (refine And.intro (a := (_ : Bool) = true) ?_ ?_; (first | assumption | exact decide_eq_true (by assumption) | (rw [Bool.not_eq_true']; exact decide_eq_false (by assumption)) | (rw [Bool.not_not]; exact decide_eq_true (by assumption)) | (simp_all; done) | fail); skip) | refine And.intro (Or.inr rfl) ?_ | refine And.intro (Nat.le_of_ble_eq_true rfl) ?_ | refine And.intro (decide_eq_false (by omega)) ?_ | refine And.intro (show Program.stoodInHeld _ _ = _ by kernel_rfl) (And.intro (by kernel_rfl) ?_) | refine And.intro (show Nat.beq _ _ = _ from rfl) (And.intro (by decide) ?_) | refine And.intro ⟨rfl, rfl⟩ ?_ | refine And.intro ⟨rfl, rfl, trivial⟩ ?_ | refine And.intro (Int.natCast_nonneg _) ?_ | refine Or.inl (And.intro rfl (And.intro rfl (And.intro rfl (And.intro rfl ?_)))) | refine Or.inl (And.intro rfl (And.intro rfl ?_)) | refine Or.inr (And.intro (Nat.le_of_ble_eq_true rfl) ?_) | refine Or.inl (And.intro (by unfold in64; omega) ?_) | refine And.intro (by first | omega | (simp only [dlen, true_and, and_true, Nat.le_refl, List.length_map, List.length_append, List.length_cons, List.length_nil, List.length_take, List.length_drop, List.length_replicate, Int.toNat_natCast, List.append_nil] <;> omega) | fail) ?_ | refine And.intro (allU8_bytes _) ?_ | refine And.intro (show elemsP _ _ _ by repeat' (first | exact rfl | exact trivial | constructor)) ?_ | (refine (make_none [abcd] (by decide) (by decide)).mono fun rs bs hr => ?_; subst hr) | (refine (make_some [abcd] 8 (by decide) (by decide) (by decide) (by decide)).mono fun rs bs hr => ?_; subst hr) | (refine (grams_con abcd (by decide)).mono fun rs bs hr => ?_; subst hr) | (refine (ints_abcd).mono fun rs bs hr => ?_; subst hr) | (refine Has.mono (Has.norm (may_abc) (by rfl)) (fun rs bs hr => ?_); subst hr) | (refine Has.mono (Has.norm (may_acd) (by rfl)) (fun rs bs hr => ?_); subst hr) | (refine Has.mono (Has.norm (may_bcd) (by rfl)) (fun rs bs hr => ?_); subst hr) | (refine Has.mono (Has.norm (write_abcd) (by rfl)) (fun rs bs hr => ?_); subst hr) | (refine fun x hx => ?_; (try simp (disch := omega) only [Int.tdiv_eq_ediv_of_nonneg, Int.tmod_eq_emod_of_nonneg, bx, Bool.true_or, Bool.false_or, Bool.or_false, Bool.or_true, Bool.and_true, Bool.true_and, Bool.false_and, Bool.and_false, cond_true, cond_false, if_true, if_false, Bool.false_eq_true, min_nn, max_nn, min_ln, min_nl, max_ln, max_nl, getD_map, str_of_bytes, take_bytes, take_data, wrap_u64, wrap_u32, wrap_u8, shr_i64, shr_u64, shr_u32, shl_i64, shl_u64, Int.reduceToNat, Int.reducePow, Int.pow_succ, Int.pow_zero, Int.one_mul, Int.reduceMul, wrap_id, wrap_u8_nat, wrap_i64_u8, byteD_mk, map_snoc, map_app, set_map, take_map', drop_map', Nat.sub_zero, List.length_map, List.length_append, List.length_cons, List.length_nil, Int.toNat_natCast, List.drop_zero, List.take_succ_cons, List.take_zero, List.take_length, List.nil_append, List.append_nil, Nat.zero_add, toNat_pred, toNat_succ, toNat_addn, toNat_subn] at hx); subst hx) | rw [List.take_length] | (rw [List.take_of_length_le]; rotate_left; (first | omega | (simp only [dlen, true_and, and_true, Nat.le_refl, List.length_map, List.length_append, List.length_cons, List.length_nil, List.length_take, List.length_drop, List.length_replicate, Int.toNat_natCast, List.append_nil] <;> omega) | fail)) | refine fun h => ?_ | fail)); all_goals (try exact (AV.dead : AV)); all_goals (try (conv => whnf))
  all_goals first
    | (exfalso; simp_all; done)
    | exact rb (by have := write_big; simp; omega)
    | fail
end Go.Fw
namespace Go.Fw
open Go
set_option linter.unusedVariables false
set_option linter.unusedSimpArgs false
theorem bulk_strs0 : ∀ l : List ByteArray, sizeL l ≤ bulkDl (l.map D.str)
  | [] => by simp [sizeL, bulkDl]
  | s :: r => by
    have h := bulk_strs0 r
    unfold sizeL at h ⊢
    simp only [List.map_cons, List.sum_cons, bulkDl, bulkD]
    omega
theorem bulk_strs {l : List ByteArray} {xs : List D} {m : Nat} (h : bulkDl (.sl 1 (l.map D.str) :: xs) ≤ m) : sizeL l ≤ m := by
  simp only [bulkDl, bulkD] at h
  have := bulk_strs0 l
  omega
theorem four_args {P : Program} {t u v o : TypeId} {xs : List D} (h : HasTs P [t, u, v, o] xs) : ∃ x y z q, xs = [x, y, z, q] ∧ HasT P t x ∧ HasT P u y ∧ HasT P v z ∧ HasT P o q := by
  match xs, h with
  | [x, y, z, q], h => exact ⟨x, y, z, q, rfl, h.1, h.2.1, h.2.2.1, h.2.2.2.1⟩
theorem mod_range (n m : Int) (h : 0 < m) : 0 ≤ n % m ∧ n % m < m := ⟨Int.emod_nonneg _ (by omega), Int.emod_lt_of_pos _ h⟩
theorem u16_range {n : Int} (h : (Lit.int .u16 n).wf = true) : 0 ≤ n ∧ n < 65536 := by
  simp [Lit.wf, IntKind.min, IntKind.max, IntKind.signed, IntKind.bits] at h
  omega
theorem u32_range {n : Int} (h : (Lit.int .u32 n).wf = true) : 0 ≤ n ∧ n < 4294967296 := by
  simp [Lit.wf, IntKind.min, IntKind.max, IntKind.signed, IntKind.bits] at h
  omega
end Go.Fw
namespace Go.Fw
open Go Go.Proofs
set_option maxHeartbeats 10000000
set_option maxRecDepth 100000
set_option linter.constructorNameAsVariable false
set_option linter.unusedVariables false
set_option linter.unusedSimpArgs false
theorem same_none (l : List ByteArray) (z : Nat) : Has Try.prog 11 [.d (Filt.d ⟨0, gramsS l, []⟩), .d (Filt.d ⟨0, gramsS l, []⟩)] (fun rs _ => rs = [.d (.bool true)]) :=
  (same15_con 0 0 (gramsS l) (gramsS l) [] []).mono fun rs bs h => by rw [h]; simp
theorem same_some (l : List ByteArray) (b : Int) : Has Try.prog 11 [.d (Filt.d ⟨b, [], bitsS b (gramsS l)⟩), .d (Filt.d ⟨b, [], bitsS b (gramsS l)⟩)] (fun rs _ => rs = [.d (.bool true)]) :=
  (same15_con b b [] [] _ _).mono fun rs bs h => by rw [h]; simp
theorem same_zero : Has Try.prog 11 [.d (Filt.d ⟨0, [], []⟩), .d (Filt.d ⟨0, [], []⟩)] (fun rs _ => rs = [.d (.bool true)]) :=
  (same15_con 0 0 [] [] [] []).mono fun rs bs h => by rw [h]; simp
theorem refMake_none (l : List ByteArray) (hl : l.length ≤ 1000) (hz : ∀ s ∈ l, s.size ≤ maxLen) : Has Try.prog 12 [.d (.sl 1 (l.map D.str)), .d (.int .i64 0)] (fun rs _ => rs = [.agg [.d (.int .i64 0), .own 3 1 ((gramsS l).map intD), .nils]]) :=
  (refMake_con l 0 hl hz (by decide) (by decide)).mono fun rs bs h => by rw [h, filtR, if_pos rfl]
theorem refMake_some (l : List ByteArray) (b : Int) (hl : l.length ≤ 1000) (hz : ∀ s ∈ l, s.size ≤ maxLen) (h0 : 0 < b) (h1 : b ≤ 65536) : Has Try.prog 12 [.d (.sl 1 (l.map D.str)), .d (.int .i64 b)] (fun rs _ => rs = [.agg [.d (.int .i64 b), .nils, .own 4 1 ((bitsS b (gramsS l)).map D.bool)]]) :=
  (refMake_con l b hl hz (by omega) h1).mono fun rs bs h => by rw [h, filtR, if_neg (by omega)]
theorem bits_cases (b : Int) : (b < 0 ∨ 65536 < b) ∨ b = 0 ∨ (0 < b ∧ b ≤ 65536) := by omega
theorem sizeL_max {l : List ByteArray} (hz : sizeL l ≤ 1048576) : ∀ s ∈ l, s.size ≤ maxLen := fun s hs => by
  obtain ⟨j, hj, e⟩ := List.getElem_of_mem hs
  have h1 := sizeL_getD l j hj
  rw [List.getD_eq_getElem?_getD, List.getElem?_eq_getElem hj] at h1
  have h2 : s.size ≤ sizeL l := e ▸ h1
  unfold maxLen
  omega
theorem few_len' {l : List ByteArray} (h : fewW l = true) : l.length ≤ 1000 := Nat.le_trans (fewW_len h) (by omega)
theorem few_size' {l : List ByteArray} (hz : sizeL l ≤ 1048576) (h : fewW l = true) : sizeL l ≤ 60000 := Nat.le_trans (fewW_size hz h) (by omega)
def pl3 : Nat → Plan
  | 6 => tks 0 [0, 0, 0] (tks 4 [0, 0] (.two 3 (.one 6 (.one 7 (tks 8 [0] (.one 9 (.done))))) 6 (tks 3 [1] (.one 7 (tks 8 [0] (.one 9 (.done)))))))
  | _ => .done
theorem gramMakes_con (l : List ByteArray) (bits : Int) (hz : sizeL l ≤ 1048576) : Has Try.prog 3 [CV.d (D.sl 1 (l.map D.str)), CV.d (D.int .i64 bits)] (fun rs _ => rs = [CV.d (D.bool true)]) := by
  refine Has_of_run (fn := Try.f3) (M := M0) fol (by kernel_rfl) 5 pl3 [] [] (by kernel_rfl) (Nat.le_of_ble_eq_true rfl) ?_
  (repeat' ((conv => whnf); first | done | (refine And.intro (fun h => ?_) (fun h => ?_) <;> (try simp only [Bool.or_eq_true, Bool.and_eq_true, Bool.or_eq_false_iff, Bool.and_eq_false_iff, toNat_pred, toNat_succ, toNat_addn, toNat_subn, decide_eq_true_eq, decide_eq_false_iff_not, Bool.not_eq_true', Bool.not_eq_false', List.length_map, Int.toNat_natCast, Int.not_lt, Int.not_le, Bool.not_eq_true, Bool.false_eq_true, Bool.true_eq_false, Bool.not_true, Bool.not_false, reduceCtorEq, beq_iff_eq, Bool.not_eq_eq_eq_not, bne_iff_ne, ne_eq, decide_not, Decidable.not_not, Classical.not_not] at h)) | exact (rfl : (_ : AV) = _) | exact (rfl : (_ : St) = _) | refine Exists.intro (α := AV) AV.dead (And.intro (fun h => Bool.noConfusion h) ?_) | apply ex_av | (refine fun (h : (_ : Bool) = true) => ?_; have h' := h; (try simp only [Bool.or_eq_true, Bool.and_eq_true, Bool.or_eq_false_iff, Bool.and_eq_false_iff, toNat_pred, toNat_succ, toNat_addn, toNat_subn, decide_eq_true_eq, decide_eq_false_iff_not, Bool.not_eq_true', Bool.not_eq_false', List.length_map, Int.toNat_natCast, Int.not_lt, Int.not_le, Bool.not_eq_true, Bool.false_eq_true, Bool.true_eq_false, Bool.not_true, Bool.not_false, reduceCtorEq, beq_iff_eq, Bool.not_eq_eq_eq_not, bne_iff_ne, ne_eq, decide_not, Decidable.not_not, Classical.not_not] at h')) | (refine And.intro (a := Both _ _ _) ?_ ?_; (refine ⟨fun h => ?_, fun h => ?_⟩ <;> first | rfl | exact h | exact Bool.noConfusion h | (rw [h]; rfl) | (rw [h]; simp only [Bool.not_false, Bool.not_true, Bool.and_true]; assumption) | (simp_all; done) | fail); skip) | refine And.intro rfl ?_ | refine Two.mk ?_ ?_ | refine And.intro (allU8_bytes _) ?_ | (refine And.intro (a := (_ : Bool) = true) ?_ ?_; (first | assumption | exact decide_eq_true (by assumption) | (rw [Bool.not_eq_true']; exact decide_eq_false (by assumption)) | (rw [Bool.not_not]; exact decide_eq_true (by assumption)) | (simp_all; done) | fail); skip) | refine And.intro (Or.inr rfl) ?_ | refine And.intro (Nat.le_of_ble_eq_true rfl) ?_ | refine And.intro (decide_eq_false (by omega)) ?_ | refine And.intro (show Program.stoodInHeld _ _ = _ by kernel_rfl) (And.intro (by kernel_rfl) ?_) | refine And.intro (show Nat.beq _ _ = _ from rfl) (And.intro (by decide) ?_) | refine And.intro ⟨rfl, rfl⟩ ?_ | refine And.intro ⟨rfl, rfl, trivial⟩ ?_ | refine And.intro (Int.natCast_nonneg _) ?_ | refine Or.inl (And.intro rfl (And.intro rfl (And.intro rfl (And.intro rfl ?_)))) | refine Or.inl (And.intro rfl (And.intro rfl ?_)) | refine Or.inr (And.intro (Nat.le_of_ble_eq_true rfl) ?_) | refine Or.inl (And.intro (by unfold in64; omega) ?_) | refine And.intro (by first | omega | (simp only [dlen, true_and, and_true, Nat.le_refl, List.length_map, List.length_append, List.length_cons, List.length_nil, List.length_take, List.length_drop, List.length_replicate, Int.toNat_natCast, List.append_nil] <;> omega) | fail) ?_ | refine And.intro (allU8_bytes _) ?_ | refine And.intro (show elemsP _ _ _ by repeat' (first | exact rfl | exact trivial | constructor)) ?_ | (refine (awake15_con).mono fun rs bs hr => ?_; subst hr) | (refine (few15_con l).mono fun rs bs hr => ?_; subst hr) | ((have hfw : fewW l = true := (by simp_all; done); have hz2 := few_size' hz hfw; have hl2 := few_len' hfw; rcases bits_cases bits with hb | hb | hb; all_goals first | refine (make_bad l bits hl2 hz2 hb).mono fun rs bs hr => ?_; subst hr | (subst hb; refine (make_none l hl2 hz2).mono fun rs bs hr => ?_; subst hr) | refine (make_some l bits hl2 hz2 hb.1 hb.2).mono fun rs bs hr => ?_; subst hr | fail)) | (refine (refMake_none l (few_len' ‹_›) (sizeL_max hz)).mono fun rs bs hr => ?_; subst hr) | (refine (refMake_some l bits hl2 (sizeL_max hz) hb.1 hb.2).mono fun rs bs hr => ?_; subst hr) | (refine Has.mono (Has.norm (same_none l 0) (by rfl)) (fun rs bs hr => ?_); subst hr) | (refine Has.mono (Has.norm (same_some l bits) (by rfl)) (fun rs bs hr => ?_); subst hr) | (refine Has.mono (Has.norm (same_zero) (by rfl)) (fun rs bs hr => ?_); subst hr) | (refine fun x hx => ?_; (try simp (disch := omega) only [Int.tdiv_eq_ediv_of_nonneg, Int.tmod_eq_emod_of_nonneg, bx, Bool.true_or, Bool.false_or, Bool.or_false, Bool.or_true, Bool.and_true, Bool.true_and, Bool.false_and, Bool.and_false, cond_true, cond_false, if_true, if_false, Bool.false_eq_true, min_nn, max_nn, min_ln, min_nl, max_ln, max_nl, getD_map, str_of_bytes, take_bytes, take_data, wrap_u64, wrap_u32, wrap_u8, shr_i64, shr_u64, shr_u32, shl_i64, shl_u64, Int.reduceToNat, Int.reducePow, Int.pow_succ, Int.pow_zero, Int.one_mul, Int.reduceMul, wrap_id, wrap_u8_nat, wrap_i64_u8, byteD_mk, map_snoc, map_app, set_map, take_map', drop_map', Nat.sub_zero, List.length_map, List.length_append, List.length_cons, List.length_nil, Int.toNat_natCast, List.drop_zero, List.take_succ_cons, List.take_zero, List.take_length, List.nil_append, List.append_nil, Nat.zero_add, toNat_pred, toNat_succ, toNat_addn, toNat_subn] at hx); subst hx) | rw [List.take_length] | (rw [List.take_of_length_le]; rotate_left; (first | omega | (simp only [dlen, true_and, and_true, Nat.le_refl, List.length_map, List.length_append, List.length_cons, List.length_nil, List.length_take, List.length_drop, List.length_replicate, Int.toNat_natCast, List.append_nil] <;> omega) | fail)) | refine fun h => ?_ | fail)); all_goals (try exact (AV.dead : AV)); all_goals (try (conv => whnf))
  all_goals first
    | (exfalso; omega)
    | (exfalso; simp_all; done)
    | fail
theorem gramMakes_law (xs : List D) (h : HasTs Try.prog Try.f3.params.toList xs) (hm : bulkDl xs ≤ 1048576) : Has Try.prog 3 (xs.map CV.d) (fun rs _ => rs = [.d (.bool true)]) := by
  obtain ⟨x, y, rfl, h1, h2⟩ := two_args h
  obtain ⟨l, rfl, _, _⟩ := h1.asStrs (e := 9) (by kernel_rfl) (by kernel_rfl) (by kernel_rfl)
  obtain ⟨n, rfl, _⟩ := h2.asInt (k := .i64) (by kernel_rfl)
  exact gramMakes_con l n (bulk_strs hm)
end Go.Fw
namespace Go.Fw
open Go Go.Proofs
set_option maxHeartbeats 10000000
set_option maxRecDepth 100000
set_option linter.constructorNameAsVariable false
set_option linter.unusedVariables false
set_option linter.unusedSimpArgs false
def M48 : FuncId → List Mode := fun g => if g = 45 then [.own] else if g = 49 then [.own] else if g = 65 then [.own] else if g = 68 then [.own] else []
theorem read_step (b c u : List UInt8) (n r n1 n2 n3 w : Nat) (e many e1 e2 e3 : Int) (hb : b.length ≤ 1000000000) (hn : n ≤ b.length) (h0 : 0 ≤ many) (hm : many ≤ 100000) (h1 : mostS b n e many = (r, n1, e1)) (h2 : takeB b n1 e1 1 = (c, n2, e2)) (hw : byteOf1 c = (w : Int)) (h3 : takeB b n2 e2 (sizeP r w : Nat) = (u, n3, e3)) (hn1 : n1 ≤ b.length) (hn2 : n2 ≤ b.length) (hn3 : n3 ≤ b.length) (hr : (r : Int) ≤ many) (hul : u.length ≤ b.length) : Has Try.prog 48 [curC b n e, CV.d (D.int .i64 many)] (fun rs bs => (∃ z, (z = 1 ∨ (readP b n e many).1 = []) ∧ rs = [CV.d (D.sl z ((readP b n e many).1.map natD))]) ∧ bs = [curC b (readP b n e many).2.1 (readP b n e many).2.2, .gone] ) := by
  rw [readP_eq h1 h2 hw h3]
  have hb3 : Try.prog.bytesOf 3 = 8 := by kernel_rfl
  refine Has_of_run (fn := Try.f48) (M := M48) fol (by kernel_rfl) 12 noPlan [] [true] (by kernel_rfl) (Nat.le_of_ble_eq_true rfl) ?_
  (repeat' ((conv => whnf); first | done | (refine And.intro (fun h => ?_) (fun h => ?_) <;> (try simp only [Bool.or_eq_true, Bool.and_eq_true, Bool.or_eq_false_iff, Bool.and_eq_false_iff, toNat_pred, toNat_succ, toNat_addn, toNat_subn, decide_eq_true_eq, decide_eq_false_iff_not, Bool.not_eq_true', Bool.not_eq_false', List.length_map, Int.toNat_natCast, Int.not_lt, Int.not_le, Bool.not_eq_true, Bool.false_eq_true, Bool.true_eq_false, Bool.not_true, Bool.not_false, reduceCtorEq, beq_iff_eq, Bool.not_eq_eq_eq_not, bne_iff_ne, ne_eq, decide_not, Decidable.not_not, Classical.not_not, gets_len, List.length_range] at h)) | exact (rfl : (_ : AV) = _) | exact (rfl : (_ : St) = _) | refine Exists.intro (α := AV) AV.dead (And.intro (fun h => Bool.noConfusion h) ?_) | apply ex_av | (refine fun (h : (_ : Bool) = true) => ?_; have h' := h; (try simp only [Bool.or_eq_true, Bool.and_eq_true, Bool.or_eq_false_iff, Bool.and_eq_false_iff, toNat_pred, toNat_succ, toNat_addn, toNat_subn, decide_eq_true_eq, decide_eq_false_iff_not, Bool.not_eq_true', Bool.not_eq_false', List.length_map, Int.toNat_natCast, Int.not_lt, Int.not_le, Bool.not_eq_true, Bool.false_eq_true, Bool.true_eq_false, Bool.not_true, Bool.not_false, reduceCtorEq, beq_iff_eq, Bool.not_eq_eq_eq_not, bne_iff_ne, ne_eq, decide_not, Decidable.not_not, Classical.not_not, gets_len, List.length_range] at h')) | (refine And.intro (a := Both _ _ _) ?_ ?_; (refine ⟨fun h => ?_, fun h => ?_⟩ <;> first | rfl | exact h | exact Bool.noConfusion h | (rw [h]; rfl) | (rw [h]; simp only [Bool.not_false, Bool.not_true, Bool.and_true]; assumption) | (simp_all; done) | fail); skip) | refine And.intro rfl ?_ | refine Two.mk ?_ ?_ | refine And.intro (allU8_bytes _) ?_ | (refine And.intro (a := (_ : Bool) = true) ?_ ?_; (first | assumption | exact decide_eq_true (by assumption) | (rw [Bool.not_eq_true']; exact decide_eq_false (by assumption)) | (rw [Bool.not_not]; exact decide_eq_true (by assumption)) | (simp_all; done) | fail); skip) | refine And.intro (Or.inr rfl) ?_ | refine And.intro (Nat.le_of_ble_eq_true rfl) ?_ | refine And.intro (decide_eq_false (by omega)) ?_ | refine And.intro (show Program.stoodInHeld _ _ = _ by kernel_rfl) (And.intro (by kernel_rfl) ?_) | refine And.intro (show Nat.beq _ _ = _ from rfl) (And.intro (by decide) ?_) | refine And.intro ⟨rfl, rfl⟩ ?_ | refine And.intro ⟨rfl, rfl, trivial⟩ ?_ | refine And.intro (Int.natCast_nonneg _) ?_ | refine Or.inl (And.intro rfl (And.intro rfl (And.intro rfl (And.intro rfl ?_)))) | refine Or.inl (And.intro rfl (And.intro rfl ?_)) | refine Or.inr (And.intro (Nat.le_of_ble_eq_true rfl) ?_) | refine Or.inl (And.intro (by unfold in64; omega) ?_) | refine And.intro (by first | omega | (simp only [dlen, true_and, and_true, Nat.le_refl, List.length_map, List.length_append, List.length_cons, List.length_nil, List.length_take, List.length_drop, List.length_replicate, Int.toNat_natCast, List.append_nil, hb3, gets_len, List.length_range] <;> omega) | fail) ?_ | refine And.intro (allU8_bytes _) ?_ | refine And.intro (show elemsP _ _ _ by repeat' (first | exact rfl | exact trivial | constructor)) ?_ | (refine (curMost_con _ _ _ _ hb (by assumption)).mono fun rs bs hr => ?_; obtain ⟨rfl, rfl⟩ := hr; simp only [h1]) | (refine (curByte_con _ _ _ hb (by assumption)).mono fun rs bs hr => ?_; obtain ⟨rfl, rfl⟩ := hr; simp only [h2, hw]) | (refine (curFail_con _ _ _ _).mono fun rs bs hr => ?_; obtain ⟨rfl, rfl⟩ := hr) | (refine (size_con r w (by omega) (by omega)).mono fun rs bs hr => ?_; subst hr) | (refine (curBytes_con _ _ _ _ hb (by assumption)).mono fun rs bs hr => ?_; obtain ⟨rfl, rfl⟩ := hr; simp only [h3]) | (refine (get_con u w _ (by omega) (by omega) (by omega)).mono fun rs bs hr => ?_; subst hr) | (refine (packPut_con _ w (by rw [gets_len]; omega) (by omega) gets_lt).mono fun rs bs hr => ?_; subst hr) | (refine (packWidth_con _ (by rw [gets_len]; omega) (gets_lt32 (by omega))).mono fun rs bs hr => ?_; subst hr) | (refine (equal_con _ u).mono fun rs bs hr => ?_; subst hr) | (refine Loops.by (M := M48) 12 noPlan fol (by kernel_rfl) (ι := Nat) (fun i => ⟨[(0, AV.addr [0] 0 0), (6, AV.d (D.int .i64 w)), (7, AV.d (D.sl 1 (u.map byteD))), (8, AV.ref [8] 16 1 0 (((List.range i).map (getP u w)).map natD).length), (32, AV.d (D.int .i64 r)), (33, AV.d (D.int .i64 i))], [([0], 0, AO.box 72 [AV.d (D.sl 1 (b.map byteD)), AV.d (D.int .i64 n3), AV.d (D.int .i64 e3)]), ([8], 16, AO.row 3 1 (((List.range i).map (getP u w)).map natD))], 17⟩) (fun i => i ≤ r) (fun i => r - i) (fun i hI => ?_) (0) (Nat.zero_le _) (Forget.mk' ⟨⟨rfl, rfl⟩, ⟨rfl, rfl⟩, ⟨rfl, rfl⟩, ⟨rfl, rfl⟩, ⟨rfl, rfl⟩, ⟨rfl, rfl⟩, trivial⟩ ⟨⟨rfl, rfl, rfl⟩, ⟨rfl, rfl, rfl⟩, trivial⟩ rfl rfl)) | (refine fun x hx => ?_; (try simp (disch := omega) only [Int.tdiv_eq_ediv_of_nonneg, Int.tmod_eq_emod_of_nonneg, bx, Bool.true_or, Bool.false_or, Bool.or_false, Bool.or_true, Bool.and_true, Bool.true_and, Bool.false_and, Bool.and_false, cond_true, cond_false, if_true, if_false, Bool.false_eq_true, min_nn, max_nn, min_ln, min_nl, max_ln, max_nl, getD_map, str_of_bytes, take_bytes, take_data, wrap_u64, wrap_u32, wrap_u8, shr_i64, shr_u64, shr_u32, shl_i64, shl_u64, Int.reduceToNat, Int.reducePow, Int.pow_succ, Int.pow_zero, Int.one_mul, Int.reduceMul, wrap_id, wrap_u8_nat, wrap_i64_u8, byteD_mk, map_snoc, map_app, set_map, take_map', drop_map', Nat.sub_zero, List.length_map, List.length_append, List.length_cons, List.length_nil, Int.toNat_natCast, List.drop_zero, List.take_succ_cons, List.take_zero, List.take_length, List.nil_append, List.append_nil, Nat.zero_add, toNat_pred, toNat_succ, toNat_addn, toNat_subn, gets_len, List.length_range, snocN, gets_snoc] at hx); subst hx) | rw [List.take_length] | (rw [List.take_of_length_le]; rotate_left; (first | omega | (simp only [dlen, true_and, and_true, Nat.le_refl, List.length_map, List.length_append, List.length_cons, List.length_nil, List.length_take, List.length_drop, List.length_replicate, Int.toNat_natCast, List.append_nil, hb3, gets_len, List.length_range] <;> omega) | fail)) | refine fun h => ?_ | fail)); all_goals (try exact (AV.dead : AV)); all_goals (try (conv => whnf))
  all_goals first
    | (rw [if_pos (by omega)]; exact ⟨⟨_, .inr rfl, rfl⟩, rfl⟩)
    | (rw [if_neg (by omega), if_pos (by omega)]; exact ⟨⟨_, .inr rfl, rfl⟩, rfl⟩)
    | exact ⟨i + 1, ⟨by omega, by omega⟩, (Forget.mk' ⟨⟨rfl, rfl⟩, ⟨rfl, rfl⟩, ⟨rfl, rfl⟩, ⟨rfl, rfl⟩, ⟨rfl, rfl⟩, ⟨rfl, rfl⟩, trivial⟩ ⟨⟨rfl, rfl, rfl⟩, ⟨rfl, rfl, rfl⟩, trivial⟩ rfl rfl)⟩
    | (have hir : i = r := by omega
       subst hir
       have h32 : ¬ 32 < w := by omega
       have hul' : ¬ u.length < sizeP i w := by omega
       rw [if_neg h32, if_neg hul']
       by_cases hc : widN ((List.range i).map (getP u w)) = w ∧ putP ((List.range i).map (getP u w)) w = u
       · first
           | (exfalso; omega)
           | (exfalso; exact absurd hc.2 (by assumption))
           | (rw [if_pos hc]; exact ⟨⟨_, .inl rfl, rfl⟩, rfl⟩)
           | (trace_state; fail)
       · first
           | (rw [if_neg hc]; exact ⟨⟨_, .inr rfl, rfl⟩, rfl⟩)
           | exact absurd ⟨by omega, by assumption⟩ hc
           | (trace_state; fail))
    | (trace_state; fail)
theorem packRead_con (b : List UInt8) (n : Nat) (e many : Int) (hb : b.length ≤ 1000000000) (hn : n ≤ b.length) (h0 : 0 ≤ many) (hm : many ≤ 100000) : Has Try.prog 48 [curC b n e, CV.d (D.int .i64 many)] (fun rs bs => rs = [CV.d (D.sl 1 ((readP b n e many).1.map natD))] ∧ bs = [curC b (readP b n e many).2.1 (readP b n e many).2.2, .gone]) := by
  have l1 : (mostS b n e many).2.1 ≤ b.length := mostS_le hn
  have l2 : (takeB b (mostS b n e many).2.1 (mostS b n e many).2.2 1).2.1 ≤ b.length := takeB_le l1
  have hw := byteOf1_le (takeB b (mostS b n e many).2.1 (mostS b n e many).2.2 1).1
  have l3 := takeB_le (k := (sizeP (mostS b n e many).1 (byteOf1 (takeB b (mostS b n e many).2.1 (mostS b n e many).2.2 1).1).toNat : Nat)) (e := (takeB b (mostS b n e many).2.1 (mostS b n e many).2.2 1).2.2) l2
  refine (read_step b _ _ n _ _ _ _ (byteOf1 (takeB b (mostS b n e many).2.1 (mostS b n e many).2.2 1).1).toNat e many _ _ _ hb hn h0 hm rfl rfl (Int.toNat_of_nonneg hw.1).symm rfl l1 l2 l3 (mostS_most b n e h0) (takeB_len _ _ _ _)).normR fun rs bs h => ?_
  obtain ⟨⟨z, hz, rfl⟩, rfl⟩ := h
  refine ⟨_, ?_, rfl, rfl⟩
  rcases hz with rfl | hz
  · rfl
  · rw [hz]; rfl
end Go.Fw
namespace Go.Fw
open Go
set_option linter.unusedVariables false
set_option linter.unusedSimpArgs false
 
def Took (b : List UInt8) (n n' : Nat) (w : List UInt8) : Prop := b.take n' = b.take n ++ w ∧ n ≤ n' ∧ n' ≤ b.length
theorem Took.trans {b : List UInt8} {n n1 n2 : Nat} {w1 w2 : List UInt8} (h1 : Took b n n1 w1) (h2 : Took b n1 n2 w2) : Took b n n2 (w1 ++ w2) :=
  ⟨by rw [h2.1, h1.1, List.append_assoc], Nat.le_trans h1.2.1 h2.2.1, h2.2.2⟩
theorem failE_ne {e x : Int} (hx : x ≠ 0) : failE e x ≠ 0 := by
  unfold failE
  split <;> assumption
theorem takeB_took {b : List UInt8} {n : Nat} {e k : Int} (hn : n ≤ b.length) (h : (takeB b n e k).2.2 = 0) : e = 0 ∧ Took b n (takeB b n e k).2.1 (takeB b n e k).1 := by
  unfold takeB at h ⊢
  by_cases he : e = 0
  · rw [if_neg (by omega)] at h ⊢
    by_cases hk : k < 0
    · rw [if_pos hk] at h; simp at h
    · rw [if_neg hk] at h ⊢
      by_cases hc : (b.length : Int) - n < k
      · rw [if_pos hc] at h; simp at h
      · rw [if_neg hc]
        refine ⟨he, ?_, by show n ≤ n + k.toNat; omega, by show n + k.toNat ≤ b.length; omega⟩
        show b.take (n + k.toNat) = b.take n ++ (b.drop n).take k.toNat
        exact List.take_add
  · rw [if_pos he] at h
    exact absurd h he
theorem numGo_canon : ∀ (r : List UInt8) (i x v k : Nat), numGo r i x = (v, k, 0) → ∃ m, v = x + m * 128 ^ i ∧ i + (putN m).length = k ∧ r.take (k - i) = putN m ∧ (0 < m ∨ i = 0)
  | [], i, x, v, k, h => by simp [numGo] at h
  | b :: r, i, x, v, k, h => by
    simp only [numGo] at h
    have hb := b.toNat_lt
    by_cases h9 : i = 9
    · rw [if_pos h9] at h; simp at h
    · rw [if_neg h9] at h
      by_cases hs : b.toNat < 128
      · rw [if_pos hs] at h
        by_cases hz : b.toNat = 0 ∧ 0 < i
        · rw [if_pos hz] at h; simp at h
        · rw [if_neg hz] at h
          simp only [Prod.mk.injEq, and_true] at h
          obtain ⟨rfl, rfl⟩ := h
          refine ⟨b.toNat, by rw [Nat.mod_eq_of_lt hs], by rw [putN_lt hs]; rfl, ?_, by omega⟩
          rw [putN_lt hs, show i + 1 - i = 1 by omega]
          simp
      · rw [if_neg hs] at h
        obtain ⟨m, e1, e2, e3, e4⟩ := numGo_canon r (i + 1) _ v k h
        have hm : 0 < m := by omega
        have hM : putN (b.toNat % 128 + 128 * m) = b :: putN m := by
          rw [putN_ge (by omega), show (b.toNat % 128 + 128 * m) / 128 = m by omega, show (b.toNat % 128 + 128 * m) % 128 + 128 = b.toNat by omega]
          simp
        have hk : k - i = (k - (i + 1)) + 1 := by have := putN_pos m; omega
        refine ⟨b.toNat % 128 + 128 * m, ?_, by rw [hM, List.length_cons]; omega, ?_, .inl (by omega)⟩
        · rw [e1, Nat.pow_succ, Nat.add_assoc, Nat.add_mul]
          congr 2
          rw [Nat.mul_comm 128 m, Nat.mul_assoc, Nat.mul_comm (128 ^ i) 128]
        · rw [hM, hk, List.take_succ_cons, e3]
theorem numS_took {b : List UInt8} {n : Nat} {e : Int} (hn : n ≤ b.length) (h : (numS b n e).2.2 = 0) : e = 0 ∧ Took b n (numS b n e).2.1 (putN (numS b n e).1) := by
  have hle := numS_le (b := b) (n := n) (e := e) hn
  unfold numS at h hle ⊢
  by_cases he : e = 0
  · rw [if_pos he] at h hle ⊢
    refine ⟨he, ?_⟩
    simp only at h hle ⊢
    obtain ⟨m, e1, e2, e3, _⟩ := numGo_canon (b.drop n) 0 0 (numGo (b.drop n) 0 0).1 (numGo (b.drop n) 0 0).2.1 (by rw [← h])
    have e1' : (numGo (b.drop n) 0 0).1 = m := by rw [e1]; simp
    rw [e1']
    refine ⟨?_, by omega, hle⟩
    rw [List.take_add, ← e3, Nat.sub_zero]
  · rw [if_neg he] at h
    exact absurd h he
theorem mostS_took {b : List UInt8} {n : Nat} {e k : Int} (hn : n ≤ b.length) (h : (mostS b n e k).2.2 = 0) : e = 0 ∧ Took b n (mostS b n e k).2.1 (putN (mostS b n e k).1) := by
  unfold mostS at h ⊢
  split
  · rename_i hk
    rw [if_pos hk] at h
    exact absurd h (failE_ne (by omega))
  · rename_i hk
    rw [if_neg hk] at h
    exact numS_took hn h
theorem readP_took {b : List UInt8} {n : Nat} {e many : Int} (hn : n ≤ b.length) (h : (readP b n e many).2.2 = 0) : e = 0 ∧ Took b n (readP b n e many).2.1 (pkW (readP b n e many).1) := by
  simp only [readP] at h ⊢
  have l1 : (mostS b n e many).2.1 ≤ b.length := mostS_le hn
  have l2 : (takeB b (mostS b n e many).2.1 (mostS b n e many).2.2 1).2.1 ≤ b.length := takeB_le l1
  generalize hr : mostS b n e many = r at h l1 l2 ⊢
  generalize ht : takeB b r.2.1 r.2.2 1 = t at h l2 ⊢
  split
  · rename_i hw
    rw [if_pos hw] at h
    exact absurd h (failE_ne (by omega))
  · rename_i hw
    rw [if_neg hw] at h
    generalize hu : takeB b t.2.1 t.2.2 ((sizeP r.1 (byteOf1 t.1).toNat : Nat) : Int) = u at h ⊢
    split
    · rename_i hc
      rw [if_pos hc] at h
      simp only at h ⊢
      have h3 := takeB_took (k := ((sizeP r.1 (byteOf1 t.1).toNat : Nat) : Int)) l2 (by rw [hu]; exact h)
      exfalso
      have h4 := h3.2.1
      rw [hu] at h4
      have h5 : t.2.2 = 0 := h3.1
      have hk : u.1.length = sizeP r.1 (byteOf1 t.1).toNat := by
        have h6 : takeB b t.2.1 t.2.2 ((sizeP r.1 (byteOf1 t.1).toNat : Nat) : Int) = u := hu
        unfold takeB at h6
        rw [if_neg (by omega), if_neg (by omega)] at h6
        by_cases hcc : (b.length : Int) - t.2.1 < ((sizeP r.1 (byteOf1 t.1).toNat : Nat) : Int)
        · rw [if_pos hcc] at h6
          subst h6
          simp at h
        · rw [if_neg hcc] at h6
          subst h6
          simp
          omega
      omega
    · rename_i hc
      rw [if_neg hc] at h
      split
      · rename_i hp
        rw [if_pos hp] at h
        simp only at h ⊢
        have h3 := takeB_took (k := ((sizeP r.1 (byteOf1 t.1).toNat : Nat) : Int)) l2 (by rw [hu]; exact h)
        rw [hu] at h3
        have h2 := takeB_took (k := 1) l1 (by rw [ht]; exact h3.1)
        rw [ht] at h2
        have h1 := mostS_took (k := many) hn (by rw [hr]; exact h2.1)
        rw [hr] at h1
        refine ⟨h1.1, ?_⟩
        have hone : t.1 = [UInt8.ofNat (byteOf1 t.1).toNat] := by
          have h6 := ht
          unfold takeB at h6
          have e0 : r.2.2 = 0 := h2.1
          rw [if_neg (by omega), if_neg (by omega)] at h6
          by_cases hcc : (b.length : Int) - r.2.1 < 1
          · rw [if_pos hcc] at h6
            have := h3.1
            rw [← h6] at this
            simp at this
          · rw [if_neg hcc] at h6
            have hl : t.1.length = 1 := by rw [← h6]; simp; omega
            match t.1, hl with
            | [x], _ => simp [byteOf1]
        have h7 := h1.2.trans (h2.2.trans h3.2)
        rw [hone] at h7
        have e : pkW ((List.range r.1).map (getP u.1 (byteOf1 t.1).toNat)) = putN r.1 ++ ([UInt8.ofNat (byteOf1 t.1).toNat] ++ u.1) := by
          simp only [pkW, hp.1, hp.2]
          simp
        rw [e]
        exact h7
      · rename_i hp
        rw [if_neg hp] at h
        exact absurd h (failE_ne (by omega))
end Go.Fw
namespace Go.Fw
open Go
set_option linter.unusedVariables false
set_option linter.unusedSimpArgs false
def lastB (l : List ByteArray) : ByteArray := l.getD (l.length - 1) default
theorem lastB_snoc (l : List ByteArray) (s : ByteArray) : lastB (l ++ [s]) = s := by
  simp [lastB, List.getD_eq_getElem?_getD]
theorem lastB_one (s : ByteArray) : lastB [s] = s := rfl
theorem takGo_bad {b : List UInt8} {m n : Nat} {out : List ByteArray} {p : ByteArray} {e : Int} (h : ¬ (textS b (mostS b n e (p.size : Int)).2.1 (mostS b n e (p.size : Int)).2.2).2.2 = 0) :
    takGo b (m + 1) out p n e = (false, [], (textS b (mostS b n e (p.size : Int)).2.1 (mostS b n e (p.size : Int)).2.2).2.1, (textS b (mostS b n e (p.size : Int)).2.1 (mostS b n e (p.size : Int)).2.2).2.2) := by
  simp only [takGo, if_neg h]
theorem takGo_ok {b : List UInt8} {m n : Nat} {out : List ByteArray} {p : ByteArray} {e : Int} (h : (textS b (mostS b n e (p.size : Int)).2.1 (mostS b n e (p.size : Int)).2.2).2.2 = 0) :
    takGo b (m + 1) out p n e = takGo b m (out ++ [p.extract 0 (mostS b n e (p.size : Int)).1 ++ (textS b (mostS b n e (p.size : Int)).2.1 (mostS b n e (p.size : Int)).2.2).1])
      (p.extract 0 (mostS b n e (p.size : Int)).1 ++ (textS b (mostS b n e (p.size : Int)).2.1 (mostS b n e (p.size : Int)).2.2).1) (textS b (mostS b n e (p.size : Int)).2.1 (mostS b n e (p.size : Int)).2.2).2.1
      (if lcpS p (p.extract 0 (mostS b n e (p.size : Int)).1 ++ (textS b (mostS b n e (p.size : Int)).2.1 (mostS b n e (p.size : Int)).2.2).1) = (mostS b n e (p.size : Int)).1 then 0 else 3) := by
  simp only [takGo, if_pos h]
theorem takS_bad {b : List UInt8} {cnt size n n' : Nat} {e e' : Int} {o : List ByteArray} (h : takGo b (cnt - 1) [(textS b n e).1] (textS b n e).1 (textS b n e).2.1 (textS b n e).2.2 = (false, o, n', e')) : takS b cnt size n e = ([], n', e') := by
  simp only [takS, h]
  rfl
theorem takS_good {b : List UInt8} {cnt size n n' : Nat} {e e' : Int} {o : List ByteArray} (h : takGo b (cnt - 1) [(textS b n e).1] (textS b n e).1 (textS b n e).2.1 (textS b n e).2.2 = (true, o, n', e')) : takS b cnt size n e = (o, n', if n + size = n' then e' else failE e' 3) := by
  simp only [takS, h]
  rfl
theorem textS_size (b : List UInt8) (n : Nat) (e : Int) : (textS b n e).1.size ≤ 4096 := by
  have h := mostS_most b n e (k := 4096) (by omega)
  simp only [textS]
  generalize mostS b n e 4096 = r at *
  show (strB _).data.toList.length ≤ _
  simp only [strB]
  unfold takeB
  split
  · simp
  · split
    · simp
    · split
      · simp
      · simp only [List.length_take, List.length_drop]; omega
theorem cat_size (p t : ByteArray) (k : Nat) : (p.extract 0 k ++ t).size ≤ p.size + t.size := by
  simp only [ByteArray.size_append, ByteArray.size_extract]; omega
theorem takGo_len : ∀ (b : List UInt8) (m : Nat) (out : List ByteArray) (p : ByteArray) (n : Nat) (e : Int), (takGo b m out p n e).2.1.length ≤ out.length + m
  | b, 0, out, p, n, e => by simp [takGo]
  | b, m + 1, out, p, n, e => by
    by_cases h : (textS b (mostS b n e (p.size : Int)).2.1 (mostS b n e (p.size : Int)).2.2).2.2 = 0
    · rw [takGo_ok h]
      have := takGo_len b m (out ++ [p.extract 0 (mostS b n e (p.size : Int)).1 ++ (textS b (mostS b n e (p.size : Int)).2.1 (mostS b n e (p.size : Int)).2.2).1]) (p.extract 0 (mostS b n e (p.size : Int)).1 ++ (textS b (mostS b n e (p.size : Int)).2.1 (mostS b n e (p.size : Int)).2.2).1) (textS b (mostS b n e (p.size : Int)).2.1 (mostS b n e (p.size : Int)).2.2).2.1 (if lcpS p (p.extract 0 (mostS b n e (p.size : Int)).1 ++ (textS b (mostS b n e (p.size : Int)).2.1 (mostS b n e (p.size : Int)).2.2).1) = (mostS b n e (p.size : Int)).1 then 0 else 3)
      simp only [List.length_append, List.length_cons, List.length_nil] at this
      omega
    · rw [takGo_bad h]
      simp
theorem takGo_le : ∀ (b : List UInt8) (m : Nat) (out : List ByteArray) (p : ByteArray) (n : Nat) (e : Int), n ≤ b.length → (takGo b m out p n e).2.2.1 ≤ b.length
  | b, 0, out, p, n, e, hn => by simpa [takGo] using hn
  | b, m + 1, out, p, n, e, hn => by
    have h1 : (textS b (mostS b n e (p.size : Int)).2.1 (mostS b n e (p.size : Int)).2.2).2.1 ≤ b.length := textS_le (mostS_le hn)
    by_cases h : (textS b (mostS b n e (p.size : Int)).2.1 (mostS b n e (p.size : Int)).2.2).2.2 = 0
    · rw [takGo_ok h]
      exact takGo_le b m _ _ _ _ h1
    · rw [takGo_bad h]
      exact h1
theorem takS_len (b : List UInt8) (cnt size n : Nat) (e : Int) : (takS b cnt size n e).1.length ≤ cnt + 1 := by
  have h := takGo_len b (cnt - 1) [(textS b n e).1] (textS b n e).1 (textS b n e).2.1 (textS b n e).2.2
  simp only [takS]
  split
  · simp only [List.length_cons, List.length_nil] at h
    exact Nat.le_trans h (by omega)
  · simp
theorem takS_le {b : List UInt8} {cnt size n : Nat} {e : Int} (hn : n ≤ b.length) : (takS b cnt size n e).2.1 ≤ b.length := by
  have h := takGo_le b (cnt - 1) [(textS b n e).1] (textS b n e).1 (textS b n e).2.1 (textS b n e).2.2 (textS_le hn)
  simp only [takS]
  split <;> exact h
theorem ex_size (p : ByteArray) (k : Nat) : (p.extract 0 k).size ≤ p.size := by
  simp only [ByteArray.size_extract]; omega
theorem tak_end {b : List UInt8} {cnt size n i n' : Nat} {e e' : Int} {out : List ByteArray} (hi : i ≤ cnt - 1) (h : (cnt : Int) - 1 ≤ i)
    (hgo : takGo b (cnt - 1 - i) out (lastB out) n' e' = takGo b (cnt - 1) [(textS b n e).1] (textS b n e).1 (textS b n e).2.1 (textS b n e).2.2) : takS b cnt size n e = (out, n', if n + size = n' then e' else failE e' 3) := by
  refine takS_good ?_
  rw [← hgo, show cnt - 1 - i = 0 by omega]
  rfl
theorem tak_no {b : List UInt8} {cnt size n i n' : Nat} {e e' : Int} {out : List ByteArray} (h : (i : Int) < (cnt : Int) - 1) (hb : ¬ (textS b (mostS b n' e' ((lastB out).size : Int)).2.1 (mostS b n' e' ((lastB out).size : Int)).2.2).2.2 = 0)
    (hgo : takGo b (cnt - 1 - i) out (lastB out) n' e' = takGo b (cnt - 1) [(textS b n e).1] (textS b n e).1 (textS b n e).2.1 (textS b n e).2.2) :
    takS b cnt size n e = ([], (textS b (mostS b n' e' ((lastB out).size : Int)).2.1 (mostS b n' e' ((lastB out).size : Int)).2.2).2.1, (textS b (mostS b n' e' ((lastB out).size : Int)).2.1 (mostS b n' e' ((lastB out).size : Int)).2.2).2.2) := by
  refine takS_bad (o := []) ?_
  rw [← hgo, show cnt - 1 - i = cnt - 1 - i - 1 + 1 by omega, takGo_bad hb]
theorem tak_round {b : List UInt8} {cnt i n' : Nat} {e' E : Int} {out : List ByteArray} {T : Bool × List ByteArray × Nat × Int} (h : (i : Int) < (cnt : Int) - 1) (hb : (textS b (mostS b n' e' ((lastB out).size : Int)).2.1 (mostS b n' e' ((lastB out).size : Int)).2.2).2.2 = 0)
    (hgo : takGo b (cnt - 1 - i) out (lastB out) n' e' = T)
    (hE : E = if lcpS (lastB out) ((lastB out).extract 0 (mostS b n' e' ((lastB out).size : Int)).1 ++ (textS b (mostS b n' e' ((lastB out).size : Int)).2.1 (mostS b n' e' ((lastB out).size : Int)).2.2).1) = (mostS b n' e' ((lastB out).size : Int)).1 then 0 else 3) :
    takGo b (cnt - 1 - (i + 1)) (out ++ [(lastB out).extract 0 (mostS b n' e' ((lastB out).size : Int)).1 ++ (textS b (mostS b n' e' ((lastB out).size : Int)).2.1 (mostS b n' e' ((lastB out).size : Int)).2.2).1])
      (lastB (out ++ [(lastB out).extract 0 (mostS b n' e' ((lastB out).size : Int)).1 ++ (textS b (mostS b n' e' ((lastB out).size : Int)).2.1 (mostS b n' e' ((lastB out).size : Int)).2.2).1]))
      (textS b (mostS b n' e' ((lastB out).size : Int)).2.1 (mostS b n' e' ((lastB out).size : Int)).2.2).2.1 E = T := by
  rw [hE, lastB_snoc, ← takGo_ok hb, ← hgo]
  congr 1
  omega
theorem okF_noI {t : List ByteArray} {i : Nat} (h : (4096 : Int) < (t.getD i default).size ∨ 0 < (i : Int) ∧ slt (t.getD (i - 1) default) (t.getD i default) = false) : okF t i = false :=
  okF_no (h.imp (fun h => by omega) fun h => ⟨by omega, h.2⟩)
theorem quo_up (m k : Nat) : 0 ≤ ((m : Int) + k - 1) / k ∧ ((m : Int) + k - 1) / k ≤ m + k ∧ (0 < k → ((m : Int) + k - 1) / k = (((m + k - 1) / k : Nat) : Int)) := by
  by_cases hk : k = 0
  · subst hk
    simp
  · have e : (m : Int) + k - 1 = ((m + k - 1 : Nat) : Int) := by omega
    rw [e, ← Int.natCast_ediv]
    have := Nat.div_le_self (m + k - 1) k
    exact ⟨Int.natCast_nonneg _, by omega, fun _ => rfl⟩
theorem quo_lt {m k i L : Nat} (h : ¬ (k : Int) = 0 ∧ (L : Int) = ((m : Int) + k - 1) / k) (hi : (i : Int) < L) : i * k < m := by
  have hk : 0 < k := by omega
  have h1 := (quo_up m k).2.2 hk
  have h2 : L = (m + k - 1) / k := by have := h.2; omega
  have h3 : (i + 1) * k ≤ L * k := Nat.mul_le_mul_right _ (by omega)
  have h4 : L * k ≤ m + k - 1 := by rw [h2]; exact Nat.div_mul_le_self _ _
  rw [Nat.add_mul, Nat.one_mul] at h3
  omega
section
variable {b : List UInt8} {zs : List Nat} {n m k n1 n2 n3 n' i : Nat} {e e1 e2 e3 e' : Int} {l o : List ByteArray}
theorem openS_eq (h1 : mostS b n e 4096 = (m, n1, e1)) (h2 : mostS b n1 e1 64 = (k, n2, e2)) (h3 : readP b n2 e2 4096 = (zs, n3, e3)) :
    openS b n e = if k = 0 ∨ zs.length ≠ (m + k - 1) / k then ([], n3, failE e3 3) else
      if (opGo b k m zs 0 [] n3 e3).1 then (if rightF (opGo b k m zs 0 [] n3 e3).2.1 k && decide ((opGo b k m zs 0 [] n3 e3).2.2.2 = 0) then ((opGo b k m zs 0 [] n3 e3).2.1, (opGo b k m zs 0 [] n3 e3).2.2.1, 0)
        else ([], (opGo b k m zs 0 [] n3 e3).2.2.1, if rightF (opGo b k m zs 0 [] n3 e3).2.1 k then (opGo b k m zs 0 [] n3 e3).2.2.2 else failE (opGo b k m zs 0 [] n3 e3).2.2.2 3))
      else ([], (opGo b k m zs 0 [] n3 e3).2.2.1, (opGo b k m zs 0 [] n3 e3).2.2.2) := by
  simp only [openS, h1, h2, h3]
theorem op_cond (h : ¬ (k : Int) = 0 ∧ (zs.length : Int) = ((m : Int) + k - 1) / k) : ¬ (k = 0 ∨ zs.length ≠ (m + k - 1) / k) := by
  have h1 := (quo_up m k).2.2 (by omega)
  have := h.2
  omega
theorem op_bad (h1 : mostS b n e 4096 = (m, n1, e1)) (h2 : mostS b n1 e1 64 = (k, n2, e2)) (h3 : readP b n2 e2 4096 = (zs, n3, e3)) (hc : (k : Int) = 0 ∨ ¬ (zs.length : Int) = ((m : Int) + k - 1) / k) : openS b n e = ([], n3, failE e3 3) := by
  rw [openS_eq h1 h2 h3, if_pos]
  rcases hc with hc | hc
  · exact .inl (by omega)
  · by_cases hk : k = 0
    · exact .inl hk
    · have h4 := (quo_up m k).2.2 (by omega)
      exact .inr (by omega)
theorem op_no (h1 : mostS b n e 4096 = (m, n1, e1)) (h2 : mostS b n1 e1 64 = (k, n2, e2)) (h3 : readP b n2 e2 4096 = (zs, n3, e3)) (hc : ¬ (k : Int) = 0 ∧ (zs.length : Int) = ((m : Int) + k - 1) / k)
    (hg : opGo b k m (zs.drop i) i l n' e' = opGo b k m zs 0 [] n3 e3) (hi : (i : Int) < zs.length) (hb : ¬ (takS b (min k (m - i * k)) (zs.getD i default) n' e').2.2 = 0) :
    openS b n e = ([], (takS b (min k (m - i * k)) (zs.getD i default) n' e').2.1, (takS b (min k (m - i * k)) (zs.getD i default) n' e').2.2) := by
  have e0 : zs.drop i = zs.getD i default :: zs.drop (i + 1) := by
    rw [List.drop_eq_getElem_cons (by omega)]
    simp [List.getD_eq_getElem?_getD, show i < zs.length by omega]
  rw [openS_eq h1 h2 h3, if_neg (op_cond hc), ← hg, e0]
  simp only [opGo, if_neg hb]
  rfl
theorem op_round {T : Bool × List ByteArray × Nat × Int} (hg : opGo b k m (zs.drop i) i l n' e' = T) (hi : (i : Int) < zs.length) (hb : (takS b (min k (m - i * k)) (zs.getD i default) n' e').2.2 = 0) :
    opGo b k m (zs.drop (i + 1)) (i + 1) (l ++ (takS b (min k (m - i * k)) (zs.getD i default) n' e').1) (takS b (min k (m - i * k)) (zs.getD i default) n' e').2.1 (takS b (min k (m - i * k)) (zs.getD i default) n' e').2.2 = T := by
  have e0 : zs.drop i = zs.getD i default :: zs.drop (i + 1) := by
    rw [List.drop_eq_getElem_cons (by omega)]
    simp [List.getD_eq_getElem?_getD, show i < zs.length by omega]
  rw [← hg, e0]
  simp only [opGo, if_pos hb]
theorem op_end (h1 : mostS b n e 4096 = (m, n1, e1)) (h2 : mostS b n1 e1 64 = (k, n2, e2)) (h3 : readP b n2 e2 4096 = (zs, n3, e3)) (hc : ¬ (k : Int) = 0 ∧ (zs.length : Int) = ((m : Int) + k - 1) / k)
    (hg : opGo b k m (zs.drop i) i l n' e' = opGo b k m zs 0 [] n3 e3) (hi : (zs.length : Int) ≤ i) : openS b n e = if rightF l k && decide (e' = 0) then (l, n', 0) else ([], n', if rightF l k then e' else failE e' 3) := by
  rw [openS_eq h1 h2 h3, if_neg (op_cond hc), ← hg, List.drop_of_length_le (by omega)]
  rfl
end
theorem readP_le' {b c u : List UInt8} {n r n1 n2 n3 w : Nat} {e many e1 e2 e3 : Int} (h1 : mostS b n e many = (r, n1, e1)) (h2 : takeB b n1 e1 1 = (c, n2, e2)) (hw : byteOf1 c = (w : Int))
    (h3 : takeB b n2 e2 (sizeP r w : Nat) = (u, n3, e3)) (l2 : n2 ≤ b.length) (l3 : n3 ≤ b.length) : (readP b n e many).2.1 ≤ b.length ∧ (readP b n e many).1.length ≤ r := by
  rw [readP_eq h1 h2 hw h3]
  by_cases c1 : 32 < w
  · rw [if_pos c1]; exact ⟨l2, Nat.zero_le _⟩
  · rw [if_neg c1]
    by_cases c2 : u.length < sizeP r w
    · rw [if_pos c2]; exact ⟨l3, Nat.zero_le _⟩
    · rw [if_neg c2]
      by_cases c3 : widN ((List.range r).map (getP u w)) = w ∧ putP ((List.range r).map (getP u w)) w = u
      · rw [if_pos c3]; exact ⟨l3, by rw [gets_len]; exact Nat.le_refl _⟩
      · rw [if_neg c3]; exact ⟨l3, Nat.zero_le _⟩
theorem readP_le2 {b : List UInt8} {n : Nat} {e many : Int} (hn : n ≤ b.length) : (readP b n e many).2.1 ≤ b.length ∧ (readP b n e many).1.length ≤ (mostS b n e many).1 := by
  have l1 : (mostS b n e many).2.1 ≤ b.length := mostS_le hn
  have l2 : (takeB b (mostS b n e many).2.1 (mostS b n e many).2.2 1).2.1 ≤ b.length := takeB_le l1
  have hw := byteOf1_le (takeB b (mostS b n e many).2.1 (mostS b n e many).2.2 1).1
  have l3 := takeB_le (k := (sizeP (mostS b n e many).1 (byteOf1 (takeB b (mostS b n e many).2.1 (mostS b n e many).2.2 1).1).toNat : Nat)) (e := (takeB b (mostS b n e many).2.1 (mostS b n e many).2.2 1).2.2) l2
  exact readP_le' rfl rfl (Int.toNat_of_nonneg hw.1).symm rfl l2 l3
theorem readP_le {b : List UInt8} {n : Nat} {e many : Int} (hn : n ≤ b.length) : (readP b n e many).2.1 ≤ b.length := (readP_le2 hn).1
theorem readP_len (b : List UInt8) (n : Nat) (e : Int) {many : Int} (h : 0 ≤ many) (hn : n ≤ b.length) : ((readP b n e many).1.length : Int) ≤ many := by
  have hm := mostS_most b n e h
  have := (readP_le2 (many := many) (e := e) hn).2
  omega
end Go.Fw
namespace Go.Fw
open Go
set_option linter.unusedVariables false
set_option linter.unusedSimpArgs false
theorem takeB_full {b : List UInt8} {n : Nat} {e k : Int} (h : (takeB b n e k).2.2 = 0) : ((takeB b n e k).1.length : Int) = k := by
  unfold takeB at h ⊢
  by_cases he : e = 0
  · rw [if_neg (by omega)] at h ⊢
    by_cases hk : k < 0
    · rw [if_pos hk] at h; simp at h
    · rw [if_neg hk] at h ⊢
      by_cases hc : (b.length : Int) - n < k
      · rw [if_pos hc] at h; simp at h
      · rw [if_neg hc]
        simp
        omega
  · rw [if_pos he] at h
    exact absurd h he
 
def bmG (u : List UInt8) (r : Nat) : List Bool := (List.range r).map fun i => decide (bitB u i = 1)
theorem bmG_len (u : List UInt8) (r : Nat) : (bmG u r).length = r := by simp [bmG]
def bmR (b : List UInt8) (n : Nat) (e many : Int) : List Bool × Nat × Int :=
  let r := mostS b n e many
  let t := takeB b r.2.1 r.2.2 (((r.1 + 7) / 8 : Nat) : Int)
  if t.1.length < (r.1 + 7) / 8 then ([], t.2.1, t.2.2) else
  if bmP (bmG t.1 r.1) = t.1 then (bmG t.1 r.1, t.2.1, t.2.2) else ([], t.2.1, failE t.2.2 3)
theorem bmR_took {b : List UInt8} {n : Nat} {e many : Int} (hn : n ≤ b.length) (h : (bmR b n e many).2.2 = 0) : e = 0 ∧ Took b n (bmR b n e many).2.1 (bmW (bmR b n e many).1) := by
  simp only [bmR] at h ⊢
  have l1 : (mostS b n e many).2.1 ≤ b.length := mostS_le hn
  generalize hr : mostS b n e many = r at h l1 ⊢
  generalize ht : takeB b r.2.1 r.2.2 (((r.1 + 7) / 8 : Nat) : Int) = t at h ⊢
  split
  · rename_i hc
    rw [if_pos hc] at h
    simp only at h
    have h3 := takeB_full (b := b) (n := r.2.1) (e := r.2.2) (k := (((r.1 + 7) / 8 : Nat) : Int)) (by rw [ht]; exact h)
    rw [ht] at h3
    omega
  · rename_i hc
    rw [if_neg hc] at h
    split
    · rename_i hp
      rw [if_pos hp] at h
      simp only at h ⊢
      have h2 := takeB_took (k := (((r.1 + 7) / 8 : Nat) : Int)) l1 (by rw [ht]; exact h)
      rw [ht] at h2
      have h1 := mostS_took (k := many) hn (by rw [hr]; exact h2.1)
      rw [hr] at h1
      refine ⟨h1.1, ?_⟩
      have h7 := h1.2.trans h2.2
      have e : bmW (bmG t.1 r.1) = putN r.1 ++ t.1 := by
        simp only [bmW, hp, bmG_len]
      rw [e]
      exact h7
    · rename_i hp
      rw [if_neg hp] at h
      exact absurd h (failE_ne (by omega))
theorem bmG_put (l : List Bool) : bmG (bmP l) l.length = l := by
  apply List.ext_getElem
  · simp [bmG]
  · intro i h1 h2
    simp only [bmG, List.getElem_map, List.getElem_range]
    rw [bmP_put, bit_put (by rw [bN_len]; omega), bitP_bN]
    have e : l.getD i default = l[i] := by rw [List.getD_eq_getElem?_getD, List.getElem?_eq_getElem h2]; rfl
    rw [e]
    cases l[i] <;> rfl
theorem bmR_put (pre post : List UInt8) {l : List Bool} {many : Int} (hm : (l.length : Int) ≤ many) (hl : l.length < 9223372036854775808) :
    bmR (pre ++ (bmW l ++ post)) pre.length 0 many = (l, pre.length + (bmW l).length, 0) := by
  have e1 : pre ++ (bmW l ++ post) = pre ++ (putN l.length ++ (bmP l ++ post)) := by simp [bmW]
  have h1 := mostS_put pre (bmP l ++ post) hl hm
  have e2 : pre ++ (putN l.length ++ (bmP l ++ post)) = (pre ++ putN l.length) ++ (bmP l ++ post) := by simp
  have h2 := takeB_run (pre ++ putN l.length) (bmP l) post (k := (((l.length + 7) / 8 : Nat) : Int)) (by rw [bmP_len])
  rw [List.length_append] at h2
  simp only [bmR, e1, h1]
  rw [e2, h2]
  simp only [bmP_len, Nat.lt_irrefl, if_false, bmG_put, if_true, Prod.mk.injEq, and_true, true_and]
  simp [bmW, bmP_len]
  omega
theorem bmR_le {b : List UInt8} {n : Nat} {e many : Int} (hn : n ≤ b.length) : (bmR b n e many).2.1 ≤ b.length := by
  have l1 : (mostS b n e many).2.1 ≤ b.length := mostS_le hn
  have l2 := takeB_le (e := (mostS b n e many).2.2) (k := ((((mostS b n e many).1 + 7) / 8 : Nat) : Int)) l1
  simp only [bmR]
  split
  · exact l2
  · split <;> exact l2
theorem bmR_len (b : List UInt8) (n : Nat) (e : Int) {many : Int} (h0 : 0 ≤ many) : ((bmR b n e many).1.length : Int) ≤ many := by
  have h1 := mostS_most b n e h0
  simp only [bmR]
  split
  · simpa using h0
  · split
    · rw [bmG_len]; exact h1
    · simpa using h0
 
def cumZ (l : List Nat) (i : Nat) : Int := (((l.take i).sum : Nat) : Int)
def risOK (l : List Nat) : Bool := (List.range l.length).all fun i => !(decide (l.getD i default = 0) && decide (0 < i)) && decide (cumZ l (i + 1) ≤ 16777215)
def cums (l : List Nat) (k : Nat) : List Int := (List.range k).map fun i => cumZ l (i + 1)
def riseR (l : List Nat) : List Int × Bool := if risOK l then (cums l l.length, true) else ([], false)
theorem cumZ_succ (l : List Nat) (i : Nat) (hi : i < l.length) : cumZ l (i + 1) = cumZ l i + (l.getD i default : Nat) := by
  unfold cumZ
  rw [List.take_succ_eq_append_getElem hi, List.sum_append, List.getD_eq_getElem?_getD, List.getElem?_eq_getElem hi]
  simp
theorem cums_snoc (l : List Nat) (k : Nat) : cums l k ++ [cumZ l (k + 1)] = cums l (k + 1) := by simp [cums, List.range_succ]
theorem cums_len (l : List Nat) (k : Nat) : (cums l k).length = k := by simp [cums]
theorem risOK_at {l : List Nat} (h : risOK l = true) {i : Nat} (hi : i < l.length) : ¬ (l.getD i default = 0 ∧ 0 < i) ∧ cumZ l (i + 1) ≤ 16777215 := by
  simp only [risOK, List.all_eq_true, List.mem_range, Bool.and_eq_true, Bool.not_eq_true', Bool.and_eq_false_iff, decide_eq_true_eq, decide_eq_false_iff_not] at h
  have := h i hi
  exact ⟨fun h' => this.1.elim (fun x => x h'.1) (fun x => x h'.2), this.2⟩
theorem risOK_bad {l : List Nat} {i : Nat} (hi : i < l.length) (h : (l.getD i default = 0 ∧ 0 < i) ∨ 16777215 < cumZ l (i + 1)) : risOK l = false := by
  refine Bool.eq_false_iff.2 fun h' => ?_
  have := risOK_at h' hi
  rcases h with h | h
  · exact this.1 h
  · omega
theorem risOK_good {l : List Nat} (h : ∀ i, i < l.length → ¬ (l.getD i default = 0 ∧ 0 < i) ∧ cumZ l (i + 1) ≤ 16777215) : risOK l = true := by
  simp only [risOK, List.all_eq_true, List.mem_range, Bool.and_eq_true, Bool.not_eq_true', Bool.and_eq_false_iff, decide_eq_true_eq, decide_eq_false_iff_not]
  intro i hi
  have := h i hi
  refine ⟨?_, this.2⟩
  by_cases h1 : l.getD i default = 0
  · exact .inr fun h2 => this.1 ⟨h1, h2⟩
  · exact .inl h1
theorem cums_getD (l : List Nat) {k i : Nat} (hi : i < k) : (cums l k).getD i default = cumZ l (i + 1) := by
  simp [cums, List.getD_eq_getElem?_getD, List.getElem?_range hi]
theorem cumZ_nn (l : List Nat) (i : Nat) : 0 ≤ cumZ l i := Int.natCast_nonneg _
theorem cumZ_mono {l : List Nat} : ∀ {j i : Nat}, i ≤ j → j ≤ l.length → cumZ l i ≤ cumZ l j
  | 0, i, h, _ => by rw [show i = 0 by omega]; exact Int.le_refl _
  | j + 1, i, h, hj => by
    rcases Nat.lt_or_ge i (j + 1) with h1 | h1
    · have := cumZ_mono (l := l) (show i ≤ j by omega) (by omega)
      rw [cumZ_succ l j (by omega)]
      omega
    · rw [show i = j + 1 by omega]; exact Int.le_refl _
theorem cums_rise {l : List Nat} (h : risOK l = true) : Rise (cums l l.length) := by
  refine List.pairwise_iff_getElem.2 fun i j hi hj hij => ?_
  rw [cums_len] at hi hj
  simp only [cums, List.getElem_map, List.getElem_range]
  have h1 := (risOK_at h hj).1
  have h2 := cumZ_mono (l := l) (show i + 1 ≤ j by omega) (by omega)
  rw [cumZ_succ l j hj]
  omega
theorem cums_range {l : List Nat} (h : risOK l = true) : ∀ x ∈ cums l l.length, 0 ≤ x ∧ x ≤ 16777215 := fun x hx => by
  obtain ⟨i, hi, rfl⟩ := List.mem_map.1 hx
  exact ⟨cumZ_nn _ _, (risOK_at h (List.mem_range.1 hi)).2⟩
theorem stepN_cums (l : List Nat) : stepN (cums l l.length) = l := by
  apply List.ext_getElem
  · rw [stepN_len, cums_len]
  · intro i h1 h2
    simp only [stepN, stepL, List.getElem_map, List.getElem_range]
    rw [cums_getD l h2]
    have e : l.getD i default = l[i] := by rw [List.getD_eq_getElem?_getD, List.getElem?_eq_getElem h2]; rfl
    by_cases hz : i = 0
    · subst hz
      rw [if_pos rfl, cumZ_succ l 0 h2, e]
      simp [cumZ]
    · rw [if_neg hz, cums_getD l (by omega), show i - 1 + 1 = i by omega, cumZ_succ l i h2, e]
      omega
 
theorem cums_steps {zs : List Int} (hr : Rise zs) (h0 : ∀ x ∈ zs, 0 ≤ x ∧ x ≤ 16777215) : ∀ i, i < zs.length → cumZ (stepN zs) (i + 1) = zs.getD i default
  | 0, hi => by
    rw [cumZ_succ _ _ (by rw [stepN_len]; exact hi)]
    have := (at_range h0 0 hi).1
    have e : (stepN zs).getD 0 default = (zs.getD 0 default - 0).toNat := by
      simp [stepN, stepL, List.getD_eq_getElem?_getD, List.getElem?_range hi]
    have e0 : cumZ (stepN zs) 0 = 0 := by simp [cumZ]
    rw [e, e0]
    omega
  | i + 1, hi => by
    have ih := cums_steps hr h0 i (by omega)
    rw [cumZ_succ _ _ (by rw [stepN_len]; exact hi), ih]
    have h1 := rise_lt hr (show i < i + 1 by omega) hi
    have e : (stepN zs).getD (i + 1) default = (zs.getD (i + 1) default - zs.getD i default).toNat := by
      simp [stepN, stepL, List.getD_eq_getElem?_getD, List.getElem?_range hi]
    rw [e]
    omega
theorem riseR_steps {zs : List Int} (hr : Rise zs) (h0 : ∀ x ∈ zs, 0 ≤ x ∧ x ≤ 16777215) : riseR (stepN zs) = (zs, true) := by
  have hok : risOK (stepN zs) = true := risOK_good fun i hi => by
    rw [stepN_len] at hi
    have h1 := cums_steps hr h0 i hi
    refine ⟨fun h => ?_, by rw [h1]; exact (at_range h0 i hi).2⟩
    have h2 := cumZ_succ (stepN zs) i (by rw [stepN_len]; exact hi)
    rw [h1, h.1] at h2
    have h3 := cums_steps hr h0 (i - 1) (by omega)
    rw [show i - 1 + 1 = i by omega] at h3
    rw [h3] at h2
    have h4 := rise_lt hr (show i - 1 < i by omega) hi
    omega
  have e : cums (stepN zs) (stepN zs).length = zs := by
    apply List.ext_getElem
    · rw [cums_len, stepN_len]
    · intro i h1 h2
      simp only [cums, List.getElem_map, List.getElem_range]
      rw [cums_steps hr h0 i h2, List.getD_eq_getElem?_getD, List.getElem?_eq_getElem h2]
      rfl
  simp only [riseR, hok, if_true, e]
 
def zeroF : Filt := ⟨0, [], []⟩
def finF (f : Filt) (n : Nat) (e : Int) : Filt × Nat × Int := if e ≠ 0 then (zeroF, n, e) else (f, n, e)
def okE (c : Bool) (e : Int) : Int := bif c then e else failE e 3
theorem okE_zero {c : Bool} {e : Int} (h : okE c e = 0) : c = true ∧ e = 0 := by
  cases c
  · exact absurd h (failE_ne (by omega))
  · exact ⟨rfl, h⟩
theorem finF_e (f : Filt) (n : Nat) (e : Int) : (finF f n e).2.2 = e := by unfold finF; split <;> rfl
theorem finF_n (f : Filt) (n : Nat) (e : Int) : (finF f n e).2.1 = n := by unfold finF; split <;> rfl
theorem finF_err {f : Filt} {n : Nat} {e : Int} (h : e ≠ 0) : finF f n e = (zeroF, n, e) := if_pos h
theorem finF_ok {f : Filt} {n : Nat} {e : Int} (h : e = 0) : finF f n e = (f, n, e) := if_neg (by omega)
def gramR (b : List UInt8) (n : Nat) (e : Int) : Filt × Nat × Int :=
  let r := mostS b n e 65536
  if r.2.2 ≠ 0 then (zeroF, r.2.1, r.2.2) else
  if 0 < r.1 then
    let q := bmR b r.2.1 r.2.2 65536
    finF ⟨(r.1 : Int), [], q.1⟩ q.2.1 (okE (decide (q.1.length = r.1)) q.2.2)
  else
    let p := readP b r.2.1 r.2.2 65536
    finF ⟨0, (riseR p.1).1, []⟩ p.2.1 (okE (riseR p.1).2 p.2.2)
theorem gramR_err {b : List UInt8} {n : Nat} {e : Int} (h : (gramR b n e).2.2 ≠ 0) : (gramR b n e).1 = zeroF := by
  simp only [gramR] at h ⊢
  by_cases h1 : (mostS b n e 65536).2.2 ≠ 0
  · rw [if_pos h1]
  · rw [if_neg h1] at h ⊢
    by_cases h2 : 0 < (mostS b n e 65536).1
    · rw [if_pos h2] at h ⊢
      rw [finF_e] at h
      rw [finF_err h]
    · rw [if_neg h2] at h ⊢
      rw [finF_e] at h
      rw [finF_err h]
theorem gramR_took {b : List UInt8} {n : Nat} {e : Int} (hn : n ≤ b.length) (h : (gramR b n e).2.2 = 0) : e = 0 ∧ Took b n (gramR b n e).2.1 (filtW (gramR b n e).1) ∧ FWr (gramR b n e).1 := by
  simp only [gramR] at h ⊢
  have l1 : (mostS b n e 65536).2.1 ≤ b.length := mostS_le hn
  have m1 := mostS_most b n e (show (0 : Int) ≤ 65536 by omega)
  generalize hr : mostS b n e 65536 = r at h l1 m1 ⊢
  split
  · rename_i h1
    rw [if_pos h1] at h
    exact absurd h h1
  · rename_i h1
    rw [if_neg h1] at h
    have hm := mostS_took (k := 65536) hn (by rw [hr]; omega)
    rw [hr] at hm
    by_cases h2 : 0 < r.1
    · rw [if_pos h2] at h ⊢
      rw [finF_e] at h
      obtain ⟨c1, c2⟩ := okE_zero h
      rw [finF_ok h]
      simp only [decide_eq_true_eq] at c1
      have hb := bmR_took (many := 65536) l1 c2
      refine ⟨hm.1, ?_, ?_⟩
      · have h7 := hm.2.trans hb.2
        have e : filtW ⟨(r.1 : Int), [], (bmR b r.2.1 r.2.2 65536).1⟩ = putN r.1 ++ bmW (bmR b r.2.1 r.2.2 65536).1 := by
          rw [filtW, if_pos (by show (0 : Int) < r.1; omega)]
          rfl
        show Took b n _ (filtW ⟨(r.1 : Int), [], (bmR b r.2.1 r.2.2 65536).1⟩)
        rw [e]
        exact h7
      · exact ⟨⟨by show (0 : Int) ≤ r.1; omega, m1, fun _ => by show (bmR b r.2.1 r.2.2 65536).1.length = (r.1 : Int).toNat; omega, by simp [Rise], by simp, by show (bmR b r.2.1 r.2.2 65536).1.length ≤ _; omega⟩, by simp, by simp⟩
    · rw [if_neg h2] at h ⊢
      rw [finF_e] at h
      obtain ⟨c1, c2⟩ := okE_zero h
      rw [finF_ok h]
      have hp := readP_took (many := 65536) l1 c2
      have hpl := readP_len b r.2.1 r.2.2 (many := 65536) (by omega) l1
      have hok : risOK (readP b r.2.1 r.2.2 65536).1 = true := by
        unfold riseR at c1
        split at c1
        · assumption
        · cases c1
      have e1 : (riseR (readP b r.2.1 r.2.2 65536).1).1 = cums (readP b r.2.1 r.2.2 65536).1 (readP b r.2.1 r.2.2 65536).1.length := by rw [riseR, if_pos hok]
      rw [e1]
      refine ⟨hm.1, ?_, ?_⟩
      · have h7 := hm.2.trans hp.2
        have e : filtW ⟨0, cums (readP b r.2.1 r.2.2 65536).1 (readP b r.2.1 r.2.2 65536).1.length, []⟩ = putN r.1 ++ pkW (readP b r.2.1 r.2.2 65536).1 := by
          rw [filtW, if_neg (by show ¬ (0 : Int) < 0; omega), stepN_cums, show r.1 = 0 by omega]
        show Took b n _ (filtW ⟨0, cums _ _, []⟩)
        rw [e]
        exact h7
      · refine ⟨⟨by simp, by simp, fun h => by simp at h, cums_rise hok, ?_, by simp⟩, ?_, cums_range hok⟩
        · show (cums _ _).length ≤ _
          rw [cums_len]
          omega
        · show (cums _ _).length ≤ _
          rw [cums_len]
          omega
theorem gramR_put (pre post : List UInt8) {f : Filt} (hw : FWr f) (hz : f.zs.length ≤ 65536) (hb : 0 < f.b → f.zs = []) (hb0 : f.b = 0 → f.bs = []) :
    gramR (pre ++ (filtW f ++ post)) pre.length 0 = (f, pre.length + (filtW f).length, 0) := by
  have h0 := hw.ok.b0
  have h1 := hw.ok.b1
  by_cases hf : 0 < f.b
  · have hl := hw.ok.len hf
    have ew : filtW f = putN f.b.toNat ++ bmW f.bs := by rw [filtW, if_pos hf]
    have e1 : pre ++ (filtW f ++ post) = pre ++ (putN f.b.toNat ++ (bmW f.bs ++ post)) := by rw [ew, List.append_assoc]
    have g1 := mostS_put pre (bmW f.bs ++ post) (v := f.b.toNat) (k := 65536) (by omega) (by omega)
    have e2 : pre ++ (putN f.b.toNat ++ (bmW f.bs ++ post)) = (pre ++ putN f.b.toNat) ++ (bmW f.bs ++ post) := by simp
    have g2 := bmR_put (pre ++ putN f.b.toNat) post (l := f.bs) (many := 65536) (by omega) (by omega)
    rw [List.length_append] at g2
    simp only [gramR, e1, g1]
    rw [if_neg (by omega), if_pos (by omega), e2, g2]
    rw [show decide (f.bs.length = f.b.toNat) = true from decide_eq_true hl, finF_ok (show okE true 0 = 0 from rfl), ew]
    simp only [okE, cond_true, Prod.mk.injEq, and_true]
    refine ⟨?_, by rw [List.length_append]; omega⟩
    cases f with
    | mk b zs bs =>
      simp only at hb hf h0 ⊢
      rw [hb hf, Int.toNat_of_nonneg h0]
  · have hfb : f.b = 0 := by omega
    have ew : filtW f = putN 0 ++ pkW (stepN f.zs) := by rw [filtW, if_neg hf]
    have e1 : pre ++ (filtW f ++ post) = pre ++ (putN 0 ++ (pkW (stepN f.zs) ++ post)) := by rw [ew, List.append_assoc]
    have g1 := mostS_put pre (pkW (stepN f.zs) ++ post) (v := 0) (k := 65536) (by omega) (by omega)
    have e2 : pre ++ (putN 0 ++ (pkW (stepN f.zs) ++ post)) = (pre ++ putN 0) ++ (pkW (stepN f.zs) ++ post) := by simp
    have g2 := readP_put (pre ++ putN 0) post (l := stepN f.zs) (many := 65536) (by rw [stepN_len]; omega) (by rw [stepN_len]; omega) (fun x hx => by have := stepN_lt hw.ok.rise hw.zr x hx; omega)
    rw [List.length_append] at g2
    simp only [gramR, e1, g1]
    rw [if_neg (by omega), if_neg (by omega), e2, g2]
    rw [riseR_steps hw.ok.rise hw.zr, finF_ok (show okE true 0 = 0 from rfl), ew]
    simp only [okE, cond_true, Prod.mk.injEq, and_true]
    refine ⟨?_, by rw [List.length_append]; omega⟩
    cases f with
    | mk b zs bs =>
      simp only at hb0 hfb ⊢
      rw [hb0 hfb, hfb]
theorem bm_bit (t : List UInt8) (i : Nat) : bitI .and .u8 (shrI .u8 ((t.getD ((i : Int) / 8).toNat default).toNat : Int) ((i : Int) % 8).toNat) 1 = ((bitB t i : Nat) : Int) := by
  have h3 : (t.getD (i / 8) default).toNat < 256 := UInt8.toNat_lt _
  rw [show ((i : Int) / 8).toNat = i / 8 by omega, show ((i : Int) % 8).toNat = i % 8 by omega, shr_u8n (by omega), and1 (Nat.lt_of_le_of_lt (Nat.div_le_self _ _) h3)]
  rfl
def bmU (t : List UInt8) (r i : Nat) : List Bool := (List.range r).map fun k => decide (k < i) && decide (bitB t k = 1)
theorem bmU_zero (t : List UInt8) (r : Nat) : List.replicate r (D.bool false) = (bmU t r 0).map D.bool := by
  simp only [bmU, Nat.not_lt_zero, decide_false, Bool.false_and, List.map_const', List.map_replicate, List.length_range]
theorem bmU_len (t : List UInt8) (r i : Nat) : (bmU t r i).length = r := by simp [bmU]
theorem bmU_step {t : List UInt8} {r i : Nat} (hi : i < r) : ((bmU t r i).map D.bool).set i (D.bool (decide (((bitB t i : Nat) : Int) = 1))) = (bmU t r (i + 1)).map D.bool := by
  rw [← List.map_set]
  congr 1
  apply List.ext_getElem
  · simp [bmU]
  · intro k hk hk'
    simp only [bmU, List.length_set, List.length_map, List.length_range] at hk
    rw [List.getElem_set]
    simp only [bmU, List.getElem_map, List.getElem_range]
    have e : decide (((bitB t i : Nat) : Int) = 1) = decide (bitB t i = 1) := decide_eq_decide.2 (by omega)
    split
    · rename_i h
      subst h
      rw [e, decide_eq_true (show i < i + 1 by omega), Bool.true_and]
    · rename_i h
      have e2 : decide (k < i + 1) = decide (k < i) := decide_eq_decide.2 (by omega)
      rw [e2]
theorem bmU_end (t : List UInt8) (r : Nat) : bmU t r r = bmG t r := by
  unfold bmU bmG
  refine List.map_congr_left fun k hk => ?_
  rw [decide_eq_true (List.mem_range.1 hk), Bool.true_and]
theorem bmR_eq {b t : List UInt8} {n r n1 n2 : Nat} {e many e1 e2 : Int} (h1 : mostS b n e many = (r, n1, e1)) (h2 : takeB b n1 e1 (((r + 7) / 8 : Nat) : Int) = (t, n2, e2)) :
    bmR b n e many = if t.length < (r + 7) / 8 then ([], n2, e2) else if bmP (bmG t r) = t then (bmG t r, n2, e2) else ([], n2, failE e2 3) := by
  simp only [bmR, h1, h2]
 
theorem risOK_end {l : List Nat} (h : ∀ j, j < l.length → ¬ (l.getD j default = 0 ∧ 0 < j) ∧ cumZ l (j + 1) ≤ 16777215) : riseR l = (cums l l.length, true) := by rw [riseR, if_pos (risOK_good h)]
theorem risOK_no {l : List Nat} {i : Nat} (hi : i < l.length) (h : (l.getD i default = 0 ∧ 0 < i) ∨ 16777215 < cumZ l (i + 1)) : riseR l = ([], false) := by rw [riseR, risOK_bad hi h]; rfl
theorem gramR_eq {b : List UInt8} {n r n1 : Nat} {e e1 : Int} (h1 : mostS b n e 65536 = (r, n1, e1)) :
    gramR b n e = if e1 ≠ 0 then (zeroF, n1, e1) else if 0 < r then finF ⟨(r : Int), [], (bmR b n1 e1 65536).1⟩ (bmR b n1 e1 65536).2.1 (okE (decide ((bmR b n1 e1 65536).1.length = r)) (bmR b n1 e1 65536).2.2)
      else finF ⟨0, (riseR (readP b n1 e1 65536).1).1, []⟩ (readP b n1 e1 65536).2.1 (okE (riseR (readP b n1 e1 65536).1).2 (readP b n1 e1 65536).2.2) := by
  simp only [gramR, h1]
theorem readP_lt (b : List UInt8) (n : Nat) (e many : Int) : ∀ x ∈ (readP b n e many).1, x < 4294967296 := by
  simp only [readP]
  intro x hx
  split at hx
  · cases hx
  · rename_i h32
    split at hx
    · cases hx
    · split at hx
      · rename_i hp
        have h1 : x < 2 ^ widN _ := widN_lt hx
        rw [hp.1] at h1
        have h2 : 2 ^ (byteOf1 (takeB b (mostS b n e many).2.1 (mostS b n e many).2.2 1).1).toNat ≤ 2 ^ 32 := Nat.pow_le_pow_right (by omega) (by omega)
        omega
      · cases hx
end Go.Fw
namespace Go.Fw
open Go Go.Proofs
set_option maxHeartbeats 10000000
set_option maxRecDepth 100000
set_option linter.constructorNameAsVariable false
set_option linter.unusedVariables false
set_option linter.unusedSimpArgs false
theorem same01_con (a b : List UInt8) : Has Try.prog 23 [CV.d (D.sl 1 (a.map byteD)), CV.d (D.sl 1 (b.map byteD))] (fun rs _ => rs = [CV.d (D.bool (decide (a = b)))]) := by
  refine Has_of_run (fn := Try.f23) (M := M0) fol (by kernel_rfl) 5 noPlan [] [] (by kernel_rfl) (Nat.le_of_ble_eq_true rfl) ?_
  (repeat' ((conv => whnf); first | done | (refine And.intro (fun h => ?_) (fun h => ?_) <;> (try simp only [Bool.or_eq_true, Bool.and_eq_true, Bool.or_eq_false_iff, Bool.and_eq_false_iff, toNat_pred, toNat_succ, toNat_addn, toNat_subn, decide_eq_true_eq, decide_eq_false_iff_not, Bool.not_eq_true', Bool.not_eq_false', List.length_map, Int.toNat_natCast, Int.not_lt, Int.not_le, Bool.not_eq_true, Bool.false_eq_true, Bool.true_eq_false, Bool.not_true, Bool.not_false, reduceCtorEq, beq_iff_eq, Bool.not_eq_eq_eq_not, bne_iff_ne, ne_eq, decide_not, Decidable.not_not, Classical.not_not] at h)) | exact (rfl : (_ : AV) = _) | exact (rfl : (_ : St) = _) | refine Exists.intro (α := AV) AV.dead (And.intro (fun h => Bool.noConfusion h) ?_) | apply ex_av | (refine fun (h : (_ : Bool) = true) => ?_; have h' := h; (try simp only [Bool.or_eq_true, Bool.and_eq_true, Bool.or_eq_false_iff, Bool.and_eq_false_iff, toNat_pred, toNat_succ, toNat_addn, toNat_subn, decide_eq_true_eq, decide_eq_false_iff_not, Bool.not_eq_true', Bool.not_eq_false', List.length_map, Int.toNat_natCast, Int.not_lt, Int.not_le, Bool.not_eq_true, Bool.false_eq_true, Bool.true_eq_false, Bool.not_true, Bool.not_false, reduceCtorEq, beq_iff_eq, Bool.not_eq_eq_eq_not, bne_iff_ne, ne_eq, decide_not, Decidable.not_not, Classical.not_not] at h')) | (refine And.intro (a := Both _ _ _) ?_ ?_; (refine ⟨fun h => ?_, fun h => ?_⟩ <;> first | rfl | exact h | exact Bool.noConfusion h | (rw [h]; rfl) | (rw [h]; simp only [Bool.not_false, Bool.not_true, Bool.and_true]; assumption) | (simp_all; done) | fail); skip) | refine And.intro rfl ?_ | refine Two.mk ?_ ?_ | refine And.intro (allU8_bytes _) ?_ | (refine And.intro (a := (_ : Bool) = true) ?_ ?_; (first | assumption | exact decide_eq_true (by assumption) | (rw [Bool.not_eq_true']; exact decide_eq_false (by assumption)) | (rw [Bool.not_not]; exact decide_eq_true (by assumption)) | (simp_all; done) | fail); skip) | refine And.intro (Or.inr rfl) ?_ | refine And.intro (Nat.le_of_ble_eq_true rfl) ?_ | refine And.intro (decide_eq_false (by omega)) ?_ | refine And.intro (show Program.stoodInHeld _ _ = _ by kernel_rfl) (And.intro (by kernel_rfl) ?_) | refine And.intro (show Nat.beq _ _ = _ from rfl) (And.intro (by decide) ?_) | refine And.intro ⟨rfl, rfl⟩ ?_ | refine And.intro ⟨rfl, rfl, trivial⟩ ?_ | refine And.intro (Int.natCast_nonneg _) ?_ | refine Or.inl (And.intro rfl (And.intro rfl (And.intro rfl (And.intro rfl ?_)))) | refine Or.inl (And.intro rfl (And.intro rfl ?_)) | refine Or.inr (And.intro (Nat.le_of_ble_eq_true rfl) ?_) | refine Or.inl (And.intro (by unfold in64; omega) ?_) | refine And.intro (by first | omega | (simp only [dlen, true_and, and_true, Nat.le_refl, List.length_map, List.length_append, List.length_cons, List.length_nil, List.length_take, List.length_drop, List.length_replicate, Int.toNat_natCast, List.append_nil] <;> omega) | fail) ?_ | refine And.intro (allU8_bytes _) ?_ | refine And.intro (show elemsP _ _ _ by repeat' (first | exact rfl | exact trivial | constructor)) ?_ | (refine fun x hx => ?_; (try simp (disch := omega) only [Int.tdiv_eq_ediv_of_nonneg, Int.tmod_eq_emod_of_nonneg, bx, Bool.true_or, Bool.false_or, Bool.or_false, Bool.or_true, Bool.and_true, Bool.true_and, Bool.false_and, Bool.and_false, cond_true, cond_false, if_true, if_false, Bool.false_eq_true, min_nn, max_nn, min_ln, min_nl, max_ln, max_nl, getD_map, str_of_bytes, take_bytes, take_data, wrap_u64, wrap_u32, wrap_u8, shr_i64, shr_u64, shr_u32, shl_i64, shl_u64, Int.reduceToNat, Int.reducePow, Int.pow_succ, Int.pow_zero, Int.one_mul, Int.reduceMul, wrap_id, wrap_u8_nat, wrap_i64_u8, byteD_mk, map_snoc, map_app, set_map, take_map', drop_map', Nat.sub_zero, List.length_map, List.length_append, List.length_cons, List.length_nil, Int.toNat_natCast, List.drop_zero, List.take_succ_cons, List.take_zero, List.take_length, List.nil_append, List.append_nil, Nat.zero_add, toNat_pred, toNat_succ, toNat_addn, toNat_subn] at hx); subst hx) | rw [List.take_length] | (rw [List.take_of_length_le]; rotate_left; (first | omega | (simp only [dlen, true_and, and_true, Nat.le_refl, List.length_map, List.length_append, List.length_cons, List.length_nil, List.length_take, List.length_drop, List.length_replicate, Int.toNat_natCast, List.append_nil] <;> omega) | fail)) | refine fun h => ?_ | fail)); all_goals (try exact (AV.dead : AV)); all_goals (try (conv => whnf))
  exact rb (decide_eq_decide.2 strB_inj)
def M26 : FuncId → List Mode := fun g => if g = 28 then [.own] else []
theorem curEnd_con (b : List UInt8) (n : Nat) (e : Int) (hb : b.length ≤ 1000000000) (hn : n ≤ b.length) : Has Try.prog 26 [curC b n e] (fun rs bs => rs = [CV.d (D.int .i64 (if e = 0 ∧ n < b.length then 2 else e))] ∧ bs = [curC b n e] ) := by
  refine Has_of_run (fn := Try.f26) (M := M26) fol (by kernel_rfl) 3 noPlan [] [true] (by kernel_rfl) (Nat.le_of_ble_eq_true rfl) ?_
  (repeat' ((conv => whnf); first | done | (refine And.intro (fun h => ?_) (fun h => ?_) <;> (try simp only [Bool.or_eq_true, Bool.and_eq_true, Bool.or_eq_false_iff, Bool.and_eq_false_iff, toNat_pred, toNat_succ, toNat_addn, toNat_subn, decide_eq_true_eq, decide_eq_false_iff_not, Bool.not_eq_true', Bool.not_eq_false', List.length_map, Int.toNat_natCast, Int.not_lt, Int.not_le, Bool.not_eq_true, Bool.false_eq_true, Bool.true_eq_false, Bool.not_true, Bool.not_false, reduceCtorEq, beq_iff_eq, Bool.not_eq_eq_eq_not, bne_iff_ne, ne_eq, decide_not, Decidable.not_not, Classical.not_not] at h)) | exact (rfl : (_ : AV) = _) | exact (rfl : (_ : St) = _) | refine Exists.intro (α := AV) AV.dead (And.intro (fun h => Bool.noConfusion h) ?_) | apply ex_av | (refine fun (h : (_ : Bool) = true) => ?_; have h' := h; (try simp only [Bool.or_eq_true, Bool.and_eq_true, Bool.or_eq_false_iff, Bool.and_eq_false_iff, toNat_pred, toNat_succ, toNat_addn, toNat_subn, decide_eq_true_eq, decide_eq_false_iff_not, Bool.not_eq_true', Bool.not_eq_false', List.length_map, Int.toNat_natCast, Int.not_lt, Int.not_le, Bool.not_eq_true, Bool.false_eq_true, Bool.true_eq_false, Bool.not_true, Bool.not_false, reduceCtorEq, beq_iff_eq, Bool.not_eq_eq_eq_not, bne_iff_ne, ne_eq, decide_not, Decidable.not_not, Classical.not_not] at h')) | (refine And.intro (a := Both _ _ _) ?_ ?_; (refine ⟨fun h => ?_, fun h => ?_⟩ <;> first | rfl | exact h | exact Bool.noConfusion h | (rw [h]; rfl) | (rw [h]; simp only [Bool.not_false, Bool.not_true, Bool.and_true]; assumption) | (simp_all; done) | fail); skip) | refine And.intro rfl ?_ | refine Two.mk ?_ ?_ | refine And.intro (allU8_bytes _) ?_ | (refine And.intro (a := (_ : Bool) = true) ?_ ?_; (first | assumption | exact decide_eq_true (by assumption) | (rw [Bool.not_eq_true']; exact decide_eq_false (by assumption)) | (rw [Bool.not_not]; exact decide_eq_true (by assumption)) | (simp_all; done) | fail); skip) | refine And.intro (Or.inr rfl) ?_ | refine And.intro (Nat.le_of_ble_eq_true rfl) ?_ | refine And.intro (decide_eq_false (by omega)) ?_ | refine And.intro (show Program.stoodInHeld _ _ = _ by kernel_rfl) (And.intro (by kernel_rfl) ?_) | refine And.intro (show Nat.beq _ _ = _ from rfl) (And.intro (by decide) ?_) | refine And.intro ⟨rfl, rfl⟩ ?_ | refine And.intro ⟨rfl, rfl, trivial⟩ ?_ | refine And.intro (Int.natCast_nonneg _) ?_ | refine Or.inl (And.intro rfl (And.intro rfl (And.intro rfl (And.intro rfl ?_)))) | refine Or.inl (And.intro rfl (And.intro rfl ?_)) | refine Or.inr (And.intro (Nat.le_of_ble_eq_true rfl) ?_) | refine Or.inl (And.intro (by unfold in64; omega) ?_) | refine And.intro (by first | omega | (simp only [dlen, true_and, and_true, Nat.le_refl, List.length_map, List.length_append, List.length_cons, List.length_nil, List.length_take, List.length_drop, List.length_replicate, Int.toNat_natCast, List.append_nil] <;> omega) | fail) ?_ | refine And.intro (allU8_bytes _) ?_ | refine And.intro (show elemsP _ _ _ by repeat' (first | exact rfl | exact trivial | constructor)) ?_ | (refine (curLeft_con _ _ _ hb hn).mono fun rs bs hr => ?_; obtain ⟨rfl, rfl⟩ := hr) | (refine fun x hx => ?_; (try simp (disch := omega) only [Int.tdiv_eq_ediv_of_nonneg, Int.tmod_eq_emod_of_nonneg, bx, Bool.true_or, Bool.false_or, Bool.or_false, Bool.or_true, Bool.and_true, Bool.true_and, Bool.false_and, Bool.and_false, cond_true, cond_false, if_true, if_false, Bool.false_eq_true, min_nn, max_nn, min_ln, min_nl, max_ln, max_nl, getD_map, str_of_bytes, take_bytes, take_data, wrap_u64, wrap_u32, wrap_u8, shr_i64, shr_u64, shr_u32, shl_i64, shl_u64, Int.reduceToNat, Int.reducePow, Int.pow_succ, Int.pow_zero, Int.one_mul, Int.reduceMul, wrap_id, wrap_u8_nat, wrap_i64_u8, byteD_mk, map_snoc, map_app, set_map, take_map', drop_map', Nat.sub_zero, List.length_map, List.length_append, List.length_cons, List.length_nil, Int.toNat_natCast, List.drop_zero, List.take_succ_cons, List.take_zero, List.take_length, List.nil_append, List.append_nil, Nat.zero_add, toNat_pred, toNat_succ, toNat_addn, toNat_subn] at hx); subst hx) | rw [List.take_length] | (rw [List.take_of_length_le]; rotate_left; (first | omega | (simp only [dlen, true_and, and_true, Nat.le_refl, List.length_map, List.length_append, List.length_cons, List.length_nil, List.length_take, List.length_drop, List.length_replicate, Int.toNat_natCast, List.append_nil] <;> omega) | fail)) | refine fun h => ?_ | fail)); all_goals (try exact (AV.dead : AV)); all_goals (try (conv => whnf))
  · exact ⟨ri (by rw [if_pos ⟨by assumption, by omega⟩]), rfl⟩
  · exact ⟨ri (by rw [if_neg (by omega)]), rfl⟩
  · exact ⟨ri (by rw [if_neg (fun hh => absurd hh.1 (by assumption))]), rfl⟩
def M46 : FuncId → List Mode := fun g => if g = 45 then [.own] else if g = 49 then [.own] else if g = 65 then [.own] else []
theorem bmRead_step (b t : List UInt8) (n r n1 n2 : Nat) (e many e1 e2 : Int) (hb : b.length ≤ 1000000000) (hn : n ≤ b.length) (h0 : 0 ≤ many) (hm : many ≤ 100000) (h1 : mostS b n e many = (r, n1, e1)) (h2 : takeB b n1 e1 (((r + 7) / 8 : Nat) : Int) = (t, n2, e2)) (hn1 : n1 ≤ b.length) (hn2 : n2 ≤ b.length) (hr : (r : Int) ≤ many) (htl : t.length ≤ b.length) : Has Try.prog 46 [curC b n e, CV.d (D.int .i64 many)] (fun rs bs => rs = [CV.d (D.sl 1 ((bmR b n e many).1.map D.bool))] ∧ bs = [curC b (bmR b n e many).2.1 (bmR b n e many).2.2, .gone] ) := by
  rw [bmR_eq h1 h2]
  have hb4 : Try.prog.bytesOf 4 = 1 := by kernel_rfl
  refine Has_of_run (fn := Try.f46) (M := M46) fol (by kernel_rfl) 9 noPlan [] [true] (by kernel_rfl) (Nat.le_of_ble_eq_true rfl) ?_
  (repeat' ((conv => whnf); first | done | (refine And.intro (fun h => ?_) (fun h => ?_) <;> (try simp only [Bool.or_eq_true, Bool.and_eq_true, Bool.or_eq_false_iff, Bool.and_eq_false_iff, toNat_pred, toNat_succ, toNat_addn, toNat_subn, decide_eq_true_eq, decide_eq_false_iff_not, Bool.not_eq_true', Bool.not_eq_false', List.length_map, Int.toNat_natCast, Int.not_lt, Int.not_le, Bool.not_eq_true, Bool.false_eq_true, Bool.true_eq_false, Bool.not_true, Bool.not_false, reduceCtorEq, beq_iff_eq, Bool.not_eq_eq_eq_not, bne_iff_ne, ne_eq, decide_not, Decidable.not_not, Classical.not_not, bmU_len, bmG_len, List.length_range] at h)) | exact (rfl : (_ : AV) = _) | exact (rfl : (_ : St) = _) | refine Exists.intro (α := AV) AV.dead (And.intro (fun h => Bool.noConfusion h) ?_) | apply ex_av | (refine fun (h : (_ : Bool) = true) => ?_; have h' := h; (try simp only [Bool.or_eq_true, Bool.and_eq_true, Bool.or_eq_false_iff, Bool.and_eq_false_iff, toNat_pred, toNat_succ, toNat_addn, toNat_subn, decide_eq_true_eq, decide_eq_false_iff_not, Bool.not_eq_true', Bool.not_eq_false', List.length_map, Int.toNat_natCast, Int.not_lt, Int.not_le, Bool.not_eq_true, Bool.false_eq_true, Bool.true_eq_false, Bool.not_true, Bool.not_false, reduceCtorEq, beq_iff_eq, Bool.not_eq_eq_eq_not, bne_iff_ne, ne_eq, decide_not, Decidable.not_not, Classical.not_not, bmU_len, bmG_len, List.length_range] at h')) | (refine And.intro (a := Both _ _ _) ?_ ?_; (refine ⟨fun h => ?_, fun h => ?_⟩ <;> first | rfl | exact h | exact Bool.noConfusion h | (rw [h]; rfl) | (rw [h]; simp only [Bool.not_false, Bool.not_true, Bool.and_true]; assumption) | (simp_all; done) | fail); skip) | refine And.intro rfl ?_ | refine Two.mk ?_ ?_ | refine And.intro (allU8_bytes _) ?_ | (refine And.intro (a := (_ : Bool) = true) ?_ ?_; (first | assumption | exact decide_eq_true (by assumption) | (rw [Bool.not_eq_true']; exact decide_eq_false (by assumption)) | (rw [Bool.not_not]; exact decide_eq_true (by assumption)) | (simp_all; done) | fail); skip) | refine And.intro (Or.inr rfl) ?_ | refine And.intro (Nat.le_of_ble_eq_true rfl) ?_ | refine And.intro (decide_eq_false (by omega)) ?_ | refine And.intro (show Program.stoodInHeld _ _ = _ by kernel_rfl) (And.intro (by kernel_rfl) ?_) | refine And.intro (show Nat.beq _ _ = _ from rfl) (And.intro (by decide) ?_) | refine And.intro ⟨rfl, rfl⟩ ?_ | refine And.intro ⟨rfl, rfl, trivial⟩ ?_ | refine And.intro (Int.natCast_nonneg _) ?_ | refine Or.inl (And.intro rfl (And.intro rfl (And.intro rfl (And.intro rfl ?_)))) | refine Or.inl (And.intro rfl (And.intro rfl ?_)) | refine Or.inr (And.intro (Nat.le_of_ble_eq_true rfl) ?_) | refine Or.inl (And.intro (by unfold in64; omega) ?_) | refine And.intro (by first | omega | (simp only [dlen, true_and, and_true, Nat.le_refl, List.length_map, List.length_append, List.length_cons, List.length_nil, List.length_take, List.length_drop, List.length_replicate, Int.toNat_natCast, List.append_nil, hb4, bmU_len, bmG_len, List.length_range] <;> omega) | fail) ?_ | refine And.intro (allU8_bytes _) ?_ | refine And.intro (show elemsP _ _ _ by repeat' (first | exact rfl | exact trivial | constructor)) ?_ | (refine (curMost_con _ _ _ _ hb (by assumption)).mono fun rs bs hr => ?_; obtain ⟨rfl, rfl⟩ := hr; simp only [h1]) | (refine (curFail_con _ _ _ _).mono fun rs bs hr => ?_; obtain ⟨rfl, rfl⟩ := hr) | (refine (bmSize_con r (by omega)).mono fun rs bs hr => ?_; subst hr) | (refine (curBytes_con _ _ _ _ hb (by assumption)).mono fun rs bs hr => ?_; obtain ⟨rfl, rfl⟩ := hr; simp only [h2]) | ((rw [ha, show i = r by omega, bmU_end]; refine (bmPut_con (bmG t r) (by rw [bmG_len]; omega)).mono fun rs bs hr => ?_; subst hr)) | (refine (equal_con _ t).mono fun rs bs hr => ?_; subst hr) | (refine Loops.by (M := M46) 9 noPlan fol (by kernel_rfl) (ι := Nat × List D) (fun ⟨i, a⟩ => ⟨[(0, AV.addr [0] 0 0), (6, AV.d (D.sl 1 (t.map byteD))), (7, AV.ref [7] 16 1 0 r), (24, AV.d (D.int .i64 r)), (25, AV.d (D.int .i64 i))], [([0], 0, AO.box 72 [AV.d (D.sl 1 (b.map byteD)), AV.d (D.int .i64 n2), AV.d (D.int .i64 e2)]), ([7], 16, AO.row 4 1 a)], 17⟩) (fun ⟨i, a⟩ => i ≤ r ∧ a = (bmU t r i).map D.bool) (fun ⟨i, a⟩ => r - i) (fun p hI => ?_) ((0, List.replicate r (D.bool false))) ⟨Nat.zero_le _, bmU_zero t r⟩ (Forget.mk' ⟨⟨rfl, rfl⟩, ⟨rfl, rfl⟩, ⟨rfl, rfl⟩, ⟨rfl, rfl⟩, ⟨rfl, rfl⟩, trivial⟩ ⟨⟨rfl, rfl, rfl⟩, ⟨rfl, rfl, rfl⟩, trivial⟩ rfl rfl); obtain ⟨i, a⟩ := p; obtain ⟨hi, ha⟩ := hI; have hal : a.length = r := (by rw [ha]; simp [bmU_len])) | (refine fun x hx => ?_; (try simp (disch := omega) only [Int.tdiv_eq_ediv_of_nonneg, Int.tmod_eq_emod_of_nonneg, bx, Bool.true_or, Bool.false_or, Bool.or_false, Bool.or_true, Bool.and_true, Bool.true_and, Bool.false_and, Bool.and_false, cond_true, cond_false, if_true, if_false, Bool.false_eq_true, min_nn, max_nn, min_ln, min_nl, max_ln, max_nl, getD_map, str_of_bytes, take_bytes, take_data, wrap_u64, wrap_u32, wrap_u8, shr_i64, shr_u64, shr_u32, shl_i64, shl_u64, Int.reduceToNat, Int.reducePow, Int.pow_succ, Int.pow_zero, Int.one_mul, Int.reduceMul, wrap_id, wrap_u8_nat, wrap_i64_u8, byteD_mk, map_snoc, map_app, set_map, take_map', drop_map', Nat.sub_zero, List.length_map, List.length_append, List.length_cons, List.length_nil, Int.toNat_natCast, List.drop_zero, List.take_succ_cons, List.take_zero, List.take_length, List.nil_append, List.append_nil, Nat.zero_add, toNat_pred, toNat_succ, toNat_addn, toNat_subn, bmU_len, bmG_len, List.length_range, bm_bit] at hx); subst hx) | rw [List.take_length] | (rw [List.take_of_length_le]; rotate_left; (first | omega | (simp only [dlen, true_and, and_true, Nat.le_refl, List.length_map, List.length_append, List.length_cons, List.length_nil, List.length_take, List.length_drop, List.length_replicate, Int.toNat_natCast, List.append_nil, hb4, bmU_len, bmG_len, List.length_range] <;> omega) | fail)) | refine fun h => ?_ | fail)); all_goals (try exact (AV.dead : AV)); all_goals (try (conv => whnf))
  all_goals first
    | (rw [if_pos (by omega)]; exact ⟨rfl, rfl⟩)
    | exact ⟨(i + 1, _), ⟨⟨by omega, by rw [ha, bmU_step (by omega)]⟩, by show r - (i + 1) < r - i; omega⟩, (Forget.mk' ⟨⟨rfl, rfl⟩, ⟨rfl, rfl⟩, ⟨rfl, rfl⟩, ⟨rfl, rfl⟩, ⟨rfl, rfl⟩, trivial⟩ ⟨⟨rfl, rfl, rfl⟩, ⟨rfl, rfl, rfl⟩, trivial⟩ rfl rfl)⟩
    | (rw [if_neg (by omega), if_neg ‹_›]; exact ⟨rfl, rfl⟩)
    | (rw [if_neg (by omega), if_pos ‹_›]; exact ⟨rfl, rfl⟩)
    | fail
theorem bmRead_con (b : List UInt8) (n : Nat) (e many : Int) (hb : b.length ≤ 1000000000) (hn : n ≤ b.length) (h0 : 0 ≤ many) (hm : many ≤ 100000) : Has Try.prog 46 [curC b n e, CV.d (D.int .i64 many)] (fun rs bs => rs = [CV.d (D.sl 1 ((bmR b n e many).1.map D.bool))] ∧ bs = [curC b (bmR b n e many).2.1 (bmR b n e many).2.2, .gone]) :=
  bmRead_step b _ n _ _ _ e many _ _ hb hn h0 hm rfl rfl (mostS_le hn) (takeB_le (mostS_le hn)) (mostS_most b n e h0) (takeB_len _ _ _ _)
theorem rising_con (l : List Nat) (hl : l.length ≤ 100000) (hx : ∀ x ∈ l, x < 4294967296) : Has Try.prog 47 [CV.d (D.sl 1 (l.map natD))] (fun rs _ => rs = [CV.d (D.sl 1 ((riseR l).1.map intD)), CV.d (D.bool ((riseR l).2))]) := by
  have hb3 : Try.prog.bytesOf 3 = 8 := by kernel_rfl
  refine Has_of_run (fn := Try.f47) (M := M0) fol (by kernel_rfl) 8 noPlan [] [] (by kernel_rfl) (Nat.le_of_ble_eq_true rfl) ?_
  (repeat' ((conv => whnf); first | done | (refine And.intro (fun h => ?_) (fun h => ?_) <;> (try simp only [Bool.or_eq_true, Bool.and_eq_true, Bool.or_eq_false_iff, Bool.and_eq_false_iff, toNat_pred, toNat_succ, toNat_addn, toNat_subn, decide_eq_true_eq, decide_eq_false_iff_not, Bool.not_eq_true', Bool.not_eq_false', List.length_map, Int.toNat_natCast, Int.not_lt, Int.not_le, Bool.not_eq_true, Bool.false_eq_true, Bool.true_eq_false, Bool.not_true, Bool.not_false, reduceCtorEq, beq_iff_eq, Bool.not_eq_eq_eq_not, bne_iff_ne, ne_eq, decide_not, Decidable.not_not, Classical.not_not] at h)) | exact (rfl : (_ : AV) = _) | exact (rfl : (_ : St) = _) | refine Exists.intro (α := AV) AV.dead (And.intro (fun h => Bool.noConfusion h) ?_) | apply ex_av | (refine fun (h : (_ : Bool) = true) => ?_; have h' := h; (try simp only [Bool.or_eq_true, Bool.and_eq_true, Bool.or_eq_false_iff, Bool.and_eq_false_iff, toNat_pred, toNat_succ, toNat_addn, toNat_subn, decide_eq_true_eq, decide_eq_false_iff_not, Bool.not_eq_true', Bool.not_eq_false', List.length_map, Int.toNat_natCast, Int.not_lt, Int.not_le, Bool.not_eq_true, Bool.false_eq_true, Bool.true_eq_false, Bool.not_true, Bool.not_false, reduceCtorEq, beq_iff_eq, Bool.not_eq_eq_eq_not, bne_iff_ne, ne_eq, decide_not, Decidable.not_not, Classical.not_not] at h')) | (refine And.intro (a := Both _ _ _) ?_ ?_; (refine ⟨fun h => ?_, fun h => ?_⟩ <;> first | rfl | exact h | exact Bool.noConfusion h | (rw [h]; rfl) | (rw [h]; simp only [Bool.not_false, Bool.not_true, Bool.and_true]; assumption) | (simp_all; done) | fail); skip) | refine And.intro rfl ?_ | refine Two.mk ?_ ?_ | refine And.intro (allU8_bytes _) ?_ | (refine And.intro (a := (_ : Bool) = true) ?_ ?_; (first | assumption | exact decide_eq_true (by assumption) | (rw [Bool.not_eq_true']; exact decide_eq_false (by assumption)) | (rw [Bool.not_not]; exact decide_eq_true (by assumption)) | (simp_all; done) | fail); skip) | refine And.intro (Or.inr rfl) ?_ | refine And.intro (Nat.le_of_ble_eq_true rfl) ?_ | refine And.intro (decide_eq_false (by omega)) ?_ | refine And.intro (show Program.stoodInHeld _ _ = _ by kernel_rfl) (And.intro (by kernel_rfl) ?_) | refine And.intro (show Nat.beq _ _ = _ from rfl) (And.intro (by decide) ?_) | refine And.intro ⟨rfl, rfl⟩ ?_ | refine And.intro ⟨rfl, rfl, trivial⟩ ?_ | refine And.intro (Int.natCast_nonneg _) ?_ | refine Or.inl (And.intro rfl (And.intro rfl (And.intro rfl (And.intro rfl ?_)))) | refine Or.inl (And.intro rfl (And.intro rfl ?_)) | refine Or.inr (And.intro (Nat.le_of_ble_eq_true rfl) ?_) | refine Or.inl (And.intro (by unfold in64; omega) ?_) | refine And.intro (by first | omega | (simp only [dlen, true_and, and_true, Nat.le_refl, List.length_map, List.length_append, List.length_cons, List.length_nil, List.length_take, List.length_drop, List.length_replicate, Int.toNat_natCast, List.append_nil, hb3] <;> omega) | fail) ?_ | refine And.intro (allU8_bytes _) ?_ | refine And.intro (show elemsP _ _ _ by repeat' (first | exact rfl | exact trivial | constructor)) ?_ | (refine Loops.by (M := M0) 8 noPlan fol (by kernel_rfl) (ι := Nat × List Int) (fun ⟨i, a⟩ => ⟨[(4, AV.ref [4] 16 1 0 (a.map intD).length), (5, AV.d (D.int .i64 (cumZ l i))), (8, AV.d (D.sl 1 (l.map natD))), (9, AV.d (D.int .i64 l.length)), (10, AV.d (D.int .i64 i))], [([4], 16, AO.row 3 1 (a.map intD))], 17⟩) (fun ⟨i, a⟩ => i ≤ l.length ∧ a = cums l i ∧ cumZ l i ≤ 16777215 ∧ ∀ j, j < i → ¬ (l.getD j default = 0 ∧ 0 < j) ∧ cumZ l (j + 1) ≤ 16777215) (fun ⟨i, a⟩ => l.length - i) (fun p hI => ?_) ((0, [])) ⟨Nat.zero_le _, rfl, (by simp [cumZ]), fun j h => absurd h (Nat.not_lt_zero _)⟩ (Forget.mk' ⟨⟨rfl, rfl⟩, ⟨rfl, rfl⟩, ⟨rfl, rfl⟩, ⟨rfl, rfl⟩, ⟨rfl, rfl⟩, trivial⟩ ⟨⟨rfl, rfl, rfl⟩, trivial⟩ rfl rfl); obtain ⟨i, a⟩ := p; obtain ⟨hi, ha, hc, hok⟩ := hI; have hcn := cumZ_nn l i; have hcs := cumZ_succ l i; have hxi : i < l.length → l.getD i default < 4294967296 := fun h => hx _ (nat_getD h); have hal : a.length = i := (by rw [ha, cums_len])) | (refine fun x hx => ?_; (try simp (disch := omega) only [Int.tdiv_eq_ediv_of_nonneg, Int.tmod_eq_emod_of_nonneg, bx, Bool.true_or, Bool.false_or, Bool.or_false, Bool.or_true, Bool.and_true, Bool.true_and, Bool.false_and, Bool.and_false, cond_true, cond_false, if_true, if_false, Bool.false_eq_true, min_nn, max_nn, min_ln, min_nl, max_ln, max_nl, getD_map, str_of_bytes, take_bytes, take_data, wrap_u64, wrap_u32, wrap_u8, shr_i64, shr_u64, shr_u32, shl_i64, shl_u64, Int.reduceToNat, Int.reducePow, Int.pow_succ, Int.pow_zero, Int.one_mul, Int.reduceMul, wrap_id, wrap_u8_nat, wrap_i64_u8, byteD_mk, map_snoc, map_app, set_map, take_map', drop_map', Nat.sub_zero, List.length_map, List.length_append, List.length_cons, List.length_nil, Int.toNat_natCast, List.drop_zero, List.take_succ_cons, List.take_zero, List.take_length, List.nil_append, List.append_nil, Nat.zero_add, toNat_pred, toNat_succ, toNat_addn, toNat_subn, snocZ] at hx); subst hx) | rw [List.take_length] | (rw [List.take_of_length_le]; rotate_left; (first | omega | (simp only [dlen, true_and, and_true, Nat.le_refl, List.length_map, List.length_append, List.length_cons, List.length_nil, List.length_take, List.length_drop, List.length_replicate, Int.toNat_natCast, List.append_nil, hb3] <;> omega) | fail)) | refine fun h => ?_ | fail)); all_goals (try exact (AV.dead : AV)); all_goals (try (conv => whnf))
  all_goals first
    | (rw [risOK_no (l := l) (i := i) (by omega) (h.imp (fun h => ⟨by omega, by omega⟩) (fun h => by rw [cumZ_succ l i (by omega)]; omega))]; rfl)
    | (rw [← hcs (by omega)]
       exact ⟨(i + 1, _), ⟨⟨by omega, by rw [ha, cums_snoc], by rw [hcs (by omega)]; omega, upto_step hok ⟨by omega, by rw [hcs (by omega)]; omega⟩⟩, by show l.length - (i + 1) < l.length - i; omega⟩, (Forget.mk' ⟨⟨rfl, rfl⟩, ⟨rfl, rfl⟩, ⟨rfl, rfl⟩, ⟨rfl, rfl⟩, ⟨rfl, rfl⟩, trivial⟩ ⟨⟨rfl, rfl, rfl⟩, trivial⟩ rfl rfl)⟩)
    | (rw [risOK_end (l := l) (fun j hj => hok j (by omega)), ha, show i = l.length by omega]; rfl)
    | fail
end Go.Fw
namespace Go.Fw
open Go Go.Proofs
set_option maxHeartbeats 10000000
set_option maxRecDepth 100000
set_option linter.constructorNameAsVariable false
set_option linter.unusedVariables false
set_option linter.unusedSimpArgs false
def M25 : FuncId → List Mode := fun g => if g = 27 then [.own] else if g = 45 then [.own] else if g = 46 then [.own] else if g = 48 then [.own] else if g = 49 then [.own] else []
theorem gramRead_step (b : List UInt8) (n r n1 : Nat) (e e1 : Int) (hb : b.length ≤ 1000000000) (hn : n ≤ b.length) (h1 : mostS b n e 65536 = (r, n1, e1)) (hn1 : n1 ≤ b.length) (hr : (r : Int) ≤ 65536) (hq : (bmR b n1 e1 65536).2.1 ≤ b.length) (hql : ((bmR b n1 e1 65536).1.length : Int) ≤ 65536) (hp : (readP b n1 e1 65536).2.1 ≤ b.length) (hpl : ((readP b n1 e1 65536).1.length : Int) ≤ 65536) (hpx : ∀ x ∈ (readP b n1 e1 65536).1, x < 4294967296) : Has Try.prog 25 [curC b n e] (fun rs bs => (∃ x, rs = [CV.d x] ∧ D.norm x = D.norm (gramR b n e).1.d) ∧ bs = [curC b (gramR b n e).2.1 (gramR b n e).2.2] ) := by
  rw [gramR_eq h1]
  refine Has_of_run (fn := Try.f25) (M := M25) fol (by kernel_rfl) 2 noPlan [] [true] (by kernel_rfl) (Nat.le_of_ble_eq_true rfl) ?_
  (repeat' ((conv => whnf); first | done | (refine And.intro (fun h => ?_) (fun h => ?_) <;> (try simp only [Bool.or_eq_true, Bool.and_eq_true, Bool.or_eq_false_iff, Bool.and_eq_false_iff, toNat_pred, toNat_succ, toNat_addn, toNat_subn, decide_eq_true_eq, decide_eq_false_iff_not, Bool.not_eq_true', Bool.not_eq_false', List.length_map, Int.toNat_natCast, Int.not_lt, Int.not_le, Bool.not_eq_true, Bool.false_eq_true, Bool.true_eq_false, Bool.not_true, Bool.not_false, reduceCtorEq, beq_iff_eq, Bool.not_eq_eq_eq_not, bne_iff_ne, ne_eq, decide_not, Decidable.not_not, Classical.not_not] at h)) | exact (rfl : (_ : AV) = _) | exact (rfl : (_ : St) = _) | refine Exists.intro (α := AV) AV.dead (And.intro (fun h => Bool.noConfusion h) ?_) | apply ex_av | (refine fun (h : (_ : Bool) = true) => ?_; have h' := h; (try simp only [Bool.or_eq_true, Bool.and_eq_true, Bool.or_eq_false_iff, Bool.and_eq_false_iff, toNat_pred, toNat_succ, toNat_addn, toNat_subn, decide_eq_true_eq, decide_eq_false_iff_not, Bool.not_eq_true', Bool.not_eq_false', List.length_map, Int.toNat_natCast, Int.not_lt, Int.not_le, Bool.not_eq_true, Bool.false_eq_true, Bool.true_eq_false, Bool.not_true, Bool.not_false, reduceCtorEq, beq_iff_eq, Bool.not_eq_eq_eq_not, bne_iff_ne, ne_eq, decide_not, Decidable.not_not, Classical.not_not] at h')) | (refine And.intro (a := Both _ _ _) ?_ ?_; (refine ⟨fun h => ?_, fun h => ?_⟩ <;> first | rfl | exact h | exact Bool.noConfusion h | (rw [h]; rfl) | (rw [h]; simp only [Bool.not_false, Bool.not_true, Bool.and_true]; assumption) | (simp_all; done) | fail); skip) | refine And.intro rfl ?_ | refine Two.mk ?_ ?_ | refine And.intro (allU8_bytes _) ?_ | (refine And.intro (a := (_ : Bool) = true) ?_ ?_; (first | assumption | exact decide_eq_true (by assumption) | (rw [Bool.not_eq_true']; exact decide_eq_false (by assumption)) | (rw [Bool.not_not]; exact decide_eq_true (by assumption)) | (simp_all; done) | fail); skip) | refine And.intro (Or.inr rfl) ?_ | refine And.intro (Nat.le_of_ble_eq_true rfl) ?_ | refine And.intro (decide_eq_false (by omega)) ?_ | refine And.intro (show Program.stoodInHeld _ _ = _ by kernel_rfl) (And.intro (by kernel_rfl) ?_) | refine And.intro (show Nat.beq _ _ = _ from rfl) (And.intro (by decide) ?_) | refine And.intro ⟨rfl, rfl⟩ ?_ | refine And.intro ⟨rfl, rfl, trivial⟩ ?_ | refine And.intro (Int.natCast_nonneg _) ?_ | refine Or.inl (And.intro rfl (And.intro rfl (And.intro rfl (And.intro rfl ?_)))) | refine Or.inl (And.intro rfl (And.intro rfl ?_)) | refine Or.inr (And.intro (Nat.le_of_ble_eq_true rfl) ?_) | refine Or.inl (And.intro (by unfold in64; omega) ?_) | refine And.intro (by first | omega | (simp only [dlen, true_and, and_true, Nat.le_refl, List.length_map, List.length_append, List.length_cons, List.length_nil, List.length_take, List.length_drop, List.length_replicate, Int.toNat_natCast, List.append_nil] <;> omega) | fail) ?_ | refine And.intro (allU8_bytes _) ?_ | refine And.intro (show elemsP _ _ _ by repeat' (first | exact rfl | exact trivial | constructor)) ?_ | (refine (curMost_con _ _ _ _ hb (by assumption)).mono fun rs bs hr => ?_; obtain ⟨rfl, rfl⟩ := hr; simp only [h1]) | (refine (curGood_con _ _ _).mono fun rs bs hr => ?_; obtain ⟨rfl, rfl⟩ := hr) | (refine (curFail_con _ _ _ _).mono fun rs bs hr => ?_; obtain ⟨rfl, rfl⟩ := hr) | (refine (bmRead_con b n1 e1 65536 hb hn1 (by omega) (by omega)).mono fun rs bs hr => ?_; obtain ⟨rfl, rfl⟩ := hr) | (refine (packRead_con b n1 e1 65536 hb hn1 (by omega) (by omega)).mono fun rs bs hr => ?_; obtain ⟨rfl, rfl⟩ := hr) | (refine (rising_con (readP b n1 e1 65536).1 (by omega) hpx).mono fun rs bs hr => ?_; subst hr) | (refine fun x hx => ?_; (try simp (disch := omega) only [Int.tdiv_eq_ediv_of_nonneg, Int.tmod_eq_emod_of_nonneg, bx, Bool.true_or, Bool.false_or, Bool.or_false, Bool.or_true, Bool.and_true, Bool.true_and, Bool.false_and, Bool.and_false, cond_true, cond_false, if_true, if_false, Bool.false_eq_true, min_nn, max_nn, min_ln, min_nl, max_ln, max_nl, getD_map, str_of_bytes, take_bytes, take_data, wrap_u64, wrap_u32, wrap_u8, shr_i64, shr_u64, shr_u32, shl_i64, shl_u64, Int.reduceToNat, Int.reducePow, Int.pow_succ, Int.pow_zero, Int.one_mul, Int.reduceMul, wrap_id, wrap_u8_nat, wrap_i64_u8, byteD_mk, map_snoc, map_app, set_map, take_map', drop_map', Nat.sub_zero, List.length_map, List.length_append, List.length_cons, List.length_nil, Int.toNat_natCast, List.drop_zero, List.take_succ_cons, List.take_zero, List.take_length, List.nil_append, List.append_nil, Nat.zero_add, toNat_pred, toNat_succ, toNat_addn, toNat_subn] at hx); subst hx) | rw [List.take_length] | (rw [List.take_of_length_le]; rotate_left; (first | omega | (simp only [dlen, true_and, and_true, Nat.le_refl, List.length_map, List.length_append, List.length_cons, List.length_nil, List.length_take, List.length_drop, List.length_replicate, Int.toNat_natCast, List.append_nil] <;> omega) | fail)) | refine fun h => ?_ | fail)); all_goals (try exact (AV.dead : AV)); all_goals (try (conv => whnf))
  all_goals first
    | (exfalso; revert h; split <;> intro h <;> omega)
    | (rw [if_pos (show e1 ≠ 0 from ‹_›)]; exact ⟨⟨_, rfl, rfl⟩, rfl⟩)
    | (rw [if_neg (show ¬ e1 ≠ 0 by omega), if_pos (show 0 < r by omega), decide_eq_false (p := (bmR b n1 e1 65536).1.length = r) (by omega), finF_err (show okE false (bmR b n1 e1 65536).2.2 ≠ 0 from failE_ne (by omega))]; exact ⟨⟨_, rfl, rfl⟩, rfl⟩)
    | (rw [if_neg (show ¬ e1 ≠ 0 by omega), if_pos (show 0 < r by omega), decide_eq_true (p := (bmR b n1 e1 65536).1.length = r) (by omega), finF_err (show okE true (bmR b n1 e1 65536).2.2 ≠ 0 from ‹_›)]; exact ⟨⟨_, rfl, rfl⟩, rfl⟩)
    | (rw [if_neg (show ¬ e1 ≠ 0 by omega), if_pos (show 0 < r by omega), decide_eq_true (p := (bmR b n1 e1 65536).1.length = r) (by omega), finF_ok (show okE true (bmR b n1 e1 65536).2.2 = 0 from ‹_›)]; exact ⟨⟨_, rfl, rfl⟩, rfl⟩)
    | (rw [if_neg (show ¬ e1 ≠ 0 by omega), if_neg (show ¬ 0 < r by omega), show (riseR (readP b n1 e1 65536).1).2 = false from ‹_›, finF_err (show okE false (readP b n1 e1 65536).2.2 ≠ 0 from failE_ne (by omega))]; exact ⟨⟨_, rfl, rfl⟩, rfl⟩)
    | (rw [if_neg (show ¬ e1 ≠ 0 by omega), if_neg (show ¬ 0 < r by omega), show (riseR (readP b n1 e1 65536).1).2 = true from ‹_›, finF_err (show okE true (readP b n1 e1 65536).2.2 ≠ 0 from ‹_›)]; exact ⟨⟨_, rfl, rfl⟩, rfl⟩)
    | (have e0 : r = 0 := (by omega); subst e0; rw [if_neg (show ¬ e1 ≠ 0 by omega), if_neg (show ¬ 0 < 0 by omega), show (riseR (readP b n1 e1 65536).1).2 = true from ‹_›, finF_ok (show okE true (readP b n1 e1 65536).2.2 = 0 from ‹_›)]; exact ⟨⟨_, rfl, rfl⟩, rfl⟩)
    | fail
theorem gramRead_con (b : List UInt8) (n : Nat) (e : Int) (hb : b.length ≤ 1000000000) (hn : n ≤ b.length) : Has Try.prog 25 [curC b n e] (fun rs bs => rs = [CV.d (gramR b n e).1.d] ∧ bs = [curC b (gramR b n e).2.1 (gramR b n e).2.2]) := by
  have l1 : (mostS b n e 65536).2.1 ≤ b.length := mostS_le hn
  refine (gramRead_step b n _ _ e _ hb hn rfl l1 (mostS_most b n e (by omega)) (bmR_le l1) (bmR_len _ _ _ (by omega)) (readP_le l1) (readP_len _ _ _ (by omega) l1) (readP_lt _ _ _ _)).normR fun rs bs h => ?_
  obtain ⟨⟨x, rfl, hx⟩, rfl⟩ := h
  exact ⟨_, by simp only [List.map_cons, List.map_nil, CV.norm, hx], rfl, rfl⟩
end Go.Fw
namespace Go.Fw
open Go
set_option linter.unusedVariables false
set_option linter.unusedSimpArgs false
mutual
def CV.dat : CV → Option D
  | .d x => some x
  | .nils => some (.sl 0 [])
  | .own e z l => some (.sl z l)
  | .agg l => match dats l with
    | some xs => some (.agg xs)
    | none => none
  | _ => none
def dats : List CV → Option (List D)
  | [] => some []
  | x :: r => match x.dat, dats r with
    | some y, some ys => some (y :: ys)
    | _, _ => none
end
theorem dat_cell : ∀ {x : CV} {y : D}, x.dat = some y → x.cell = true → y.isAgg = false
  | .d x, y, h, hc => by
    simp only [CV.dat, Option.some.injEq] at h
    subst h
    simpa [CV.cell] using hc
  | .nils, y, h, hc => by
    simp only [CV.dat, Option.some.injEq] at h
    subst h
    rfl
  | .own e z l, y, h, hc => by
    simp only [CV.dat, Option.some.injEq] at h
    subst h
    rfl
  | .agg l, y, h, hc => by simp [CV.cell] at hc
  | .box e l, y, h, hc => by simp [CV.dat] at h
  | .gone, y, h, hc => by simp [CV.dat] at h
section
variable {w : World} {F : Nat → Prop}
theorem DRv_of_DRc {y : D} {v : Value} (hc : y.isAgg = false) (h : DRv w F y v) : DRc w F y [v] := by
  cases y <;> first | exact h | simp [D.isAgg] at hc
mutual
theorem CR_dat : ∀ (x : CV) (v : Value) (fp : List Nat) (y : D), CR w F x v fp → x.dat = some y → DRv w (fun b => F b ∨ b ∈ fp) y v
  | .d x, v, fp, y, h, hy => by
    simp only [CV.dat, Option.some.injEq] at hy
    subst hy
    simp only [CR] at h
    exact h.1.mono (fun _ _ => rfl) fun b => .inl
  | .nils, v, fp, y, h, hy => by
    simp only [CV.dat, Option.some.injEq] at hy
    subst hy
    simp only [CR] at h
    simp only [DRv, DRc]
    exact ⟨none, 0, by simp [h.1], Nat.le_refl _, Nat.zero_le _, .inl trivial⟩
  | .own e z l, v, fp, y, h, hy => by
    simp only [CV.dat, Option.some.injEq] at hy
    subst hy
    simp only [CR] at h
    simp only [DRv, DRc]
    rcases h with ⟨rfl, rfl, rfl⟩ | ⟨b, n, cs, fr, rfl, hh, hu, h0, hcs, hln, hm, hd, rfl⟩
    · exact ⟨none, 0, rfl, Nat.le_refl _, Nat.zero_le _, .inl rfl⟩
    · refine ⟨some ⟨b, 0, none⟩, n, rfl, hln, hm, .inr ⟨⟨b, 0, none⟩, cs.toList.take (l.length * z), rfl, .inr (by simp), ?_, ?_⟩⟩
      · have := Cells_of_block hh 0 (l.length * z)
        rw [List.drop_zero] at this
        exact this
      · exact DRr.mono (fun _ _ => rfl) (fun b => .inl) _ _ _ hd
  | .agg l, v, fp, y, h, hy => by
    simp only [CV.dat] at hy
    split at hy
    · rename_i xs hxs
      simp only [Option.some.injEq] at hy
      subst hy
      simp only [CR] at h
      obtain ⟨cs, rfl, hc, hl⟩ := h
      simp only [DRv]
      exact ⟨cs, rfl, CRl_dat l cs.toList fp xs hl hc hxs⟩
    · cases hy
  | .box e l, v, fp, y, h, hy => by simp [CV.dat] at hy
  | .gone, v, fp, y, h, hy => by simp [CV.dat] at hy
theorem CRl_dat : ∀ (l : List CV) (vs : List Value) (fp : List Nat) (xs : List D), CRl w F l vs fp → cvCells l = true → dats l = some xs → DRl w (fun b => F b ∨ b ∈ fp) xs vs
  | [], vs, fp, xs, h, hc, hx => by
    simp only [dats, Option.some.injEq] at hx
    subst hx
    simp only [CRl] at h
    simp [DRl, h.1]
  | x :: r, vs, fp, xs, h, hc, hx => by
    simp only [dats] at hx
    split at hx
    · rename_i y ys hy hys
      simp only [Option.some.injEq] at hx
      subst hx
      simp only [cvCells, Bool.and_eq_true] at hc
      simp only [CRl] at h
      obtain ⟨v, vs', f1, f2, rfl, h1, h2, rfl⟩ := h
      have g1 := CR_dat x v f1 y h1 hy
      have g2 := CRl_dat r vs' f2 ys h2 hc.2 hys
      have ha := dat_cell hy hc.1
      simp only [DRl]
      refine ⟨v, vs', rfl, ha, ?_, DRl.mono (fun _ _ => rfl) (fun b hb => hb.imp id fun h => List.mem_append_right _ h) _ _ g2⟩
      exact DRc.mono (fun _ _ => rfl) (fun b hb => hb.imp id fun h => List.mem_append_left _ h) _ _ (DRv_of_DRc ha g1)
    · cases hx
end
theorem CRl_dats : ∀ (l : List CV) (vs : List Value) (fp : List Nat) (xs : List D), CRl w F l vs fp → dats l = some xs → CRl w (fun b => F b ∨ b ∈ fp) (xs.map CV.d) vs []
  | [], vs, fp, xs, h, hx => by
    simp only [dats, Option.some.injEq] at hx
    subst hx
    simp only [CRl] at h
    simp [CRl, h.1]
  | x :: r, vs, fp, xs, h, hx => by
    simp only [dats] at hx
    split at hx
    · rename_i y ys hy hys
      simp only [Option.some.injEq] at hx
      subst hx
      simp only [CRl] at h
      obtain ⟨v, vs', f1, f2, rfl, h1, h2, rfl⟩ := h
      have g1 := CR_dat x v f1 y h1 hy
      have g2 := CRl_dats r vs' f2 ys h2 hys
      simp only [List.map_cons, CRl, CR]
      exact ⟨v, vs', [], [], rfl, ⟨g1.mono (fun _ _ => rfl) (fun b hb => hb.imp id fun h => List.mem_append_left _ h), rfl⟩, CRl.mono (fun b hb => hb.imp id fun h => List.mem_append_right _ h) _ _ _ g2, rfl⟩
    · cases hx
end
 
theorem Has.dat {P : Program} {g : FuncId} {args : List CV} {R : List CV → List CV → Prop} {R' : List CV → List CV → Prop} (h : Has P g args R) (hr : ∀ rs bs, R rs bs → ∃ xs, dats rs = some xs ∧ R' (xs.map CV.d) bs) : Has P g args R' := by
  constructor
  intro F w vs fp h1 h2 h3 h4
  have key : ∀ v w', (∃ rs az F' vr f1 f2, R rs az ∧ Left F w vs fp rs az v w' F' vr f1 f2) → ∃ rs az F' vr f1 f2, R' rs az ∧ Left F w vs fp rs az v w' F' vr f1 f2 := by
    rintro v w' ⟨rs, az, F', vr, f1, f2, hR, l⟩
    obtain ⟨xs, he, hR'⟩ := hr rs az hR
    have hnd := List.nodup_append.1 l.nodup
    refine ⟨xs.map CV.d, az, fun b => F' b ∨ b ∈ f1, vr, [], f2, hR', l.res, CRl_dats rs vr f1 xs l.rs he, CRl.mono (fun b => .inl) _ _ _ l.az, by simpa using hnd.2.1, fun b hb => ?_, fun b hb => ?_, fun b hb => .inl (l.sub b hb), l.keep, fun b hb => ?_, l.os, l.tape, l.output, l.size⟩
    · have hb2 : b ∈ f2 := by simpa using hb
      have := l.sep b (List.mem_append_right _ hb2)
      exact ⟨fun h => h.elim this.1 fun h' => hnd.2.2 b h' b hb2 rfl, this.2⟩
    · exact hb.elim (l.lt b) fun h => (l.sep b (List.mem_append_left _ h)).2
    · rcases hb with (hb | hb) | hb
      · exact l.new b (.inl hb)
      · exact l.new b (.inr (List.mem_append_left _ hb))
      · exact l.new b (.inr (List.mem_append_right _ (by simpa using hb)))
  have := h.con F w vs fp h1 h2 h3 h4
  unfold Enters at this ⊢
  split at this
  · exact key _ _ this
  · refine this.mono fun e w' he => ?_
    cases e
    · exact key _ _ he
    · exact he
    · exact he
  · exact this.mono fun v w' he => key _ _ he
  · exact this.elim
 
theorem Has.datN {P : Program} {g : FuncId} {args : List CV} {r0 : List CV} {xs ys : List D} (h : Has P g args (fun rs _ => rs = r0)) (hd : dats r0 = some xs) (e : ys.map D.norm = xs.map D.norm) : Has P g args (fun rs _ => rs = ys.map CV.d) :=
  (h.dat (R' := fun rs _ => rs = xs.map CV.d) fun rs bs hr => ⟨xs, by subst hr; exact hd, rfl⟩).normR fun rs bs hr => ⟨ys.map CV.d, by
    subst hr
    rw [List.map_map, List.map_map]
    have h1 : ∀ l : List D, l.map (CV.norm ∘ CV.d) = (l.map D.norm).map CV.d := fun l => by
      rw [List.map_map]
      rfl
    rw [h1, h1, e], rfl⟩
end Go.Fw
namespace Go.Fw
open Go Go.Proofs
set_option maxHeartbeats 10000000
set_option maxRecDepth 100000
set_option linter.constructorNameAsVariable false
set_option linter.unusedVariables false
set_option linter.unusedSimpArgs false
theorem refMake_noneD (l : List ByteArray) (hl : l.length ≤ 1000) (hz : ∀ s ∈ l, s.size ≤ maxLen) : Has Try.prog 12 [.d (.sl 1 (l.map D.str)), .d (.int .i64 0)] (fun rs _ => rs = [.d (Filt.d ⟨0, gramsS l, []⟩)]) :=
  Has.datN (ys := [Filt.d ⟨0, gramsS l, []⟩]) (refMake_none l hl hz) rfl rfl
theorem refMake_someD (l : List ByteArray) (b : Int) (hl : l.length ≤ 1000) (hz : ∀ s ∈ l, s.size ≤ maxLen) (h0 : 0 < b) (h1 : b ≤ 65536) : Has Try.prog 12 [.d (.sl 1 (l.map D.str)), .d (.int .i64 b)] (fun rs _ => rs = [.d (Filt.d ⟨b, [], bitsS b (gramsS l)⟩)]) :=
  Has.datN (ys := [Filt.d ⟨b, [], bitsS b (gramsS l)⟩]) (refMake_some l b hl hz h0 h1) rfl rfl
theorem make_noneD (l : List ByteArray) (hl : l.length ≤ 1000) (hz : sizeL l ≤ 60000) : Has Try.prog 10 [.d (.sl 1 (l.map D.str)), .d (.int .i64 0)] (fun rs _ => rs = [.d (Filt.d ⟨0, gramsS l, []⟩), .d (.int .i64 0)]) :=
  Has.datN (ys := [Filt.d ⟨0, gramsS l, []⟩, .int .i64 0]) (make_none l hl hz) rfl rfl
theorem make_someD (l : List ByteArray) (b : Int) (hl : l.length ≤ 1000) (hz : sizeL l ≤ 60000) (h0 : 0 < b) (h1 : b ≤ 65536) : Has Try.prog 10 [.d (.sl 1 (l.map D.str)), .d (.int .i64 b)] (fun rs _ => rs = [.d (Filt.d ⟨b, [], bitsS b (gramsS l)⟩), .d (.int .i64 0)]) :=
  Has.datN (ys := [Filt.d ⟨b, [], bitsS b (gramsS l)⟩, .int .i64 0]) (make_some l b hl hz h0 h1) rfl rfl
theorem gramWriteD (f : Filt) (hw : FWr f) : Has Try.prog 21 [.d f.d] (fun rs _ => rs = [.d (.sl 1 ((filtW f).map byteD))]) := Has.datN (ys := [.sl 1 ((filtW f).map byteD)]) (gramWrite_con f hw) rfl rfl
theorem refGramWriteD (f : Filt) (hw : FWr f) : Has Try.prog 24 [.d f.d] (fun rs _ => rs = [.d (.sl 1 ((filtW f).map byteD))]) := Has.datN (ys := [.sl 1 ((filtW f).map byteD)]) (refGramWrite_con f hw) rfl rfl
theorem same_any (f : Filt) : Has Try.prog 11 [.d f.d, .d f.d] (fun rs _ => rs = [.d (.bool true)]) :=
  (same15_con f.b f.b f.zs f.zs f.bs f.bs).mono fun rs bs h => by rw [h]; simp
theorem same01_same (a : List UInt8) : Has Try.prog 23 [.d (.sl 1 (a.map byteD)), .d (.sl 1 (a.map byteD))] (fun rs _ => rs = [.d (.bool true)]) :=
  (same01_con a a).mono fun rs bs h => by rw [h, decide_eq_true rfl]
theorem gramRead_own (f : Filt) (hw : FWr f) (hl : (filtW f).length ≤ 1000000000) (hz : f.zs.length ≤ 65536) (hb : 0 < f.b → f.zs = []) (hb0 : f.b = 0 → f.bs = []) : Has Try.prog 25 [curC (filtW f) 0 0] (fun rs bs => rs = [.d f.d] ∧ bs = [curC (filtW f) (filtW f).length 0]) :=
  (gramRead_con (filtW f) 0 0 hl (Nat.zero_le _)).mono fun rs bs h => by
    have h1 := gramR_put [] [] hw hz hb hb0
    simp only [List.nil_append, List.append_nil, List.length_nil, Nat.zero_add] at h1
    rw [h1] at h
    exact h
theorem curEnd_end (b : List UInt8) (hb : b.length ≤ 1000000000) : Has Try.prog 26 [curC b b.length 0] (fun rs bs => rs = [.d (.int .i64 0)] ∧ bs = [curC b b.length 0]) :=
  (curEnd_con b b.length 0 hb (Nat.le_refl _)).mono fun rs bs h => by
    rw [if_neg (by omega)] at h
    exact h
theorem filtW_len {f : Filt} (hw : FWr f) : (filtW f).length ≤ 1000000 := by
  have h0 := hw.ok.b0
  have h1 := hw.ok.b1
  have hbl := hw.ok.bl
  have hzl := hw.zl
  unfold filtW
  split
  · have hq := putN_len 8 f.b.toNat (by omega)
    have hq2 := putN_len 8 f.bs.length (by omega)
    rw [List.length_append, bmW_len]
    omega
  · have hq := putN_len 8 0 (by omega)
    have hkw := pkW_len (l := stepN f.zs) (by rw [stepN_len]; omega) (fun x h => by have := stepN_lt hw.ok.rise hw.zr x h; omega)
    rw [List.length_append]
    omega
def M7 : FuncId → List Mode := fun g => if g = 25 then [.own] else if g = 26 then [.own] else if g = 27 then [.own] else if g = 28 then [.own] else []
def pl7 : Nat → Plan
  | 6 => tks 0 [0] (.tak 1 .rd [2, 3, 4, 5, 6, 7, 8, 9, 10, 11, 12, 13, 14, 15, 16] (.one 2 (.one 3 (tks 4 [0, 0, 0] (.two 7 (.tak 8 .rd [9, 10, 11, 12, 13, 14, 15, 16] (.one 9 (tks 10 [0, 0, 0, 0] (.one 14 (tks 15 [0, 0] (.done)))))) 8 (.one 7 (.one 9 (tks 10 [0, 0, 0, 0] (.one 14 (tks 15 [0, 0] (.done)))))))))))
  | _ => .done
theorem gramBack_con (l : List ByteArray) (bits : Int) (b : List UInt8) (hz : sizeL l ≤ 1048576) (hb0 : 0 ≤ bits) (hb1 : bits < 65536) : Has Try.prog 7 [CV.d (D.sl 1 (l.map D.str)), CV.d (D.int .u16 bits), CV.d (D.sl 1 (b.map byteD))] (fun rs _ => rs = [CV.d (D.bool true)] ) := by
  have hbm := mod_range bits 3000 (by omega); have hgl := gramsS_len l
  refine Has_of_run (fn := Try.f7) (M := M7) fol (by kernel_rfl) 7 pl7 [] [] (by kernel_rfl) (Nat.le_of_ble_eq_true rfl) ?_
  (repeat' ((conv => whnf); first | done | (refine And.intro (fun h => ?_) (fun h => ?_) <;> (try simp only [Bool.or_eq_true, Bool.and_eq_true, Bool.or_eq_false_iff, Bool.and_eq_false_iff, toNat_pred, toNat_succ, toNat_addn, toNat_subn, decide_eq_true_eq, decide_eq_false_iff_not, Bool.not_eq_true', Bool.not_eq_false', List.length_map, Int.toNat_natCast, Int.not_lt, Int.not_le, Bool.not_eq_true, Bool.false_eq_true, Bool.true_eq_false, Bool.not_true, Bool.not_false, reduceCtorEq, beq_iff_eq, Bool.not_eq_eq_eq_not, bne_iff_ne, ne_eq, decide_not, Decidable.not_not, Classical.not_not] at h)) | exact (rfl : (_ : AV) = _) | exact (rfl : (_ : St) = _) | refine Exists.intro (α := AV) AV.dead (And.intro (fun h => Bool.noConfusion h) ?_) | apply ex_av | (refine fun (h : (_ : Bool) = true) => ?_; have h' := h; (try simp only [Bool.or_eq_true, Bool.and_eq_true, Bool.or_eq_false_iff, Bool.and_eq_false_iff, toNat_pred, toNat_succ, toNat_addn, toNat_subn, decide_eq_true_eq, decide_eq_false_iff_not, Bool.not_eq_true', Bool.not_eq_false', List.length_map, Int.toNat_natCast, Int.not_lt, Int.not_le, Bool.not_eq_true, Bool.false_eq_true, Bool.true_eq_false, Bool.not_true, Bool.not_false, reduceCtorEq, beq_iff_eq, Bool.not_eq_eq_eq_not, bne_iff_ne, ne_eq, decide_not, Decidable.not_not, Classical.not_not] at h')) | (refine And.intro (a := Both _ _ _) ?_ ?_; (refine ⟨fun h => ?_, fun h => ?_⟩ <;> first | rfl | exact h | exact Bool.noConfusion h | (rw [h]; rfl) | (rw [h]; simp only [Bool.not_false, Bool.not_true, Bool.and_true]; assumption) | (simp_all; done) | fail); skip) | refine And.intro rfl ?_ | refine Two.mk ?_ ?_ | refine And.intro (allU8_bytes _) ?_ | (refine And.intro (a := (_ : Bool) = true) ?_ ?_; (first | assumption | exact decide_eq_true (by assumption) | (rw [Bool.not_eq_true']; exact decide_eq_false (by assumption)) | (rw [Bool.not_not]; exact decide_eq_true (by assumption)) | (simp_all; done) | fail); skip) | refine And.intro (Or.inr rfl) ?_ | refine And.intro (Nat.le_of_ble_eq_true rfl) ?_ | refine And.intro (decide_eq_false (by omega)) ?_ | refine And.intro (show Program.stoodInHeld _ _ = _ by kernel_rfl) (And.intro (by kernel_rfl) ?_) | refine And.intro (show Nat.beq _ _ = _ from rfl) (And.intro (by decide) ?_) | refine And.intro ⟨rfl, rfl⟩ ?_ | refine And.intro ⟨rfl, rfl, trivial⟩ ?_ | refine And.intro (Int.natCast_nonneg _) ?_ | refine Or.inl (And.intro rfl (And.intro rfl (And.intro rfl (And.intro rfl ?_)))) | refine Or.inl (And.intro rfl (And.intro rfl ?_)) | refine Or.inr (And.intro (Nat.le_of_ble_eq_true rfl) ?_) | refine Or.inl (And.intro (by unfold in64; omega) ?_) | refine And.intro (by first | omega | (simp only [dlen, true_and, and_true, Nat.le_refl, List.length_map, List.length_append, List.length_cons, List.length_nil, List.length_take, List.length_drop, List.length_replicate, Int.toNat_natCast, List.append_nil] <;> omega) | fail) ?_ | refine And.intro (allU8_bytes _) ?_ | refine And.intro (show elemsP _ _ _ by repeat' (first | exact rfl | exact trivial | constructor)) ?_ | (refine (awake15_con).mono fun rs bs hr => ?_; subst hr) | (refine (few15_con l).mono fun rs bs hr => ?_; subst hr) | ((have hfw : fewW l = true := (by simp_all; done); have hl2 := few_len' hfw; have hz2 := few_size' hz hfw; rcases (by omega : bits % 3000 = 0 ∨ 0 < bits % 3000) with hb | hb; all_goals first | (rw [hb]; refine (refMake_noneD l hl2 (sizeL_max hz)).mono fun rs bs hr => ?_; subst hr) | refine (refMake_someD l (bits % 3000) hl2 (sizeL_max hz) hb (by omega)).mono fun rs bs hr => ?_; subst hr | fail)) | (refine Has.mono (Has.norm (gramWriteD ⟨0, gramsS l, []⟩ (fwr_none l hz2)) (by rfl)) (fun rs bs hr => ?_); subst hr) | (refine Has.mono (Has.norm (gramWriteD ⟨bits % 3000, [], bitsS (bits % 3000) (gramsS l)⟩ (fwr_some l _ hb (by omega))) (by rfl)) (fun rs bs hr => ?_); subst hr) | (refine (curNew_con (filtW ⟨0, gramsS l, []⟩) (Nat.le_trans (filtW_len (fwr_none l hz2)) (by omega))).mono fun rs bs hr => ?_; subst hr) | (refine (curNew_con (filtW ⟨bits % 3000, [], bitsS (bits % 3000) (gramsS l)⟩) (Nat.le_trans (filtW_len (fwr_some l _ hb (by omega))) (by omega))).mono fun rs bs hr => ?_; subst hr) | (refine (curNew_con b (by omega)).mono fun rs bs hr => ?_; subst hr) | (refine Has.mono (Has.norm (refGramWriteD ⟨0, gramsS l, []⟩ (fwr_none l hz2)) (by rfl)) (fun rs bs hr => ?_); subst hr) | (refine Has.mono (Has.norm (refGramWriteD ⟨bits % 3000, [], bitsS (bits % 3000) (gramsS l)⟩ (fwr_some l _ hb (by omega))) (by rfl)) (fun rs bs hr => ?_); subst hr) | (refine (same01_same (filtW ⟨0, gramsS l, []⟩)).mono fun rs bs hr => ?_; subst hr) | (refine (same01_same (filtW ⟨bits % 3000, [], bitsS (bits % 3000) (gramsS l)⟩)).mono fun rs bs hr => ?_; subst hr) | (refine (gramRead_own ⟨0, gramsS l, []⟩ (fwr_none l hz2) (Nat.le_trans (filtW_len (fwr_none l hz2)) (by omega)) (by first | (show (gramsS l).length ≤ _; omega) | (show (0 : Nat) ≤ _; omega)) (fun h => by first | rfl | (exfalso; exact absurd h (by simp))) (fun h => by first | rfl | (exfalso; have h9 : bits % 3000 = 0 := h; omega))).mono fun rs bs hr => ?_; obtain ⟨rfl, rfl⟩ := hr) | (refine (curEnd_end (filtW ⟨0, gramsS l, []⟩) (Nat.le_trans (filtW_len (fwr_none l hz2)) (by omega))).mono fun rs bs hr => ?_; obtain ⟨rfl, rfl⟩ := hr) | (refine Has.mono (Has.norm (same_any ⟨0, gramsS l, []⟩) (by rfl)) (fun rs bs hr => ?_); subst hr) | (refine (gramRead_own ⟨bits % 3000, [], bitsS (bits % 3000) (gramsS l)⟩ (fwr_some l _ hb (by omega)) (Nat.le_trans (filtW_len (fwr_some l _ hb (by omega))) (by omega)) (by first | (show (gramsS l).length ≤ _; omega) | (show (0 : Nat) ≤ _; omega)) (fun h => by first | rfl | (exfalso; exact absurd h (by simp))) (fun h => by first | rfl | (exfalso; have h9 : bits % 3000 = 0 := h; omega))).mono fun rs bs hr => ?_; obtain ⟨rfl, rfl⟩ := hr) | (refine (curEnd_end (filtW ⟨bits % 3000, [], bitsS (bits % 3000) (gramsS l)⟩) (Nat.le_trans (filtW_len (fwr_some l _ hb (by omega))) (by omega))).mono fun rs bs hr => ?_; obtain ⟨rfl, rfl⟩ := hr) | (refine Has.mono (Has.norm (same_any ⟨bits % 3000, [], bitsS (bits % 3000) (gramsS l)⟩) (by rfl)) (fun rs bs hr => ?_); subst hr) | (refine (gramRead_con b 0 0 (by omega) (Nat.zero_le _)).mono fun rs bs hr => ?_; obtain ⟨rfl, rfl⟩ := hr) | (refine (curGood_con _ _ _).mono fun rs bs hr => ?_; obtain ⟨rfl, rfl⟩ := hr) | ((rw [gramR_err ‹_›]; refine Has.mono (Has.norm (same_any zeroF) (by rfl)) (fun rs bs hr => ?_); subst hr)) | ((have htk := gramR_took (b := b) (n := 0) (e := 0) (Nat.zero_le _) ‹_›; have htl := htk.2.1.2.2; refine Has.mono (Has.norm (refGramWriteD (gramR b 0 0).1 htk.2.2) (by rfl)) (fun rs bs hr => ?_); subst hr)) | (refine (curLeft_con _ _ _ (by omega) htl).mono fun rs bs hr => ?_; obtain ⟨rfl, rfl⟩ := hr) | (refine (same01_con _ _).mono fun rs bs hr => ?_; subst hr) | (refine fun x hx => ?_; (try simp (disch := omega) only [Int.tdiv_eq_ediv_of_nonneg, Int.tmod_eq_emod_of_nonneg, bx, Bool.true_or, Bool.false_or, Bool.or_false, Bool.or_true, Bool.and_true, Bool.true_and, Bool.false_and, Bool.and_false, cond_true, cond_false, if_true, if_false, Bool.false_eq_true, min_nn, max_nn, min_ln, min_nl, max_ln, max_nl, getD_map, str_of_bytes, take_bytes, take_data, wrap_u64, wrap_u32, wrap_u8, shr_i64, shr_u64, shr_u32, shl_i64, shl_u64, Int.reduceToNat, Int.reducePow, Int.pow_succ, Int.pow_zero, Int.one_mul, Int.reduceMul, wrap_id, wrap_u8_nat, wrap_i64_u8, byteD_mk, map_snoc, map_app, set_map, take_map', drop_map', Nat.sub_zero, List.length_map, List.length_append, List.length_cons, List.length_nil, Int.toNat_natCast, List.drop_zero, List.take_succ_cons, List.take_zero, List.take_length, List.nil_append, List.append_nil, Nat.zero_add, toNat_pred, toNat_succ, toNat_addn, toNat_subn] at hx); subst hx) | rw [List.take_length] | (rw [List.take_of_length_le]; rotate_left; (first | omega | (simp only [dlen, true_and, and_true, Nat.le_refl, List.length_map, List.length_append, List.length_cons, List.length_nil, List.length_take, List.length_drop, List.length_replicate, Int.toNat_natCast, List.append_nil] <;> omega) | fail)) | refine fun h => ?_ | fail)); all_goals (try exact (AV.dead : AV)); all_goals (try (conv => whnf))
  all_goals first
    | (exfalso; omega)
    | exact rb (decide_eq_true (by rw [show b.length - (b.length - (gramR b 0 0).2.1) = (gramR b 0 0).2.1 by omega, htk.2.1.1]; simp))
    | (exfalso; simp_all; done)
    | fail
theorem gramBack_law (xs : List D) (h : HasTs Try.prog Try.f7.params.toList xs) (hm : bulkDl xs ≤ 1048576) : Has Try.prog 7 (xs.map CV.d) (fun rs _ => rs = [.d (.bool true)]) := by
  obtain ⟨x, y, z, rfl, h1, h2, h3⟩ := three_args h
  obtain ⟨l, rfl, _, _⟩ := h1.asStrs (e := 9) (by kernel_rfl) (by kernel_rfl) (by kernel_rfl)
  obtain ⟨n, rfl, hn⟩ := h2.asInt (k := .u16) (by kernel_rfl)
  obtain ⟨b, rfl, _⟩ := h3.asBytes (e := 5) (by kernel_rfl) (by kernel_rfl) (by kernel_rfl)
  have hn := u16_range hn
  exact gramBack_con l n b (bulk_strs hm) hn.1 hn.2
end Go.Fw
