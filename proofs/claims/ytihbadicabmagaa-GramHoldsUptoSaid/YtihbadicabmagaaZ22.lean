/- What the proofs of this seat lean on, part 22: a symbolic machine that is shown sound, walks through functions, plain laws. -/
import Derived.Test.YtihbadicabmagaaZ21
import Derived.Lib.IndexMore
import Derived.Test.YtihbadicabmagaaZ16
namespace Go.Fw
open Go
set_option linter.unusedVariables false
set_option linter.unusedSimpArgs false
theorem gramL_mem {s : ByteArray} {x : Int} : x ∈ gramL s ↔ ∃ i, i + 2 < s.size ∧ gramI s i = x := by
  unfold gramL
  rw [List.mem_map]
  constructor
  · rintro ⟨i, hi, e⟩
    exact ⟨i, by have := List.mem_range.1 hi; omega, e⟩
  · rintro ⟨i, hi, e⟩
    exact ⟨i, List.mem_range.2 (by omega), e⟩
theorem hasF_some {l : List ByteArray} {b : Int} (hb : 0 < b) {x : Int} (hx : x ∈ gramsS l) : hasF ⟨b, [], bitsS b (gramsS l)⟩ x = true := by
  obtain ⟨h0, h1⟩ := placeI_range (g := x) hb
  rw [hasF, if_pos hb]
  show (bitsS b (gramsS l)).getD (placeI x b).toNat default = true
  have hlt : (placeI x b).toNat < b.toNat := by omega
  rw [List.getD_eq_getElem?_getD, List.getElem?_eq_getElem (by rw [bitsS_len]; exact hlt)]
  simp only [Option.getD_some, bitsS, List.getElem_map, List.getElem_range]
  rw [List.any_eq_true]
  exact ⟨x, hx, by rw [decide_eq_true_eq]; omega⟩
theorem hasF_none {l : List ByteArray} {x : Int} : hasF ⟨0, gramsS l, []⟩ x = decide (x ∈ gramsS l) := by
  rw [hasF, if_neg (by simp)]
theorem mayF_sub {f : Filt} {s : ByteArray} (h : ∀ x ∈ gramL s, hasF f x = true) : mayF f s = true := by
  unfold mayF
  rw [List.all_eq_true]
  exact fun x hx => h x ((gramS_mem s x).1 hx)
theorem may_each {l : List ByteArray} {b : Int} (hb : 0 < b) {i : Nat} (hi : i < l.length) : mayF ⟨b, [], bitsS b (gramsS l)⟩ (l.getD i default) = true :=
  mayF_sub fun x hx => hasF_some hb (gramsS_mem.2 ⟨_, getD_memB hi, hx⟩)
theorem bAt_ext {s : ByteArray} {k j : Nat} (h : k + j < s.size) : bAt (s.extract k s.size) j = bAt s (k + j) := by
  have hl : s.data.toList.length = s.size := by simp
  unfold bAt
  rw [ByteArray.data_extract, Array.toList_extract]
  simp only [List.extract_eq_take_drop, List.getD_eq_getElem?_getD]
  rw [List.getElem?_take, if_pos (by omega), List.getElem?_drop]
theorem gramI_ext {s : ByteArray} {k j : Nat} (h : k + j + 2 < s.size) : gramI (s.extract k s.size) j = gramI s (k + j) := by
  unfold gramI
  rw [bAt_ext (by omega), bAt_ext (by omega), bAt_ext (by omega)]
  rfl
theorem may_part {l : List ByteArray} {i k : Nat} (hi : i < l.length) (hk : k ≤ (l.getD i default).size) : mayF ⟨0, gramsS l, []⟩ ((l.getD i default).extract k (l.getD i default).size) = true :=
  mayF_sub fun x hx => by
    rw [hasF_none, decide_eq_true_eq]
    obtain ⟨j, hj, rfl⟩ := gramL_mem.1 hx
    have hs : ((l.getD i default).extract k (l.getD i default).size).size = (l.getD i default).size - k := by simp [ByteArray.size_extract]
    rw [gramI_ext (by omega)]
    exact gramsS_mem.2 ⟨_, getD_memB hi, gramL_mem.2 ⟨k + j, by omega, rfl⟩⟩
theorem may_all {l : List ByteArray} {i : Nat} (hi : i < l.length) : mayF ⟨0, gramsS l, []⟩ (l.getD i default) = true :=
  mayF_sub fun x hx => by
    rw [hasF_none, decide_eq_true_eq]
    exact gramsS_mem.2 ⟨_, getD_memB hi, hx⟩
 
theorem occ_gram {s t : ByteArray} (ht : t.size = 3) (j : Nat) : Lib.occAt s.data.toList t.data.toList j = true ↔ j + 2 < s.size ∧ gramI s j = gramI t 0 := by
  have hl : s.data.toList.length = s.size := by simp
  have hl3 : t.data.toList.length = 3 := by simpa using ht
  unfold Lib.occAt
  rw [List.isPrefixOf_iff_prefix]
  match h3 : t.data.toList, hl3 with
  | [a, b, c], _ =>
    have e0 : bAt t 0 = (a.toNat : Int) := by simp [bAt, h3]
    have e1 : bAt t 1 = (b.toNat : Int) := by simp [bAt, h3]
    have e2 : bAt t 2 = (c.toNat : Int) := by simp [bAt, h3]
    have ha := a.toNat_lt
    have hb := b.toNat_lt
    have hc := c.toNat_lt
    have hg : gramI t 0 = a.toNat * 65536 + b.toNat * 256 + c.toNat := by
      unfold gramI
      rw [e0, e1, e2]
    rw [hg]
    constructor
    · rintro ⟨r, hr⟩
      have hlen := congrArg List.length hr
      simp only [List.length_append, List.length_cons, List.length_nil, List.length_drop, hl] at hlen
      have g : ∀ k, k < 3 → s.data.toList.getD (j + k) 0 = [a, b, c].getD k 0 := fun k hk => by
        have h4 := congrArg (fun l => l[k]?) hr
        simp only [List.getElem?_drop] at h4
        rw [List.getD_eq_getElem?_getD, ← h4, List.getElem?_append_left (by simpa using hk), List.getD_eq_getElem?_getD]
      refine ⟨by omega, ?_⟩
      have g0 := g 0 (by omega)
      have g1 := g 1 (by omega)
      have g2 := g 2 (by omega)
      simp only [Nat.add_zero, List.getD_cons_zero, List.getD_cons_succ] at g0 g1 g2
      unfold gramI bAt
      rw [g0, g1, g2]
    · rintro ⟨hj, he⟩
      obtain ⟨p, hp, ep⟩ := bAt_range s j
      obtain ⟨q, hq, eq⟩ := bAt_range s (j + 1)
      obtain ⟨r, hr, er⟩ := bAt_range s (j + 2)
      have h5 : bAt s j = a.toNat ∧ bAt s (j + 1) = b.toNat ∧ bAt s (j + 2) = c.toNat := by
        unfold gramI at he
        rw [ep, eq, er] at he ⊢
        omega
      have g : ∀ k (x : UInt8), bAt s (j + k) = (x.toNat : Int) → s.data.toList.getD (j + k) 0 = x := fun k x h => by
        unfold bAt at h
        exact UInt8.toNat_inj.1 (by omega)
      have g0 := g 0 a h5.1
      have g1 := g 1 b h5.2.1
      have g2 := g 2 c h5.2.2
      refine ⟨s.data.toList.drop (j + 3), ?_⟩
      have d : ∀ k, k < s.size → s.data.toList.drop k = s.data.toList.getD k 0 :: s.data.toList.drop (k + 1) := fun k hk => by
        rw [List.drop_eq_getElem_cons (by omega), List.getD_eq_getElem?_getD, List.getElem?_eq_getElem (by omega)]
        rfl
      rw [d j (by omega), d (j + 1) (by omega), d (j + 2) (by omega), g1, g2]
      rw [Nat.add_zero] at g0
      rw [g0]
      rfl
theorem contains_gram {s t : ByteArray} (ht : t.size = 3) : Lib.contains s.data.toList t.data.toList = decide (gramI t 0 ∈ gramL s) := by
  have hl : s.data.toList.length = s.size := by simp
  unfold Lib.contains
  refine decide_eq_decide.2 ?_
  rw [gramL_mem]
  rcases Lib.index_spec s.data.toList t.data.toList with ⟨h1, h2⟩ | ⟨i, h1, h2, h3, _⟩
  · constructor
    · intro h
      omega
    · rintro ⟨j, hj, e⟩
      have h4 := (occ_gram ht j).2 ⟨hj, e⟩
      rw [h2 j (by omega)] at h4
      cases h4
  · constructor
    · intro _
      exact ⟨i, (occ_gram ht i).1 h3⟩
    · intro _
      omega
 
def standsS (l : List ByteArray) (t : ByteArray) (i : Nat) : Bool := (l.take i).any fun s => Lib.contains s.data.toList t.data.toList
theorem standsS_succ (l : List ByteArray) (t : ByteArray) (i : Nat) (hi : i < l.length) : (standsS l t i || Lib.contains (l.getD i default).data.toList t.data.toList) = standsS l t (i + 1) := by
  unfold standsS
  rw [List.take_succ_eq_append_getElem hi, List.any_append, List.getD_eq_getElem?_getD, List.getElem?_eq_getElem hi]
  simp
theorem gramS_three {t : ByteArray} (ht : t.size = 3) : gramL t = [gramI t 0] := by
  unfold gramL
  rw [ht]
  rfl
theorem stands_may {l : List ByteArray} {t : ByteArray} (ht : t.size = 3) : mayF ⟨0, gramsS l, []⟩ t = standsS l t l.length := by
  have h1 : mayF ⟨0, gramsS l, []⟩ t = decide (gramI t 0 ∈ gramsS l) := by
    have hg : gramS t = [gramI t 0] := rise_ext (gramS_rise t) (by simp [Rise]) fun x => by rw [gramS_mem, gramS_three ht]
    unfold mayF
    rw [hg]
    simp only [List.all_cons, List.all_nil, Bool.and_true, hasF_none]
  rw [h1]
  unfold standsS
  rw [List.take_length, Bool.eq_iff_iff, decide_eq_true_eq, List.any_eq_true, gramsS_mem]
  constructor
  · rintro ⟨s, hs, h⟩
    exact ⟨s, hs, by rw [contains_gram ht, decide_eq_true_eq]; exact h⟩
  · rintro ⟨s, hs, h⟩
    rw [contains_gram ht, decide_eq_true_eq] at h
    exact ⟨s, hs, h⟩
theorem stands_some {l : List ByteArray} {t : ByteArray} {b : Int} (hb : 0 < b) (ht : t.size = 3) (h : standsS l t l.length = true) : mayF ⟨b, [], bitsS b (gramsS l)⟩ t = true :=
  mayF_sub fun x hx => by
    rw [gramS_three ht, List.mem_singleton] at hx
    subst hx
    refine hasF_some hb ?_
    have h2 := stands_may (l := l) ht
    rw [h] at h2
    have hg : gramS t = [gramI t 0] := rise_ext (gramS_rise t) (by simp [Rise]) fun x => by rw [gramS_mem, gramS_three ht]
    unfold mayF at h2
    rw [hg] at h2
    simpa only [List.all_cons, List.all_nil, Bool.and_true, hasF_none, decide_eq_true_eq] using h2
theorem may_filt {l : List ByteArray} {b : Int} (h0 : 0 ≤ b) {i : Nat} (hi : i < l.length) : mayF (filtS l b) (l.getD i default) = true := by
  unfold filtS
  split
  · exact may_all hi
  · exact may_each (by omega) hi
theorem stands_filt {l : List ByteArray} {t : ByteArray} {b : Int} (h0 : 0 ≤ b) (ht : t.size = 3) (h : standsS l t l.length = true) : mayF (filtS l b) t = true := by
  unfold filtS
  split
  · rw [stands_may ht, h]
  · exact stands_some (by omega) ht h
end Go.Fw
namespace Go.Fw
open Go Go.Proofs
set_option maxHeartbeats 10000000
set_option maxRecDepth 100000
set_option linter.constructorNameAsVariable false
set_option linter.unusedVariables false
set_option linter.unusedSimpArgs false
theorem make_anyD (l : List ByteArray) (b : Int) (hl : l.length ≤ 1000) (hz : sizeL l ≤ 60000) (h0 : 0 ≤ b) (h1 : b ≤ 65536) : Has Try.prog 10 [.d (.sl 1 (l.map D.str)), .d (.int .i64 b)] (fun rs _ => rs = [.d (Filt.d (filtS l b)), .d (.int .i64 0)]) := by
  unfold filtS
  by_cases hb : b = 0
  · subst hb
    rw [if_pos rfl]
    exact make_noneD l hl hz
  · rw [if_neg hb]
    exact make_someD l b hl hz (by omega) h1
theorem mayT (f : Filt) (s : ByteArray) (hf : FOK f) (hs : s.size ≤ 1000000) (h : mayF f s = true) : Has Try.prog 18 [.d f.d, .d (.str s)] (fun rs _ => rs = [.d (.bool true)]) :=
  (may_con f s hf hs).mono fun rs bs hr => by rw [hr, h]
theorem contains_con (s t : ByteArray) (hs : s.size < 4294967281) : Has Try.prog 20 [.d (.str s), .d (.str t)] (fun rs _ => rs = [.d (.bool (Lib.contains s.data.toList t.data.toList))]) :=
  strs_has (fn := Try.f20) (by kernel_rfl) (by kernel_rfl) (by kernel_rfl) (x := 0) (by decide) s t _ fun w m hm => Try.strings_Contains s t m w hs hm
theorem may_s (l : List ByteArray) (s : ByteArray) (hs : s.size = 3) : Has Try.prog 18 [.d (Filt.d ⟨0, gramsS l, []⟩), .d (.str s)] (fun rs _ => rs = [.d (.bool (standsS l s l.length))]) :=
  (may_con ⟨0, gramsS l, []⟩ s (fok_none l) (by omega)).mono fun rs bs hr => by rw [hr, stands_may hs]
def pl6 : Nat → Plan
  | 10 => tks 1 [0, 0, 0] (.tak 0 .rd [5, 6, 7, 8, 9, 10, 11, 12, 13, 14, 15, 16, 17, 18, 19, 20, 21, 22] (.tak 4 .rd [5, 6, 7, 8, 9, 10, 11, 12, 13, 14, 15, 16, 17, 18, 19, 20, 21, 22] (.one 5 (tks 6 [0, 0, 1, 0, 0, 0] (tks 13 [0, 0, 0] (.tak 12 .rd [19, 20, 21, 22] (.tak 16 .rd [17, 18, 19, 20, 21, 22] (tks 17 [0, 0, 0] (.one 20 (tks 21 [0, 0] (.done)))))))))))
  | _ => .done
theorem gramHolds_con (l : List ByteArray) (bits : Int) (s : ByteArray) (hz : sizeL l ≤ 1048576) (hb0 : 0 ≤ bits) (hb1 : bits < 65536) : Has Try.prog 6 [CV.d (D.sl 1 (l.map D.str)), CV.d (D.int .u16 bits), CV.d (D.str s)] (fun rs _ => rs = [CV.d (D.bool true)]) := by
  refine Has_of_run (fn := Try.f6) (M := M0) fol (by kernel_rfl) 7 pl6 [] [] (by kernel_rfl) (Nat.le_of_ble_eq_true rfl) ?_
  (repeat' ((conv => whnf); first | done | (refine And.intro (fun h => ?_) (fun h => ?_) <;> (try simp only [Bool.or_eq_true, Bool.and_eq_true, Bool.or_eq_false_iff, Bool.and_eq_false_iff, toNat_pred, toNat_succ, toNat_addn, toNat_subn, decide_eq_true_eq, decide_eq_false_iff_not, Bool.not_eq_true', Bool.not_eq_false', List.length_map, Int.toNat_natCast, Int.not_lt, Int.not_le, Bool.not_eq_true, Bool.false_eq_true, Bool.true_eq_false, Bool.not_true, Bool.not_false, reduceCtorEq, beq_iff_eq, Bool.not_eq_eq_eq_not, bne_iff_ne, ne_eq, decide_not, Decidable.not_not, Classical.not_not] at h)) | exact (rfl : (_ : AV) = _) | exact (rfl : (_ : St) = _) | refine Exists.intro (α := AV) AV.dead (And.intro (fun h => Bool.noConfusion h) ?_) | apply ex_av | (refine fun (h : (_ : Bool) = true) => ?_; have h' := h; (try simp only [Bool.or_eq_true, Bool.and_eq_true, Bool.or_eq_false_iff, Bool.and_eq_false_iff, toNat_pred, toNat_succ, toNat_addn, toNat_subn, decide_eq_true_eq, decide_eq_false_iff_not, Bool.not_eq_true', Bool.not_eq_false', List.length_map, Int.toNat_natCast, Int.not_lt, Int.not_le, Bool.not_eq_true, Bool.false_eq_true, Bool.true_eq_false, Bool.not_true, Bool.not_false, reduceCtorEq, beq_iff_eq, Bool.not_eq_eq_eq_not, bne_iff_ne, ne_eq, decide_not, Decidable.not_not, Classical.not_not] at h')) | (refine And.intro (a := Both _ _ _) ?_ ?_; (refine ⟨fun h => ?_, fun h => ?_⟩ <;> first | rfl | exact h | exact Bool.noConfusion h | (rw [h]; rfl) | (rw [h]; simp only [Bool.not_false, Bool.not_true, Bool.and_true]; assumption) | (simp_all; done) | fail); skip) | refine And.intro rfl ?_ | refine Two.mk ?_ ?_ | refine And.intro (allU8_bytes _) ?_ | (refine And.intro (a := (_ : Bool) = true) ?_ ?_; (first | assumption | exact decide_eq_true (by assumption) | (rw [Bool.not_eq_true']; exact decide_eq_false (by assumption)) | (rw [Bool.not_not]; exact decide_eq_true (by assumption)) | (simp_all; done) | fail); skip) | refine And.intro (Or.inr rfl) ?_ | refine And.intro (Nat.le_of_ble_eq_true rfl) ?_ | refine And.intro (decide_eq_false (by omega)) ?_ | refine And.intro (show Program.stoodInHeld _ _ = _ by kernel_rfl) (And.intro (by kernel_rfl) ?_) | refine And.intro (show Nat.beq _ _ = _ from rfl) (And.intro (by decide) ?_) | refine And.intro ⟨rfl, rfl⟩ ?_ | refine And.intro ⟨rfl, rfl, trivial⟩ ?_ | refine And.intro (Int.natCast_nonneg _) ?_ | refine Or.inl (And.intro rfl (And.intro rfl (And.intro rfl (And.intro rfl ?_)))) | refine Or.inl (And.intro rfl (And.intro rfl ?_)) | refine Or.inr (And.intro (Nat.le_of_ble_eq_true rfl) ?_) | refine Or.inl (And.intro (by unfold in64; omega) ?_) | refine And.intro (by first | omega | (simp only [dlen, true_and, and_true, Nat.le_refl, List.length_map, List.length_append, List.length_cons, List.length_nil, List.length_take, List.length_drop, List.length_replicate, Int.toNat_natCast, List.append_nil] <;> omega) | fail) ?_ | refine And.intro (allU8_bytes _) ?_ | refine And.intro (show elemsP _ _ _ by repeat' (first | exact rfl | exact trivial | constructor)) ?_ | (refine And.intro (beq_self_eq_true _) ?_) | (refine (awake15_con).mono fun rs bs hr => ?_; subst hr) | (refine (few15_con l).mono fun rs bs hr => ?_; subst hr) | ((have hfw : fewW l = true := (by simp_all; done); have hl2 := few_len' hfw; have hz2 := few_size' hz hfw; have hfo := filtS_ok (l := l) hb0 (by omega) hz2; refine (make_anyD l bits hl2 hz2 hb0 (by omega)).mono fun rs bs hr => ?_; subst hr)) | (refine (make_noneD l hl2 hz2).mono fun rs bs hr => ?_; subst hr) | (refine (mayT (filtS l bits) (l.getD i default) hfo (by omega) (may_filt hb0 (by omega))).mono fun rs bs hr => ?_; subst hr) | (refine (mayT ⟨0, gramsS l, []⟩ ((l.getD i default).extract _ (l.getD i default).size) (fok_none l) (by rw [ByteArray.size_extract]; omega) (may_part (by omega) (by omega))).mono fun rs bs hr => ?_; subst hr) | (refine (contains_con _ _ (by omega)).mono fun rs bs hr => ?_; subst hr) | (refine (may_s l s (by omega)).mono fun rs bs hr => ?_; subst hr) | (refine (may_con (filtS l bits) s hfo (by omega)).mono fun rs bs hr => ?_; subst hr) | (refine Loops.by (M := M0) 7 pl6 fol (by kernel_rfl) (ι := Nat) (fun i => ⟨[(0, AV.d (D.sl 1 (l.map D.str))), (2, AV.d (D.str s)), (7, AV.addr [7] 16 0), (9, AV.addr [9] 17 0), (11, AV.d (D.int .i64 i))], [([7], 16, AO.box 28 [AV.d (D.int .i64 ((filtS l bits).b)), AV.d (D.sl 1 ((filtS l bits).zs.map intD)), AV.d (D.sl 1 ((filtS l bits).bs.map D.bool))]), ([9], 17, AO.box 28 [AV.d (D.int .i64 0), AV.d (D.sl 1 ((gramsS l).map intD)), AV.d (D.sl 1 (List.map D.bool []))])], 18⟩) (fun i => i ≤ l.length) (fun i => l.length - i) (fun i hI => ?_) (0) (Nat.zero_le _) (Forget.mk' ⟨⟨rfl, rfl⟩, ⟨rfl, rfl⟩, ⟨rfl, rfl⟩, ⟨rfl, rfl⟩, ⟨rfl, rfl⟩, trivial⟩ ⟨⟨rfl, rfl, rfl⟩, ⟨rfl, rfl, rfl⟩, trivial⟩ rfl rfl); have hsz := sizeL_getD l i) | (refine Loops.by (M := M0) 7 pl6 fol (by kernel_rfl) (ι := Nat) (fun i => ⟨[(0, AV.d (D.sl 1 (l.map D.str))), (2, AV.d (D.str s)), (7, AV.addr [7] 16 0), (9, AV.addr [9] 17 0), (12, AV.d (D.bool (standsS l s i))), (13, AV.d (D.int .i64 i))], [([7], 16, AO.box 28 [AV.d (D.int .i64 ((filtS l bits).b)), AV.d (D.sl 1 ((filtS l bits).zs.map intD)), AV.d (D.sl 1 ((filtS l bits).bs.map D.bool))]), ([9], 17, AO.box 28 [AV.d (D.int .i64 0), AV.d (D.sl 1 ((gramsS l).map intD)), AV.d (D.sl 1 (List.map D.bool []))])], 18⟩) (fun i => i ≤ l.length) (fun i => l.length - i) (fun i hI => ?_) (0) (Nat.zero_le _) (Forget.mk' ⟨⟨rfl, rfl⟩, ⟨rfl, rfl⟩, ⟨rfl, rfl⟩, ⟨rfl, rfl⟩, ⟨rfl, rfl⟩, ⟨rfl, rfl⟩, trivial⟩ ⟨⟨rfl, rfl, rfl⟩, ⟨rfl, rfl, rfl⟩, trivial⟩ rfl rfl); have hsz := sizeL_getD l i) | (refine fun x hx => ?_; (try simp (disch := omega) only [Int.tdiv_eq_ediv_of_nonneg, Int.tmod_eq_emod_of_nonneg, bx, Bool.true_or, Bool.false_or, Bool.or_false, Bool.or_true, Bool.and_true, Bool.true_and, Bool.false_and, Bool.and_false, cond_true, cond_false, if_true, if_false, Bool.false_eq_true, min_nn, max_nn, min_ln, min_nl, max_ln, max_nl, getD_map, str_of_bytes, take_bytes, take_data, wrap_u64, wrap_u32, wrap_u8, shr_i64, shr_u64, shr_u32, shl_i64, shl_u64, Int.reduceToNat, Int.reducePow, Int.pow_succ, Int.pow_zero, Int.one_mul, Int.reduceMul, wrap_id, wrap_u8_nat, wrap_i64_u8, byteD_mk, map_snoc, map_app, set_map, take_map', drop_map', Nat.sub_zero, List.length_map, List.length_append, List.length_cons, List.length_nil, Int.toNat_natCast, List.drop_zero, List.take_succ_cons, List.take_zero, List.take_length, List.nil_append, List.append_nil, Nat.zero_add, toNat_pred, toNat_succ, toNat_addn, toNat_subn, beq_self_eq_true, standsS_succ] at hx); subst hx) | rw [List.take_length] | (rw [List.take_of_length_le]; rotate_left; (first | omega | (simp only [dlen, true_and, and_true, Nat.le_refl, List.length_map, List.length_append, List.length_cons, List.length_nil, List.length_take, List.length_drop, List.length_replicate, Int.toNat_natCast, List.append_nil] <;> omega) | fail)) | refine fun h => ?_ | fail)); all_goals (try exact (AV.dead : AV)); all_goals (try (conv => whnf))
  all_goals first
    | (exfalso; omega)
    | exact ⟨i + 1, ⟨by omega, by omega⟩, (Forget.mk' ⟨⟨rfl, rfl⟩, ⟨rfl, rfl⟩, ⟨rfl, rfl⟩, ⟨rfl, rfl⟩, ⟨rfl, rfl⟩, trivial⟩ ⟨⟨rfl, rfl, rfl⟩, ⟨rfl, rfl, rfl⟩, trivial⟩ rfl rfl)⟩
    | exact ⟨i + 1, ⟨by omega, by omega⟩, (Forget.mk' ⟨⟨rfl, rfl⟩, ⟨rfl, rfl⟩, ⟨rfl, rfl⟩, ⟨rfl, rfl⟩, ⟨rfl, rfl⟩, ⟨rfl, rfl⟩, trivial⟩ ⟨⟨rfl, rfl, rfl⟩, ⟨rfl, rfl, rfl⟩, trivial⟩ rfl rfl)⟩
    | (rw [show i = l.length by omega]
       refine rb ?_
       cases hst : standsS l s l.length
       · simp
       · rw [stands_filt hb0 (by omega) hst]
         simp)
    | (exfalso; simp_all; done)
    | fail
theorem gramHolds_law (xs : List D) (h : HasTs Try.prog Try.f6.params.toList xs) (hm : bulkDl xs ≤ 1048576) : Has Try.prog 6 (xs.map CV.d) (fun rs _ => rs = [.d (.bool true)]) := by
  obtain ⟨x, y, z, rfl, h1, h2, h3⟩ := three_args h
  obtain ⟨l, rfl, _, _⟩ := h1.asStrs (e := 9) (by kernel_rfl) (by kernel_rfl) (by kernel_rfl)
  obtain ⟨n, rfl, hn⟩ := h2.asInt (k := .u16) (by kernel_rfl)
  obtain ⟨s, rfl, _⟩ := h3.asStr (by kernel_rfl)
  have hn := u16_range hn
  exact gramHolds_con l n s (bulk_strs hm) hn.1 hn.2
end Go.Fw
