/- What the proofs of this seat lean on, part 13: a symbolic machine that is shown sound, walks through functions, plain laws. -/
import Derived.Test.YtcnlanaahhkhfabY12
import Derived.Test.YtcnlanaahhkhfabRows
import Derived.KernelRfl
namespace Go.Fw
open Go Go.Proofs
theorem fol : Try.prog.follows .mixedOrders = true := by kernel_rfl
def noPlan : Nat → Plan := fun _ => .done
def M0 : FuncId → List Mode := fun _ => []
end Go.Fw
namespace Go.Fw
open Go
set_option linter.unusedVariables false
theorem less_at : ∀ (i : Nat) (l m : List UInt8), (∀ j, j < i → l.getD j 0 = m.getD j 0) → i < l.length → i < m.length → (l.getD i 0).toNat < (m.getD i 0).toNat → Op.bytesLess l m = true ∧ Op.bytesLess m l = false
  | 0, a :: x, b :: y, _, _, _, h => by
    simp only [List.getD_cons_zero] at h
    have h1 : a < b := UInt8.lt_iff_toNat_lt.2 h
    have h2 : ¬ b < a := fun h2 => by have := UInt8.lt_iff_toNat_lt.1 h2; omega
    have h3 : (b == a) = false := by
      refine beq_eq_false_iff_ne.2 fun e => ?_
      subst e
      omega
    simp [Op.bytesLess, h1, h2, h3]
  | i + 1, a :: x, b :: y, he, hl, hm, h => by
    have e : a = b := by simpa using he 0 (Nat.succ_pos i)
    subst e
    have ih := less_at i x y (fun j hj => by simpa using he (j + 1) (by omega)) (by simpa using hl) (by simpa using hm) (by simpa using h)
    have h2 : ¬ a < a := fun h2 => by have := UInt8.lt_iff_toNat_lt.1 h2; omega
    simp [Op.bytesLess, h2, ih.1, ih.2]
  | _, [], _, _, hl, _, _ => by simp at hl
  | _, _, [], _, _, hm, _ => by simp at hm
theorem less_end : ∀ (l m : List UInt8), (∀ j, j < l.length → l.getD j 0 = m.getD j 0) → l.length ≤ m.length → Op.bytesLess l m = decide (l.length < m.length) ∧ Op.bytesLess m l = false
  | [], [], _, _ => by simp [Op.bytesLess]
  | [], b :: y, _, _ => by simp [Op.bytesLess]
  | a :: x, [], _, h => by simp at h
  | a :: x, b :: y, he, h => by
    have e : a = b := by simpa using he 0 (by simp)
    subst e
    have ih := less_end x y (fun j hj => by simpa using he (j + 1) (by simpa using hj)) (by simpa using h)
    have h2 : ¬ a < a := fun h2 => by have := UInt8.lt_iff_toNat_lt.1 h2; omega
    simp [Op.bytesLess, h2, ih.1, ih.2]
theorem bAt_eq {a b : ByteArray} {j : Nat} (h : bAt a j = bAt b j) : a.data.toList.getD j 0 = b.data.toList.getD j 0 := by
  simp only [bAt] at h
  have := Int.ofNat.inj h
  exact UInt8.toNat_inj.1 this
theorem slt_at {a b : ByteArray} {i : Nat} (he : ∀ j, j < i → bAt a j = bAt b j) (ha : i < a.size) (hb : i < b.size) (h : bAt a i < bAt b i) : slt a b = true ∧ slt b a = false := by
  refine less_at i a.data.toList b.data.toList (fun j hj => bAt_eq (he j hj)) ha hb ?_
  simp only [bAt] at h
  omega
theorem slt_end {a b : ByteArray} (he : ∀ j, j < a.size → bAt a j = bAt b j) (h : a.size ≤ b.size) : slt a b = decide (a.size < b.size) ∧ slt b a = false :=
  less_end a.data.toList b.data.toList (fun j hj => bAt_eq (he j hj)) h
 
def cmpS (a b : ByteArray) : Int := if slt a b then -1 else if slt b a then 1 else 0
theorem cmp_at {a b : ByteArray} {i : Nat} (he : ∀ j, j < i → bAt a j = bAt b j) (ha : i < a.size) (hb : i < b.size) (h : bAt a i < bAt b i) : cmpS a b = -1 ∧ cmpS b a = 1 := by
  obtain ⟨e1, e2⟩ := slt_at he ha hb h
  simp [cmpS, e1, e2]
theorem cmp_end {a b : ByteArray} {i : Nat} (he : ∀ j, j < i → bAt a j = bAt b j) (hi : a.size ≤ i ∨ b.size ≤ i) : cmpS a b = if a.size < b.size then -1 else if b.size < a.size then 1 else 0 := by
  rcases hi with h | h
  · by_cases hab : a.size ≤ b.size
    · obtain ⟨e1, e2⟩ := slt_end (a := a) (b := b) (fun j hj => he j (by omega)) hab
      simp only [cmpS, e1, e2, decide_eq_true_eq, Bool.false_eq_true, if_false]
      rw [if_neg (show ¬ b.size < a.size by omega)]
    · obtain ⟨e1, e2⟩ := slt_end (a := b) (b := a) (fun j hj => (he j (by omega)).symm) (by omega)
      simp only [cmpS, e1, e2, decide_eq_true_eq, Bool.false_eq_true, if_false]
      rw [if_neg (show ¬ a.size < b.size by omega)]
  · by_cases hab : b.size ≤ a.size
    · obtain ⟨e1, e2⟩ := slt_end (a := b) (b := a) (fun j hj => (he j (by omega)).symm) hab
      simp only [cmpS, e1, e2, decide_eq_true_eq, Bool.false_eq_true, if_false]
      rw [if_neg (show ¬ a.size < b.size by omega)]
    · obtain ⟨e1, e2⟩ := slt_end (a := a) (b := b) (fun j hj => he j (by omega)) (by omega)
      simp only [cmpS, e1, e2, decide_eq_true_eq, Bool.false_eq_true, if_false]
      rw [if_neg (show ¬ b.size < a.size by omega)]
theorem less_trans : ∀ (a b c : List UInt8), Op.bytesLess a b = true → Op.bytesLess b c = true → Op.bytesLess a c = true
  | [], _, [], _, h2 => by cases ‹List UInt8› <;> simp [Op.bytesLess] at h2
  | [], _, _ :: _, _, _ => by simp [Op.bytesLess]
  | _ :: _, [], _, h1, _ => by simp [Op.bytesLess] at h1
  | _ :: _, _ :: _, [], _, h2 => by simp [Op.bytesLess] at h2
  | x :: a, y :: b, z :: c, h1, h2 => by
    simp only [Op.bytesLess, Bool.or_eq_true, Bool.and_eq_true, decide_eq_true_eq, beq_iff_eq] at h1 h2 ⊢
    rcases h1 with h1 | ⟨rfl, h1⟩
    · rcases h2 with h2 | ⟨rfl, h2⟩
      · exact .inl (UInt8.lt_trans h1 h2)
      · exact .inl h1
    · rcases h2 with h2 | ⟨rfl, h2⟩
      · exact .inl h2
      · exact .inr ⟨rfl, less_trans a b c h1 h2⟩
theorem less_irrefl : ∀ a : List UInt8, Op.bytesLess a a = false
  | [] => by simp [Op.bytesLess]
  | x :: a => by simp [Op.bytesLess, less_irrefl a, UInt8.lt_irrefl]
theorem less_total : ∀ (a b : List UInt8), Op.bytesLess a b = false → Op.bytesLess b a = false → a = b
  | [], [], _, _ => rfl
  | [], _ :: _, h, _ => by simp [Op.bytesLess] at h
  | _ :: _, [], _, h => by simp [Op.bytesLess] at h
  | x :: a, y :: b, h1, h2 => by
    simp only [Op.bytesLess, Bool.or_eq_false_iff, Bool.and_eq_false_iff, decide_eq_false_iff_not, beq_eq_false_iff_ne, UInt8.not_lt] at h1 h2
    have e : x = y := UInt8.le_antisymm h2.1 h1.1
    subst e
    simp at h1 h2
    rw [less_total a b h1 h2]
theorem slt_trans {a b c : ByteArray} (h1 : slt a b = true) (h2 : slt b c = true) : slt a c = true := less_trans _ _ _ h1 h2
theorem slt_irrefl (a : ByteArray) : slt a a = false := less_irrefl _
theorem slt_asymm {a b : ByteArray} (h : slt a b = true) : slt b a = false := by
  refine Bool.eq_false_iff.2 fun h2 => ?_
  have := slt_trans h h2
  rw [slt_irrefl] at this
  cases this
theorem bytes_inj {a b : ByteArray} (h : a.data.toList = b.data.toList) : a = b := by
  cases a; cases b
  simp only [ByteArray.mk.injEq]
  exact Array.ext' h
theorem slt_total {a b : ByteArray} (h1 : slt a b = false) (h2 : slt b a = false) : a = b := bytes_inj (less_total _ _ h1 h2)
theorem strB_inj {a b : List UInt8} : strB a = strB b ↔ a = b := by
  simp only [strB]
  constructor
  · intro h; simpa using h
  · intro h; rw [h]
theorem mk_inj {a b : List UInt8} : ((⟨a.toArray⟩ : ByteArray) = ⟨b.toArray⟩) ↔ a = b := by
  constructor
  · intro h; simpa using h
  · intro h; rw [h]
theorem ext_getD {α : Type} [Inhabited α] {a b : List α} (hl : a.length = b.length) (h : ∀ j, j < a.length → a.getD j default = b.getD j default) : a = b :=
  List.ext_getElem hl fun k hk hk' => by
    have := h k hk
    simpa only [List.getD_eq_getElem?_getD, List.getElem?_eq_getElem hk, List.getElem?_eq_getElem hk', Option.getD_some] using this
end Go.Fw
namespace Go.Fw
open Go
set_option linter.unusedVariables false
set_option linter.unusedSimpArgs false
theorem upto_succ {p : Nat → Prop} {i : Nat} (h : ∀ j, j < i → p j) (hi : p i) : ∀ j, j < i + 1 → p j := fun j hj => by
  by_cases e : j = i
  · exact e ▸ hi
  · exact h j (by omega)
def mayD (s : ByteArray) : Bool := decide (1 ≤ s.size) && decide (s.size ≤ 8)
def okAt (t : List ByteArray) (i : Nat) : Bool := mayD (t.getD i default) && (decide (i = 0) || slt (t.getD (i - 1) default) (t.getD i default))
def rightS (t : List ByteArray) : Bool := decide (t.length ≤ 255) && (List.range t.length).all (okAt t)
theorem right_bad {t : List ByteArray} {i : Nat} (hi : i < t.length) (h : okAt t i = false) : rightS t = false := by
  have : (List.range t.length).all (okAt t) = false := by
    refine Bool.eq_false_iff.2 fun h1 => ?_
    rw [List.all_eq_true.1 h1 i (List.mem_range.2 hi)] at h
    cases h
  simp only [rightS, this, Bool.and_false]
theorem right_good {t : List ByteArray} (hl : t.length ≤ 255) (h : ∀ j, j < t.length → okAt t j = true) : rightS t = true := by
  have hall : (List.range t.length).all (okAt t) = true := List.all_eq_true.2 fun j hj => h j (List.mem_range.1 hj)
  simp only [rightS, hall, decide_eq_true hl, Bool.true_and]
theorem right_long {t : List ByteArray} (hl : 255 < t.length) : rightS t = false := by
  have : ¬ t.length ≤ 255 := by omega
  simp only [rightS, decide_eq_false this, Bool.false_and]
theorem right_at {t : List ByteArray} (h : rightS t = true) : t.length ≤ 255 ∧ ∀ j, j < t.length → okAt t j = true := by
  simp only [rightS, Bool.and_eq_true, decide_eq_true_eq, List.all_eq_true, List.mem_range] at h
  exact h
theorem right_size {t : List ByteArray} (h : rightS t = true) : ∀ s ∈ t, s.size ≤ 8 := fun s hs => by
  obtain ⟨k, hk, rfl⟩ := List.mem_iff_getElem.1 hs
  have := (right_at h).2 k hk
  simp [okAt, mayD, List.getD_eq_getElem?_getD, hk] at this
  omega
def fewS (l : List ByteArray) : Bool := decide (l.length ≤ 300) && decide (∀ j, j < l.length → (l.getD j default).size ≤ 1000)
theorem getD_mem {α : Type} [Inhabited α] {t : List α} {i : Nat} (h : i < t.length) : t.getD i default ∈ t := by
  rw [List.getD_eq_getElem?_getD, List.getElem?_eq_getElem h]; exact List.getElem_mem h
theorem take_snoc {α : Type} [Inhabited α] {t : List α} {i : Nat} (h : i < t.length) : t.take (i + 1) = t.take i ++ [t.getD i default] := by
  rw [List.take_add_one]; simp [List.getD_eq_getElem?_getD, h]
theorem filter_upto {α : Type} (p : α → Bool) (l : List α) (i : Nat) : ((l.take i).filter p).length ≤ l.length := by
  have h1 := List.length_filter_le p (l.take i)
  have h2 : (l.take i).length ≤ l.length := by simp; omega
  omega
theorem filter_yes {α : Type} [Inhabited α] {p : α → Bool} {l : List α} {i : Nat} (h : i < l.length) (hp : p (l.getD i default) = true) : (l.take (i + 1)).filter p = (l.take i).filter p ++ [l.getD i default] := by
  rw [take_snoc h, List.filter_append]; simp only [List.filter_cons, hp, if_true, List.filter_nil]
theorem filter_no {α : Type} [Inhabited α] {p : α → Bool} {l : List α} {i : Nat} (h : i < l.length) (hp : p (l.getD i default) = false) : (l.take (i + 1)).filter p = (l.take i).filter p := by
  rw [take_snoc h, List.filter_append]; simp only [List.filter_cons, hp, Bool.false_eq_true, if_false, List.filter_nil, List.append_nil]
def putF (s : ByteArray) : List UInt8 := UInt8.ofNat s.size :: s.data.toList
def putB (t : List ByteArray) : List UInt8 := UInt8.ofNat t.length :: t.flatMap putF
theorem dlen (s : ByteArray) : s.data.toList.length = s.size := rfl
theorem putF_len {s : ByteArray} (h : s.size ≤ 8) : (putF s).length ≤ 9 := by
  simp only [putF, List.length_cons, dlen]
  omega
theorem puts_len : ∀ {l : List ByteArray}, (∀ s ∈ l, s.size ≤ 8) → (l.flatMap putF).length ≤ 9 * l.length
  | [], _ => by simp
  | s :: r, h => by
    have h1 := putF_len (h s (by simp))
    have h2 := puts_len (l := r) (fun x hx => h x (by simp [hx]))
    simp only [List.flatMap_cons, List.length_append, List.length_cons]
    omega
theorem puts_upto {t : List ByteArray} (h : ∀ s ∈ t, s.size ≤ 8) (i : Nat) : ((t.take i).flatMap putF).length ≤ 9 * t.length := by
  have := puts_len (l := t.take i) (fun s hs => h s (List.mem_of_mem_take hs))
  have : (t.take i).length ≤ t.length := by simp; omega
  omega
theorem puts_step {t : List ByteArray} {i : Nat} (h : i < t.length) : UInt8.ofNat t.length :: (t.take (i + 1)).flatMap putF = UInt8.ofNat t.length :: (t.take i).flatMap putF ++ [UInt8.ofNat (t.getD i default).size] ++ (t.getD i default).data.toList := by
  rw [take_snoc h, List.flatMap_append]
  simp [putF]
theorem right_prev {t : List ByteArray} {i : Nat} (h : ∀ j, j < i → okAt t j = true) : i = 0 ∨ (t.getD (i - 1) default).size ≤ 8 := by
  by_cases e : i = 0
  · exact .inl e
  · have := h (i - 1) (by omega)
    simp only [okAt, mayD, Bool.and_eq_true, decide_eq_true_eq] at this
    exact .inr this.1.2
theorem okAt_ok {t : List ByteArray} {i : Nat} (h1 : 1 ≤ (t.getD i default).size) (h8 : (t.getD i default).size ≤ 8) (hs : i = 0 ∨ slt (t.getD (i - 1) default) (t.getD i default) = true) : okAt t i = true := by
  simp only [okAt, mayD, Bool.and_eq_true, Bool.or_eq_true, decide_eq_true_eq]
  exact ⟨⟨h1, h8⟩, hs⟩
theorem okAt_no {t : List ByteArray} {i : Nat} (h : (t.getD i default).size < 1 ∨ 8 < (t.getD i default).size ∨ (i ≠ 0 ∧ slt (t.getD (i - 1) default) (t.getD i default) = false)) : okAt t i = false := by
  refine Bool.eq_false_iff.2 fun hk => ?_
  simp only [okAt, mayD, Bool.and_eq_true, Bool.or_eq_true, decide_eq_true_eq] at hk
  rcases h with h | h | h
  · omega
  · omega
  · rw [h.2] at hk
    simp [h.1] at hk
theorem cmp_ge {a b : ByteArray} (h : 0 ≤ cmpS a b) : slt a b = false := by
  refine Bool.eq_false_iff.2 fun h1 => ?_
  simp only [cmpS, h1, if_true] at h
  omega
theorem cmp_lt {a b : ByteArray} (h : cmpS a b < 0) : slt a b = true := by
  refine (Bool.eq_false_or_eq_true _).resolve_right fun h1 => ?_
  simp only [cmpS, h1, Bool.false_eq_true, if_false] at h
  split at h <;> omega
def Rises (t : List ByteArray) : Prop := ∀ a b, a < b → b < t.length → slt (t.getD a default) (t.getD b default) = true
theorem half_nat (lo hi : Nat) : (((lo : Int) + (hi : Int)) / 2).toNat = (lo + hi) / 2 := by omega
 
def NoBeg (t : List ByteArray) (x : ByteArray) (m : Nat) : Prop := ∀ k, k < t.length → ¬ t.getD k default = x.extract 0 m
 
def Found (t : List ByteArray) (x : ByteArray) (rs : List CV) : Prop :=
  (∃ i n : Nat, rs = [.d (.int .i64 i), .d (.int .i64 n)] ∧ 0 < n ∧ n ≤ 8 ∧ n ≤ x.size ∧ i < t.length ∧ t.getD i default = x.extract 0 n ∧ ∀ m, n < m → m ≤ 8 → m ≤ x.size → NoBeg t x m) ∨
  (rs = [.d (.int .i64 (-1)), .d (.int .i64 0)] ∧ ∀ m, 0 < m → m ≤ 8 → m ≤ x.size → NoBeg t x m)
theorem noBeg_of {t : List ByteArray} {x : ByteArray} {n i : Nat} (hr : Rises t) (hb : ∀ j, j < t.length → (slt (t.getD j default) (x.extract 0 n) = true ↔ j < i)) (hf : ¬ (i < t.length ∧ t.getD i default = x.extract 0 n)) : NoBeg t x n := fun k hk he => by
  have hki : ¬ k < i := fun h => by
    have := (hb k hk).2 h
    rw [he, slt_irrefl] at this
    cases this
  by_cases h : k = i
  · subst h
    exact hf ⟨hk, he⟩
  · have h1 := hr i k (by omega) hk
    rw [he] at h1
    have := (hb i (by omega)).1 h1
    omega
 
theorem half_up {t : List ByteArray} {x : ByteArray} {m : Nat} (hr : Rises t) (hm : m < t.length) (h : slt (t.getD m default) x = true) : ∀ j, j < m + 1 → slt (t.getD j default) x = true := fun j hj => by
  by_cases e : j = m
  · rw [e]; exact h
  · exact slt_trans (hr j m (by omega) hm) h
theorem half_down {t : List ByteArray} {x : ByteArray} {m : Nat} (hr : Rises t) (h : slt (t.getD m default) x = false) : ∀ j, m ≤ j → j < t.length → slt (t.getD j default) x = false := fun j hj hj2 => by
  by_cases e : j = m
  · rw [e]; exact h
  · refine Bool.eq_false_iff.2 fun hjx => ?_
    have := slt_trans (hr m j (by omega) hj2) hjx
    rw [h] at this
    cases this
theorem half_end {t : List ByteArray} {x : ByteArray} {lo hi : Nat} (h : hi ≤ lo) (h3 : ∀ j, j < lo → slt (t.getD j default) x = true) (h4 : ∀ j, hi ≤ j → j < t.length → slt (t.getD j default) x = false) : ∀ j, j < t.length → (slt (t.getD j default) x = true ↔ j < lo) := fun j hj =>
  ⟨fun hs => Nat.lt_of_not_le fun hle => (by
    rw [h4 j (by omega) hj] at hs
    cases hs), fun hs => h3 j hs⟩
theorem putB_len {t : List ByteArray} (h : rightS t = true) : (((putB t).map byteD).length : Int) ≤ 2296 := by
  have h1 := puts_len (right_size h)
  have h2 := (right_at h).1
  simp only [List.length_map, putB, List.length_cons]
  omega
end Go.Fw
namespace Go.Fw
open Go Go.Proofs
set_option maxHeartbeats 10000000
set_option maxRecDepth 100000
set_option linter.constructorNameAsVariable false
set_option linter.unusedVariables false
set_option linter.unusedSimpArgs false
theorem may_con (s : ByteArray) : Has Try.prog 25 [CV.d (D.str s)] (fun rs _ => rs = [CV.d (D.bool (mayD s))]) := by
  refine Has_of_run (fn := Try.f25) (M := M0) fol (by kernel_rfl) 3 noPlan [] [] (by kernel_rfl) (Nat.le_of_ble_eq_true rfl) ?_
  repeat' ((conv => whnf); first | (refine And.intro (fun h => ?_) (fun h => ?_) <;> (try simp only [toNat_pred, toNat_succ, toNat_addn, toNat_subn, decide_eq_true_eq, decide_eq_false_iff_not, Bool.not_eq_true', Bool.not_eq_false', List.length_map, Int.toNat_natCast, Int.not_lt, Int.not_le, Bool.not_eq_true, Bool.false_eq_true, Bool.true_eq_false, Bool.not_true, Bool.not_false, reduceCtorEq, beq_iff_eq, Bool.not_eq_eq_eq_not, bne_iff_ne, ne_eq, decide_not, Decidable.not_not, Classical.not_not] at h)) | refine And.intro rfl ?_ | refine And.intro (Or.inr rfl) ?_ | refine And.intro (Nat.le_of_ble_eq_true rfl) ?_ | refine And.intro ⟨rfl, rfl⟩ ?_ | refine And.intro ⟨rfl, rfl, trivial⟩ ?_ | refine And.intro (Int.natCast_nonneg _) ?_ | refine Or.inl (And.intro rfl (And.intro rfl (And.intro rfl (And.intro rfl ?_)))) | refine Or.inl (And.intro rfl (And.intro rfl ?_)) | refine Or.inr (And.intro (Nat.le_of_ble_eq_true rfl) ?_) | refine Or.inl (And.intro (by unfold in64; omega) ?_) | refine And.intro (by first | omega | (simp only [dlen, true_and, and_true, Nat.le_refl, List.length_map, List.length_append, List.length_cons, List.length_nil, List.length_take, List.length_drop, List.length_replicate, Int.toNat_natCast, List.append_nil] <;> omega) | fail) ?_ | refine And.intro (allU8_bytes _) ?_ | refine And.intro (show elemsP _ _ _ by repeat' (first | exact rfl | exact trivial | constructor)) ?_ | (refine fun x hx => ?_; (try simp (disch := omega) only [if_true, if_false, Bool.false_eq_true, min_nn, max_nn, min_ln, min_nl, max_ln, max_nl, getD_map, str_of_bytes, take_bytes, take_data, wrap_u64, wrap_u32, shr_i64, shr_u64, shr_u32, shl_i64, shl_u64, Int.reduceToNat, Int.reducePow, Int.pow_succ, Int.pow_zero, Int.one_mul, Int.reduceMul, wrap_id, wrap_u8_nat, wrap_i64_u8, byteD_mk, map_snoc, map_app, set_map, take_map', drop_map', Nat.sub_zero, List.length_map, List.length_append, List.length_cons, List.length_nil, Int.toNat_natCast, List.drop_zero, List.take_succ_cons, List.take_zero, List.take_length, List.nil_append, List.append_nil, Nat.zero_add, toNat_pred, toNat_succ, toNat_addn, toNat_subn] at hx); subst hx) | rw [List.take_length] | (rw [List.take_of_length_le]; rotate_left; (first | omega | (simp only [dlen, true_and, and_true, Nat.le_refl, List.length_map, List.length_append, List.length_cons, List.length_nil, List.length_take, List.length_drop, List.length_replicate, Int.toNat_natCast, List.append_nil] <;> omega) | fail)) | refine fun h => ?_ | fail); all_goals (try (conv => whnf))
  · exact rb (by have : 1 ≤ s.size := by omega
                 simp only [mayD, decide_eq_true this, Bool.true_and]; exact decide_eq_decide.2 (by omega))
  · exact rb (by have : ¬ 1 ≤ s.size := by omega
                 simp only [mayD, decide_eq_false this, Bool.false_and])
theorem right_con (t : List ByteArray) : Has Try.prog 12 [CV.d (D.sl 1 (t.map D.str))] (fun rs _ => rs = [CV.d (D.bool (rightS t))]) := by
  refine Has_of_run (fn := Try.f12) (M := M0) fol (by kernel_rfl) 5 noPlan [] [] (by kernel_rfl) (Nat.le_of_ble_eq_true rfl) ?_
  repeat' ((conv => whnf); first | (refine And.intro (fun h => ?_) (fun h => ?_) <;> (try simp only [toNat_pred, toNat_succ, toNat_addn, toNat_subn, decide_eq_true_eq, decide_eq_false_iff_not, Bool.not_eq_true', Bool.not_eq_false', List.length_map, Int.toNat_natCast, Int.not_lt, Int.not_le, Bool.not_eq_true, Bool.false_eq_true, Bool.true_eq_false, Bool.not_true, Bool.not_false, reduceCtorEq, beq_iff_eq, Bool.not_eq_eq_eq_not, bne_iff_ne, ne_eq, decide_not, Decidable.not_not, Classical.not_not] at h)) | refine And.intro rfl ?_ | refine And.intro (Or.inr rfl) ?_ | refine And.intro (Nat.le_of_ble_eq_true rfl) ?_ | refine And.intro ⟨rfl, rfl⟩ ?_ | refine And.intro ⟨rfl, rfl, trivial⟩ ?_ | refine And.intro (Int.natCast_nonneg _) ?_ | refine Or.inl (And.intro rfl (And.intro rfl (And.intro rfl (And.intro rfl ?_)))) | refine Or.inl (And.intro rfl (And.intro rfl ?_)) | refine Or.inr (And.intro (Nat.le_of_ble_eq_true rfl) ?_) | refine Or.inl (And.intro (by unfold in64; omega) ?_) | refine And.intro (by first | omega | (simp only [dlen, true_and, and_true, Nat.le_refl, List.length_map, List.length_append, List.length_cons, List.length_nil, List.length_take, List.length_drop, List.length_replicate, Int.toNat_natCast, List.append_nil] <;> omega) | fail) ?_ | refine And.intro (allU8_bytes _) ?_ | refine And.intro (show elemsP _ _ _ by repeat' (first | exact rfl | exact trivial | constructor)) ?_ | (refine (may_con _).mono fun rs bs hr => ?_; subst hr) | (refine Loops.by (M := M0) 5 noPlan fol (by kernel_rfl) (ι := Nat) (fun i => ⟨[(0, AV.d (D.sl 1 (t.map D.str))), (8, AV.d (D.sl 1 (t.map D.str))), (9, AV.d (D.int .i64 t.length)), (10, AV.d (D.int .i64 i))], [], 16⟩) (fun i => i ≤ t.length ∧ ∀ j, j < i → okAt t j = true) (fun i => t.length - i) (fun i hI => ?_) (0) ⟨Nat.zero_le _, fun j h => absurd h (Nat.not_lt_zero _)⟩ (Forget.mk' ⟨⟨rfl, rfl⟩, ⟨rfl, rfl⟩, ⟨rfl, rfl⟩, ⟨rfl, rfl⟩, trivial⟩ trivial rfl rfl); obtain ⟨hi, hok⟩ := hI) | (refine fun x hx => ?_; (try simp (disch := omega) only [if_true, if_false, Bool.false_eq_true, min_nn, max_nn, min_ln, min_nl, max_ln, max_nl, getD_map, str_of_bytes, take_bytes, take_data, wrap_u64, wrap_u32, shr_i64, shr_u64, shr_u32, shl_i64, shl_u64, Int.reduceToNat, Int.reducePow, Int.pow_succ, Int.pow_zero, Int.one_mul, Int.reduceMul, wrap_id, wrap_u8_nat, wrap_i64_u8, byteD_mk, map_snoc, map_app, set_map, take_map', drop_map', Nat.sub_zero, List.length_map, List.length_append, List.length_cons, List.length_nil, Int.toNat_natCast, List.drop_zero, List.take_succ_cons, List.take_zero, List.take_length, List.nil_append, List.append_nil, Nat.zero_add, toNat_pred, toNat_succ, toNat_addn, toNat_subn] at hx); subst hx) | rw [List.take_length] | (rw [List.take_of_length_le]; rotate_left; (first | omega | (simp only [dlen, true_and, and_true, Nat.le_refl, List.length_map, List.length_append, List.length_cons, List.length_nil, List.length_take, List.length_drop, List.length_replicate, Int.toNat_natCast, List.append_nil] <;> omega) | fail)) | refine fun h => ?_ | fail); all_goals (try (conv => whnf))
  · exact rb (right_long (by omega)).symm
  · exact rb (right_bad (i := i) (by omega) (by simp_all [okAt]; omega)).symm
  · exact ⟨i + 1, ⟨⟨by omega, upto_succ hok (by simp_all [okAt])⟩, by omega⟩, (Forget.mk' ⟨⟨rfl, rfl⟩, ⟨rfl, rfl⟩, ⟨rfl, rfl⟩, ⟨rfl, rfl⟩, trivial⟩ trivial rfl rfl)⟩
  · exact ⟨i + 1, ⟨⟨by omega, upto_succ hok (by simp_all [okAt])⟩, by omega⟩, (Forget.mk' ⟨⟨rfl, rfl⟩, ⟨rfl, rfl⟩, ⟨rfl, rfl⟩, ⟨rfl, rfl⟩, trivial⟩ trivial rfl rfl)⟩
  · exact rb (right_bad (i := i) (by omega) (by simp_all [okAt])).symm
  · exact rb (right_good (by omega) (fun j hj => hok j (by omega))).symm
theorem few_con (t : List ByteArray) : Has Try.prog 10 [CV.d (D.sl 1 (t.map D.str))] (fun rs _ => rs = [CV.d (D.bool (fewS t))]) := by
  refine Has_of_run (fn := Try.f10) (M := M0) fol (by kernel_rfl) 4 noPlan [] [] (by kernel_rfl) (Nat.le_of_ble_eq_true rfl) ?_
  repeat' ((conv => whnf); first | (refine And.intro (fun h => ?_) (fun h => ?_) <;> (try simp only [toNat_pred, toNat_succ, toNat_addn, toNat_subn, decide_eq_true_eq, decide_eq_false_iff_not, Bool.not_eq_true', Bool.not_eq_false', List.length_map, Int.toNat_natCast, Int.not_lt, Int.not_le, Bool.not_eq_true, Bool.false_eq_true, Bool.true_eq_false, Bool.not_true, Bool.not_false, reduceCtorEq, beq_iff_eq, Bool.not_eq_eq_eq_not, bne_iff_ne, ne_eq, decide_not, Decidable.not_not, Classical.not_not] at h)) | refine And.intro rfl ?_ | refine And.intro (Or.inr rfl) ?_ | refine And.intro (Nat.le_of_ble_eq_true rfl) ?_ | refine And.intro ⟨rfl, rfl⟩ ?_ | refine And.intro ⟨rfl, rfl, trivial⟩ ?_ | refine And.intro (Int.natCast_nonneg _) ?_ | refine Or.inl (And.intro rfl (And.intro rfl (And.intro rfl (And.intro rfl ?_)))) | refine Or.inl (And.intro rfl (And.intro rfl ?_)) | refine Or.inr (And.intro (Nat.le_of_ble_eq_true rfl) ?_) | refine Or.inl (And.intro (by unfold in64; omega) ?_) | refine And.intro (by first | omega | (simp only [dlen, true_and, and_true, Nat.le_refl, List.length_map, List.length_append, List.length_cons, List.length_nil, List.length_take, List.length_drop, List.length_replicate, Int.toNat_natCast, List.append_nil] <;> omega) | fail) ?_ | refine And.intro (allU8_bytes _) ?_ | refine And.intro (show elemsP _ _ _ by repeat' (first | exact rfl | exact trivial | constructor)) ?_ | (refine Loops.by (M := M0) 4 noPlan fol (by kernel_rfl) (ι := Nat) (fun i => ⟨[(0, AV.d (D.sl 1 (t.map D.str))), (3, AV.d (D.int .i64 i))], [], 16⟩) (fun i => i ≤ t.length ∧ i ≤ 400 ∧ ∀ j, j < i → (t.getD j default).size ≤ 1000) (fun i => t.length - i) (fun i hI => ?_) (0) ⟨Nat.zero_le _, Nat.zero_le _, fun j h => absurd h (Nat.not_lt_zero _)⟩ (Forget.mk' ⟨⟨rfl, rfl⟩, ⟨rfl, rfl⟩, trivial⟩ trivial rfl rfl); obtain ⟨hi, h4, hok⟩ := hI) | (refine fun x hx => ?_; (try simp (disch := omega) only [if_true, if_false, Bool.false_eq_true, min_nn, max_nn, min_ln, min_nl, max_ln, max_nl, getD_map, str_of_bytes, take_bytes, take_data, wrap_u64, wrap_u32, shr_i64, shr_u64, shr_u32, shl_i64, shl_u64, Int.reduceToNat, Int.reducePow, Int.pow_succ, Int.pow_zero, Int.one_mul, Int.reduceMul, wrap_id, wrap_u8_nat, wrap_i64_u8, byteD_mk, map_snoc, map_app, set_map, take_map', drop_map', Nat.sub_zero, List.length_map, List.length_append, List.length_cons, List.length_nil, Int.toNat_natCast, List.drop_zero, List.take_succ_cons, List.take_zero, List.take_length, List.nil_append, List.append_nil, Nat.zero_add, toNat_pred, toNat_succ, toNat_addn, toNat_subn] at hx); subst hx) | rw [List.take_length] | (rw [List.take_of_length_le]; rotate_left; (first | omega | (simp only [dlen, true_and, and_true, Nat.le_refl, List.length_map, List.length_append, List.length_cons, List.length_nil, List.length_take, List.length_drop, List.length_replicate, Int.toNat_natCast, List.append_nil] <;> omega) | fail)) | refine fun h => ?_ | fail); all_goals (try (conv => whnf))
  · exact rb (by simp only [fewS]; rw [decide_eq_false (p := ∀ j, _) (fun h => by have := h i (by omega); omega), Bool.and_false])
  · exact ⟨i + 1, ⟨⟨by omega, by omega, upto_succ hok (by omega)⟩, by omega⟩, (Forget.mk' ⟨⟨rfl, rfl⟩, ⟨rfl, rfl⟩, trivial⟩ trivial rfl rfl)⟩
  · exact rb (by simp only [fewS]; rw [decide_eq_false (p := t.length ≤ 300) (by omega), decide_eq_false (by omega), Bool.false_and])
  · exact rb (by simp only [fewS]; rw [decide_eq_true (p := ∀ j, _) (fun j hj => hok j (by omega)), Bool.and_true]; exact decide_eq_decide.2 (by omega))
def pl26 : Nat → Plan
  | 4 => tks 0 [0, 0, 0, 0, 0, 0, 0] (.done)
  | 6 => tks 0 [0, 0, 0, 0, 0, 0, 0] (.done)
  | _ => .done
theorem compare_con (a b : ByteArray) (ha : a.size ≤ 9223372036854775807) (hb : b.size ≤ 9223372036854775807) : Has Try.prog 26 [CV.d (D.str a), CV.d (D.str b)] (fun rs _ => rs = [CV.d (D.int .i64 (cmpS a b))]) := by
  refine Has_of_run (fn := Try.f26) (M := M0) fol (by kernel_rfl) 6 pl26 [] [] (by kernel_rfl) (Nat.le_of_ble_eq_true rfl) ?_
  repeat' ((conv => whnf); first | (refine And.intro (fun h => ?_) (fun h => ?_) <;> (try simp only [toNat_pred, toNat_succ, toNat_addn, toNat_subn, decide_eq_true_eq, decide_eq_false_iff_not, Bool.not_eq_true', Bool.not_eq_false', List.length_map, Int.toNat_natCast, Int.not_lt, Int.not_le, Bool.not_eq_true, Bool.false_eq_true, Bool.true_eq_false, Bool.not_true, Bool.not_false, reduceCtorEq, beq_iff_eq, Bool.not_eq_eq_eq_not, bne_iff_ne, ne_eq, decide_not, Decidable.not_not, Classical.not_not] at h)) | refine And.intro rfl ?_ | refine And.intro (Or.inr rfl) ?_ | refine And.intro (Nat.le_of_ble_eq_true rfl) ?_ | refine And.intro ⟨rfl, rfl⟩ ?_ | refine And.intro ⟨rfl, rfl, trivial⟩ ?_ | refine And.intro (Int.natCast_nonneg _) ?_ | refine Or.inl (And.intro rfl (And.intro rfl (And.intro rfl (And.intro rfl ?_)))) | refine Or.inl (And.intro rfl (And.intro rfl ?_)) | refine Or.inr (And.intro (Nat.le_of_ble_eq_true rfl) ?_) | refine Or.inl (And.intro (by unfold in64; omega) ?_) | refine And.intro (by first | omega | (simp only [dlen, true_and, and_true, Nat.le_refl, List.length_map, List.length_append, List.length_cons, List.length_nil, List.length_take, List.length_drop, List.length_replicate, Int.toNat_natCast, List.append_nil] <;> omega) | fail) ?_ | refine And.intro (allU8_bytes _) ?_ | refine And.intro (show elemsP _ _ _ by repeat' (first | exact rfl | exact trivial | constructor)) ?_ | (refine Loops.by (M := M0) 6 pl26 fol (by kernel_rfl) (ι := Nat) (fun i => ⟨[(0, AV.d (D.str a)), (1, AV.d (D.str b)), (5, AV.d (D.int .i64 i))], [], 16⟩) (fun i => i ≤ a.size ∧ i ≤ b.size ∧ ∀ j, j < i → bAt a j = bAt b j) (fun i => a.size - i) (fun i hI => ?_) (0) ⟨Nat.zero_le _, Nat.zero_le _, fun j h => absurd h (Nat.not_lt_zero _)⟩ (Forget.mk' ⟨⟨rfl, rfl⟩, ⟨rfl, rfl⟩, ⟨rfl, rfl⟩, trivial⟩ trivial rfl rfl); obtain ⟨hia, hib, heq⟩ := hI) | (refine fun x hx => ?_; (try simp (disch := omega) only [if_true, if_false, Bool.false_eq_true, min_nn, max_nn, min_ln, min_nl, max_ln, max_nl, getD_map, str_of_bytes, take_bytes, take_data, wrap_u64, wrap_u32, shr_i64, shr_u64, shr_u32, shl_i64, shl_u64, Int.reduceToNat, Int.reducePow, Int.pow_succ, Int.pow_zero, Int.one_mul, Int.reduceMul, wrap_id, wrap_u8_nat, wrap_i64_u8, byteD_mk, map_snoc, map_app, set_map, take_map', drop_map', Nat.sub_zero, List.length_map, List.length_append, List.length_cons, List.length_nil, Int.toNat_natCast, List.drop_zero, List.take_succ_cons, List.take_zero, List.take_length, List.nil_append, List.append_nil, Nat.zero_add, toNat_pred, toNat_succ, toNat_addn, toNat_subn] at hx); subst hx) | rw [List.take_length] | (rw [List.take_of_length_le]; rotate_left; (first | omega | (simp only [dlen, true_and, and_true, Nat.le_refl, List.length_map, List.length_append, List.length_cons, List.length_nil, List.length_take, List.length_drop, List.length_replicate, Int.toNat_natCast, List.append_nil] <;> omega) | fail)) | refine fun h => ?_ | fail); all_goals (try (conv => whnf))
  · exact ri (cmp_at heq (by omega) (by omega) (by assumption)).1.symm
  · exact ri (cmp_at (fun j hj => (heq j hj).symm) (by omega) (by omega) (by assumption)).2.symm
  · exact ⟨i + 1, ⟨⟨by omega, by omega, upto_succ heq (by omega)⟩, by omega⟩, (Forget.mk' ⟨⟨rfl, rfl⟩, ⟨rfl, rfl⟩, ⟨rfl, rfl⟩, trivial⟩ trivial rfl rfl)⟩
  all_goals refine ri ?_
  all_goals first | omega | (rw [cmp_end heq (by omega)]; repeat (first | rw [if_pos (by omega)] | rw [if_neg (by omega)]))
theorem same01_con (a b : List UInt8) : Has Try.prog 14 [CV.d (D.sl 1 (a.map byteD)), CV.d (D.sl 1 (b.map byteD))] (fun rs _ => rs = [CV.d (D.bool (decide (a = b)))]) := by
  refine Has_of_run (fn := Try.f14) (M := M0) fol (by kernel_rfl) 5 noPlan [] [] (by kernel_rfl) (Nat.le_of_ble_eq_true rfl) ?_
  repeat' ((conv => whnf); first | (refine And.intro (fun h => ?_) (fun h => ?_) <;> (try simp only [toNat_pred, toNat_succ, toNat_addn, toNat_subn, decide_eq_true_eq, decide_eq_false_iff_not, Bool.not_eq_true', Bool.not_eq_false', List.length_map, Int.toNat_natCast, Int.not_lt, Int.not_le, Bool.not_eq_true, Bool.false_eq_true, Bool.true_eq_false, Bool.not_true, Bool.not_false, reduceCtorEq, beq_iff_eq, Bool.not_eq_eq_eq_not, bne_iff_ne, ne_eq, decide_not, Decidable.not_not, Classical.not_not] at h)) | refine And.intro rfl ?_ | refine And.intro (Or.inr rfl) ?_ | refine And.intro (Nat.le_of_ble_eq_true rfl) ?_ | refine And.intro ⟨rfl, rfl⟩ ?_ | refine And.intro ⟨rfl, rfl, trivial⟩ ?_ | refine And.intro (Int.natCast_nonneg _) ?_ | refine Or.inl (And.intro rfl (And.intro rfl (And.intro rfl (And.intro rfl ?_)))) | refine Or.inl (And.intro rfl (And.intro rfl ?_)) | refine Or.inr (And.intro (Nat.le_of_ble_eq_true rfl) ?_) | refine Or.inl (And.intro (by unfold in64; omega) ?_) | refine And.intro (by first | omega | (simp only [dlen, true_and, and_true, Nat.le_refl, List.length_map, List.length_append, List.length_cons, List.length_nil, List.length_take, List.length_drop, List.length_replicate, Int.toNat_natCast, List.append_nil] <;> omega) | fail) ?_ | refine And.intro (allU8_bytes _) ?_ | refine And.intro (show elemsP _ _ _ by repeat' (first | exact rfl | exact trivial | constructor)) ?_ | (refine fun x hx => ?_; (try simp (disch := omega) only [if_true, if_false, Bool.false_eq_true, min_nn, max_nn, min_ln, min_nl, max_ln, max_nl, getD_map, str_of_bytes, take_bytes, take_data, wrap_u64, wrap_u32, shr_i64, shr_u64, shr_u32, shl_i64, shl_u64, Int.reduceToNat, Int.reducePow, Int.pow_succ, Int.pow_zero, Int.one_mul, Int.reduceMul, wrap_id, wrap_u8_nat, wrap_i64_u8, byteD_mk, map_snoc, map_app, set_map, take_map', drop_map', Nat.sub_zero, List.length_map, List.length_append, List.length_cons, List.length_nil, Int.toNat_natCast, List.drop_zero, List.take_succ_cons, List.take_zero, List.take_length, List.nil_append, List.append_nil, Nat.zero_add, toNat_pred, toNat_succ, toNat_addn, toNat_subn] at hx); subst hx) | rw [List.take_length] | (rw [List.take_of_length_le]; rotate_left; (first | omega | (simp only [dlen, true_and, and_true, Nat.le_refl, List.length_map, List.length_append, List.length_cons, List.length_nil, List.length_take, List.length_drop, List.length_replicate, Int.toNat_natCast, List.append_nil] <;> omega) | fail)) | refine fun h => ?_ | fail); all_goals (try (conv => whnf))
  exact rb (decide_eq_decide.2 strB_inj)
def pl17 : Nat → Plan
  | 6 => tks 0 [0, 0, 0, 1, 0, 0, 0, 1, 0] (.done)
  | _ => .done
theorem same07_con (a b : List ByteArray) : Has Try.prog 17 [CV.d (D.sl 1 (a.map D.str)), CV.d (D.sl 1 (b.map D.str))] (fun rs _ => rs = [CV.d (D.bool (decide (a = b)))]) := by
  refine Has_of_run (fn := Try.f17) (M := M0) fol (by kernel_rfl) 6 pl17 [] [] (by kernel_rfl) (Nat.le_of_ble_eq_true rfl) ?_
  repeat' ((conv => whnf); first | (refine And.intro (fun h => ?_) (fun h => ?_) <;> (try simp only [toNat_pred, toNat_succ, toNat_addn, toNat_subn, decide_eq_true_eq, decide_eq_false_iff_not, Bool.not_eq_true', Bool.not_eq_false', List.length_map, Int.toNat_natCast, Int.not_lt, Int.not_le, Bool.not_eq_true, Bool.false_eq_true, Bool.true_eq_false, Bool.not_true, Bool.not_false, reduceCtorEq, beq_iff_eq, Bool.not_eq_eq_eq_not, bne_iff_ne, ne_eq, decide_not, Decidable.not_not, Classical.not_not] at h)) | refine And.intro rfl ?_ | refine And.intro (Or.inr rfl) ?_ | refine And.intro (Nat.le_of_ble_eq_true rfl) ?_ | refine And.intro ⟨rfl, rfl⟩ ?_ | refine And.intro ⟨rfl, rfl, trivial⟩ ?_ | refine And.intro (Int.natCast_nonneg _) ?_ | refine Or.inl (And.intro rfl (And.intro rfl (And.intro rfl (And.intro rfl ?_)))) | refine Or.inl (And.intro rfl (And.intro rfl ?_)) | refine Or.inr (And.intro (Nat.le_of_ble_eq_true rfl) ?_) | refine Or.inl (And.intro (by unfold in64; omega) ?_) | refine And.intro (by first | omega | (simp only [dlen, true_and, and_true, Nat.le_refl, List.length_map, List.length_append, List.length_cons, List.length_nil, List.length_take, List.length_drop, List.length_replicate, Int.toNat_natCast, List.append_nil] <;> omega) | fail) ?_ | refine And.intro (allU8_bytes _) ?_ | refine And.intro (show elemsP _ _ _ by repeat' (first | exact rfl | exact trivial | constructor)) ?_ | (refine Loops.by (M := M0) 6 pl17 fol (by kernel_rfl) (ι := Nat) (fun i => ⟨[(0, AV.d (D.sl 1 (a.map D.str))), (1, AV.d (D.sl 1 (b.map D.str))), (5, AV.d (D.int .i64 i))], [], 16⟩) (fun i => i ≤ a.length ∧ ∀ j, j < i → a.getD j default = b.getD j default) (fun i => a.length - i) (fun i hI => ?_) (0) ⟨Nat.zero_le _, fun j h => absurd h (Nat.not_lt_zero _)⟩ (Forget.mk' ⟨⟨rfl, rfl⟩, ⟨rfl, rfl⟩, ⟨rfl, rfl⟩, trivial⟩ trivial rfl rfl); obtain ⟨hi, hok⟩ := hI) | (refine fun x hx => ?_; (try simp (disch := omega) only [if_true, if_false, Bool.false_eq_true, min_nn, max_nn, min_ln, min_nl, max_ln, max_nl, getD_map, str_of_bytes, take_bytes, take_data, wrap_u64, wrap_u32, shr_i64, shr_u64, shr_u32, shl_i64, shl_u64, Int.reduceToNat, Int.reducePow, Int.pow_succ, Int.pow_zero, Int.one_mul, Int.reduceMul, wrap_id, wrap_u8_nat, wrap_i64_u8, byteD_mk, map_snoc, map_app, set_map, take_map', drop_map', Nat.sub_zero, List.length_map, List.length_append, List.length_cons, List.length_nil, Int.toNat_natCast, List.drop_zero, List.take_succ_cons, List.take_zero, List.take_length, List.nil_append, List.append_nil, Nat.zero_add, toNat_pred, toNat_succ, toNat_addn, toNat_subn] at hx); subst hx) | rw [List.take_length] | (rw [List.take_of_length_le]; rotate_left; (first | omega | (simp only [dlen, true_and, and_true, Nat.le_refl, List.length_map, List.length_append, List.length_cons, List.length_nil, List.length_take, List.length_drop, List.length_replicate, Int.toNat_natCast, List.append_nil] <;> omega) | fail)) | refine fun h => ?_ | fail); all_goals (try (conv => whnf))
  · exact rb (by rw [decide_eq_false]; rintro rfl; simp_all)
  · exact rb (by rw [decide_eq_false]; rintro rfl; simp_all)
  · exact ⟨i + 1, ⟨⟨by omega, upto_succ hok (by assumption)⟩, by omega⟩, (Forget.mk' ⟨⟨rfl, rfl⟩, ⟨rfl, rfl⟩, ⟨rfl, rfl⟩, trivial⟩ trivial rfl rfl)⟩
  · exact rb (by rw [decide_eq_true]; exact ext_getD (by omega) (fun j hj => hok j (by omega)))
end Go.Fw
namespace Go.Fw
open Go Go.Proofs
set_option maxHeartbeats 10000000
set_option maxRecDepth 100000
set_option linter.constructorNameAsVariable false
set_option linter.unusedVariables false
set_option linter.unusedSimpArgs false
theorem nan_con (s : ByteArray) : Has Try.prog 48 [CV.d (D.str s)] (fun rs _ => rs = [CV.d (D.bool false)]) := by
  refine Has_of_run (fn := Try.f48) (M := M0) fol (by kernel_rfl) 3 noPlan [] [] (by kernel_rfl) (Nat.le_of_ble_eq_true rfl) ?_
  repeat' ((conv => whnf); first | (refine And.intro (fun h => ?_) (fun h => ?_) <;> (try simp only [toNat_pred, toNat_succ, toNat_addn, toNat_subn, decide_eq_true_eq, decide_eq_false_iff_not, Bool.not_eq_true', Bool.not_eq_false', List.length_map, Int.toNat_natCast, Int.not_lt, Int.not_le, Bool.not_eq_true, Bool.false_eq_true, Bool.true_eq_false, Bool.not_true, Bool.not_false, reduceCtorEq, beq_iff_eq, Bool.not_eq_eq_eq_not, bne_iff_ne, ne_eq, decide_not, Decidable.not_not, Classical.not_not] at h)) | refine And.intro rfl ?_ | refine And.intro (Or.inr rfl) ?_ | refine And.intro (Nat.le_of_ble_eq_true rfl) ?_ | refine And.intro ⟨rfl, rfl⟩ ?_ | refine And.intro ⟨rfl, rfl, trivial⟩ ?_ | refine And.intro (Int.natCast_nonneg _) ?_ | refine Or.inl (And.intro rfl (And.intro rfl (And.intro rfl (And.intro rfl ?_)))) | refine Or.inl (And.intro rfl (And.intro rfl ?_)) | refine Or.inr (And.intro (Nat.le_of_ble_eq_true rfl) ?_) | refine Or.inl (And.intro (by unfold in64; omega) ?_) | refine And.intro (by first | omega | (simp only [dlen, true_and, and_true, Nat.le_refl, List.length_map, List.length_append, List.length_cons, List.length_nil, List.length_take, List.length_drop, List.length_replicate, Int.toNat_natCast, List.append_nil] <;> omega) | fail) ?_ | refine And.intro (allU8_bytes _) ?_ | refine And.intro (show elemsP _ _ _ by repeat' (first | exact rfl | exact trivial | constructor)) ?_ | (refine fun x hx => ?_; (try simp (disch := omega) only [if_true, if_false, Bool.false_eq_true, min_nn, max_nn, min_ln, min_nl, max_ln, max_nl, getD_map, str_of_bytes, take_bytes, take_data, wrap_u64, wrap_u32, shr_i64, shr_u64, shr_u32, shl_i64, shl_u64, Int.reduceToNat, Int.reducePow, Int.pow_succ, Int.pow_zero, Int.one_mul, Int.reduceMul, wrap_id, wrap_u8_nat, wrap_i64_u8, byteD_mk, map_snoc, map_app, set_map, take_map', drop_map', Nat.sub_zero, List.length_map, List.length_append, List.length_cons, List.length_nil, Int.toNat_natCast, List.drop_zero, List.take_succ_cons, List.take_zero, List.take_length, List.nil_append, List.append_nil, Nat.zero_add, toNat_pred, toNat_succ, toNat_addn, toNat_subn] at hx); subst hx) | rw [List.take_length] | (rw [List.take_of_length_le]; rotate_left; (first | omega | (simp only [dlen, true_and, and_true, Nat.le_refl, List.length_map, List.length_append, List.length_cons, List.length_nil, List.length_take, List.length_drop, List.length_replicate, Int.toNat_natCast, List.append_nil] <;> omega) | fail)) | refine fun h => ?_ | fail); all_goals (try (conv => whnf))
  exact rb (by simp)
theorem nan2_con (s : ByteArray) : Has Try.prog 37 [CV.d (D.str s)] (fun rs _ => rs = [CV.d (D.bool false)]) := by
  refine Has_of_run (fn := Try.f37) (M := M0) fol (by kernel_rfl) 3 noPlan [] [] (by kernel_rfl) (Nat.le_of_ble_eq_true rfl) ?_
  repeat' ((conv => whnf); first | (refine And.intro (fun h => ?_) (fun h => ?_) <;> (try simp only [toNat_pred, toNat_succ, toNat_addn, toNat_subn, decide_eq_true_eq, decide_eq_false_iff_not, Bool.not_eq_true', Bool.not_eq_false', List.length_map, Int.toNat_natCast, Int.not_lt, Int.not_le, Bool.not_eq_true, Bool.false_eq_true, Bool.true_eq_false, Bool.not_true, Bool.not_false, reduceCtorEq, beq_iff_eq, Bool.not_eq_eq_eq_not, bne_iff_ne, ne_eq, decide_not, Decidable.not_not, Classical.not_not] at h)) | refine And.intro rfl ?_ | refine And.intro (Or.inr rfl) ?_ | refine And.intro (Nat.le_of_ble_eq_true rfl) ?_ | refine And.intro ⟨rfl, rfl⟩ ?_ | refine And.intro ⟨rfl, rfl, trivial⟩ ?_ | refine And.intro (Int.natCast_nonneg _) ?_ | refine Or.inl (And.intro rfl (And.intro rfl (And.intro rfl (And.intro rfl ?_)))) | refine Or.inl (And.intro rfl (And.intro rfl ?_)) | refine Or.inr (And.intro (Nat.le_of_ble_eq_true rfl) ?_) | refine Or.inl (And.intro (by unfold in64; omega) ?_) | refine And.intro (by first | omega | (simp only [dlen, true_and, and_true, Nat.le_refl, List.length_map, List.length_append, List.length_cons, List.length_nil, List.length_take, List.length_drop, List.length_replicate, Int.toNat_natCast, List.append_nil] <;> omega) | fail) ?_ | refine And.intro (allU8_bytes _) ?_ | refine And.intro (show elemsP _ _ _ by repeat' (first | exact rfl | exact trivial | constructor)) ?_ | (refine fun x hx => ?_; (try simp (disch := omega) only [if_true, if_false, Bool.false_eq_true, min_nn, max_nn, min_ln, min_nl, max_ln, max_nl, getD_map, str_of_bytes, take_bytes, take_data, wrap_u64, wrap_u32, shr_i64, shr_u64, shr_u32, shl_i64, shl_u64, Int.reduceToNat, Int.reducePow, Int.pow_succ, Int.pow_zero, Int.one_mul, Int.reduceMul, wrap_id, wrap_u8_nat, wrap_i64_u8, byteD_mk, map_snoc, map_app, set_map, take_map', drop_map', Nat.sub_zero, List.length_map, List.length_append, List.length_cons, List.length_nil, Int.toNat_natCast, List.drop_zero, List.take_succ_cons, List.take_zero, List.take_length, List.nil_append, List.append_nil, Nat.zero_add, toNat_pred, toNat_succ, toNat_addn, toNat_subn] at hx); subst hx) | rw [List.take_length] | (rw [List.take_of_length_le]; rotate_left; (first | omega | (simp only [dlen, true_and, and_true, Nat.le_refl, List.length_map, List.length_append, List.length_cons, List.length_nil, List.length_take, List.length_drop, List.length_replicate, Int.toNat_natCast, List.append_nil] <;> omega) | fail)) | refine fun h => ?_ | fail); all_goals (try (conv => whnf))
  exact rb (by simp)
theorem less_con (a b : ByteArray) : Has Try.prog 36 [CV.d (D.str a), CV.d (D.str b)] (fun rs _ => rs = [CV.d (D.bool (slt a b))]) := by
  refine Has_of_run (fn := Try.f36) (M := M0) fol (by kernel_rfl) 5 noPlan [] [] (by kernel_rfl) (Nat.le_of_ble_eq_true rfl) ?_
  repeat' ((conv => whnf); first | (refine And.intro (fun h => ?_) (fun h => ?_) <;> (try simp only [toNat_pred, toNat_succ, toNat_addn, toNat_subn, decide_eq_true_eq, decide_eq_false_iff_not, Bool.not_eq_true', Bool.not_eq_false', List.length_map, Int.toNat_natCast, Int.not_lt, Int.not_le, Bool.not_eq_true, Bool.false_eq_true, Bool.true_eq_false, Bool.not_true, Bool.not_false, reduceCtorEq, beq_iff_eq, Bool.not_eq_eq_eq_not, bne_iff_ne, ne_eq, decide_not, Decidable.not_not, Classical.not_not] at h)) | refine And.intro rfl ?_ | refine And.intro (Or.inr rfl) ?_ | refine And.intro (Nat.le_of_ble_eq_true rfl) ?_ | refine And.intro ⟨rfl, rfl⟩ ?_ | refine And.intro ⟨rfl, rfl, trivial⟩ ?_ | refine And.intro (Int.natCast_nonneg _) ?_ | refine Or.inl (And.intro rfl (And.intro rfl (And.intro rfl (And.intro rfl ?_)))) | refine Or.inl (And.intro rfl (And.intro rfl ?_)) | refine Or.inr (And.intro (Nat.le_of_ble_eq_true rfl) ?_) | refine Or.inl (And.intro (by unfold in64; omega) ?_) | refine And.intro (by first | omega | (simp only [dlen, true_and, and_true, Nat.le_refl, List.length_map, List.length_append, List.length_cons, List.length_nil, List.length_take, List.length_drop, List.length_replicate, Int.toNat_natCast, List.append_nil] <;> omega) | fail) ?_ | refine And.intro (allU8_bytes _) ?_ | refine And.intro (show elemsP _ _ _ by repeat' (first | exact rfl | exact trivial | constructor)) ?_ | (refine (nan_con _).mono fun rs bs hr => ?_; subst hr) | (refine fun x hx => ?_; (try simp (disch := omega) only [if_true, if_false, Bool.false_eq_true, min_nn, max_nn, min_ln, min_nl, max_ln, max_nl, getD_map, str_of_bytes, take_bytes, take_data, wrap_u64, wrap_u32, shr_i64, shr_u64, shr_u32, shl_i64, shl_u64, Int.reduceToNat, Int.reducePow, Int.pow_succ, Int.pow_zero, Int.one_mul, Int.reduceMul, wrap_id, wrap_u8_nat, wrap_i64_u8, byteD_mk, map_snoc, map_app, set_map, take_map', drop_map', Nat.sub_zero, List.length_map, List.length_append, List.length_cons, List.length_nil, Int.toNat_natCast, List.drop_zero, List.take_succ_cons, List.take_zero, List.take_length, List.nil_append, List.append_nil, Nat.zero_add, toNat_pred, toNat_succ, toNat_addn, toNat_subn] at hx); subst hx) | rw [List.take_length] | (rw [List.take_of_length_le]; rotate_left; (first | omega | (simp only [dlen, true_and, and_true, Nat.le_refl, List.length_map, List.length_append, List.length_cons, List.length_nil, List.length_take, List.length_drop, List.length_replicate, Int.toNat_natCast, List.append_nil] <;> omega) | fail)) | refine fun h => ?_ | fail); all_goals (try (conv => whnf))
theorem bs_con (t : List ByteArray) (x : ByteArray) (hl : t.length ≤ 1000000000) (hr : Rises t) : Has Try.prog 29 [CV.d (D.sl 1 (t.map D.str)), CV.d (D.str x)] (fun rs _ => ∃ i : Nat, rs = [CV.d (D.int .i64 i), CV.d (D.bool (decide (i < t.length) && decide (t.getD i default = x)))] ∧ i ≤ t.length ∧ ∀ j, j < t.length → (slt (t.getD j default) x = true ↔ j < i)) := by
  refine Has_of_run (fn := Try.f29) (M := M0) fol (by kernel_rfl) 10 noPlan [] [] (by kernel_rfl) (Nat.le_of_ble_eq_true rfl) ?_
  repeat' ((conv => whnf); first | (refine And.intro (fun h => ?_) (fun h => ?_) <;> (try simp only [toNat_pred, toNat_succ, toNat_addn, toNat_subn, decide_eq_true_eq, decide_eq_false_iff_not, Bool.not_eq_true', Bool.not_eq_false', List.length_map, Int.toNat_natCast, Int.not_lt, Int.not_le, Bool.not_eq_true, Bool.false_eq_true, Bool.true_eq_false, Bool.not_true, Bool.not_false, reduceCtorEq, beq_iff_eq, Bool.not_eq_eq_eq_not, bne_iff_ne, ne_eq, decide_not, Decidable.not_not, Classical.not_not] at h)) | refine And.intro rfl ?_ | refine And.intro (Or.inr rfl) ?_ | refine And.intro (Nat.le_of_ble_eq_true rfl) ?_ | refine And.intro ⟨rfl, rfl⟩ ?_ | refine And.intro ⟨rfl, rfl, trivial⟩ ?_ | refine And.intro (Int.natCast_nonneg _) ?_ | refine Or.inl (And.intro rfl (And.intro rfl (And.intro rfl (And.intro rfl ?_)))) | refine Or.inl (And.intro rfl (And.intro rfl ?_)) | refine Or.inr (And.intro (Nat.le_of_ble_eq_true rfl) ?_) | refine Or.inl (And.intro (by unfold in64; omega) ?_) | refine And.intro (by first | omega | (simp only [dlen, true_and, and_true, Nat.le_refl, List.length_map, List.length_append, List.length_cons, List.length_nil, List.length_take, List.length_drop, List.length_replicate, Int.toNat_natCast, List.append_nil] <;> omega) | fail) ?_ | refine And.intro (allU8_bytes _) ?_ | refine And.intro (show elemsP _ _ _ by repeat' (first | exact rfl | exact trivial | constructor)) ?_ | (refine (less_con _ _).mono fun rs bs hr => ?_; subst hr) | (refine (nan2_con _).mono fun rs bs hr => ?_; subst hr) | (refine Loops.by (M := M0) 10 noPlan fol (by kernel_rfl) (ι := Nat × Nat) (fun ⟨lo, hi⟩ => ⟨[(0, AV.d (D.sl 1 (t.map D.str))), (1, AV.d (D.str x)), (6, AV.d (D.int .i64 t.length)), (7, AV.d (D.int .i64 lo)), (8, AV.d (D.int .i64 hi))], [], 16⟩) (fun ⟨lo, hi⟩ => lo ≤ hi ∧ hi ≤ t.length ∧ (∀ j, j < lo → slt (t.getD j default) x = true) ∧ (∀ j, hi ≤ j → j < t.length → slt (t.getD j default) x = false)) (fun ⟨lo, hi⟩ => hi - lo) (fun p hI => ?_) ((0, t.length)) ⟨Nat.zero_le _, Nat.le_refl _, fun j h => absurd h (Nat.not_lt_zero _), fun j h h' => by omega⟩ (Forget.mk' ⟨⟨rfl, rfl⟩, ⟨rfl, rfl⟩, ⟨rfl, rfl⟩, ⟨rfl, rfl⟩, ⟨rfl, rfl⟩, trivial⟩ trivial rfl rfl); obtain ⟨lo, hi⟩ := p; obtain ⟨h1, h2, h3, h4⟩ := hI) | (refine fun x hx => ?_; (try simp (disch := omega) only [if_true, if_false, Bool.false_eq_true, min_nn, max_nn, min_ln, min_nl, max_ln, max_nl, getD_map, str_of_bytes, take_bytes, take_data, wrap_u64, wrap_u32, shr_i64, shr_u64, shr_u32, shl_i64, shl_u64, Int.reduceToNat, Int.reducePow, Int.pow_succ, Int.pow_zero, Int.one_mul, Int.reduceMul, wrap_id, wrap_u8_nat, wrap_i64_u8, byteD_mk, map_snoc, map_app, set_map, take_map', drop_map', Nat.sub_zero, List.length_map, List.length_append, List.length_cons, List.length_nil, Int.toNat_natCast, List.drop_zero, List.take_succ_cons, List.take_zero, List.take_length, List.nil_append, List.append_nil, Nat.zero_add, toNat_pred, toNat_succ, toNat_addn, toNat_subn] at hx); subst hx) | rw [List.take_length] | (rw [List.take_of_length_le]; rotate_left; (first | omega | (simp only [dlen, true_and, and_true, Nat.le_refl, List.length_map, List.length_append, List.length_cons, List.length_nil, List.length_take, List.length_drop, List.length_replicate, Int.toNat_natCast, List.append_nil] <;> omega) | fail)) | refine fun h => ?_ | fail); all_goals (try (conv => whnf))
  · refine ⟨((lo + hi) / 2 + 1, hi), ⟨⟨by show _ ≤ hi; omega, h2, half_up hr (by omega) ?_, h4⟩, by show hi - ((lo + hi) / 2 + 1) < hi - lo; omega⟩, (Forget.mk' ⟨⟨rfl, rfl⟩, ⟨rfl, rfl⟩, ⟨rfl, rfl⟩, ⟨rfl, rfl⟩, ⟨rfl, rfl⟩, trivial⟩ trivial rfl rfl)⟩
    rwa [half_nat] at h
  · refine ⟨(lo, (lo + hi) / 2), ⟨⟨by show lo ≤ _; omega, by show (lo + hi) / 2 ≤ _; omega, h3, half_down hr ?_⟩, by show (lo + hi) / 2 - lo < hi - lo; omega⟩, (Forget.mk' ⟨⟨rfl, rfl⟩, ⟨rfl, rfl⟩, ⟨rfl, rfl⟩, ⟨rfl, rfl⟩, ⟨rfl, rfl⟩, trivial⟩ trivial rfl rfl)⟩
    rwa [half_nat] at h
  · exact ⟨lo, by rw [decide_eq_false (p := t.getD lo default = x) (by assumption), Bool.and_false], by omega, half_end (by omega) h3 h4⟩
  · exact ⟨lo, by rw [decide_eq_true (p := t.getD lo default = x) (by assumption), decide_eq_true (p := lo < t.length) (by omega)]; rfl, by omega, half_end (by omega) h3 h4⟩
  · exact ⟨lo, by rw [decide_eq_false (p := lo < t.length) (by omega), Bool.false_and], by omega, half_end (by omega) h3 h4⟩
theorem longest_con (t : List ByteArray) (x : ByteArray) (hl : t.length ≤ 1000000000) (hr : Rises t) : Has Try.prog 19 [CV.d (D.sl 1 (t.map D.str)), CV.d (D.str x)] (fun rs _ => Found t x rs) := by
  refine Has_of_run (fn := Try.f19) (M := M0) fol (by kernel_rfl) 9 noPlan [] [] (by kernel_rfl) (Nat.le_of_ble_eq_true rfl) ?_
  repeat' ((conv => whnf); first | (refine And.intro (fun h => ?_) (fun h => ?_) <;> (try simp only [toNat_pred, toNat_succ, toNat_addn, toNat_subn, decide_eq_true_eq, decide_eq_false_iff_not, Bool.not_eq_true', Bool.not_eq_false', List.length_map, Int.toNat_natCast, Int.not_lt, Int.not_le, Bool.not_eq_true, Bool.false_eq_true, Bool.true_eq_false, Bool.not_true, Bool.not_false, reduceCtorEq, beq_iff_eq, Bool.not_eq_eq_eq_not, bne_iff_ne, ne_eq, decide_not, Decidable.not_not, Classical.not_not] at h)) | refine And.intro rfl ?_ | refine And.intro (Or.inr rfl) ?_ | refine And.intro (Nat.le_of_ble_eq_true rfl) ?_ | refine And.intro ⟨rfl, rfl⟩ ?_ | refine And.intro ⟨rfl, rfl, trivial⟩ ?_ | refine And.intro (Int.natCast_nonneg _) ?_ | refine Or.inl (And.intro rfl (And.intro rfl (And.intro rfl (And.intro rfl ?_)))) | refine Or.inl (And.intro rfl (And.intro rfl ?_)) | refine Or.inr (And.intro (Nat.le_of_ble_eq_true rfl) ?_) | refine Or.inl (And.intro (by unfold in64; omega) ?_) | refine And.intro (by first | omega | (simp only [dlen, true_and, and_true, Nat.le_refl, List.length_map, List.length_append, List.length_cons, List.length_nil, List.length_take, List.length_drop, List.length_replicate, Int.toNat_natCast, List.append_nil] <;> omega) | fail) ?_ | refine And.intro (allU8_bytes _) ?_ | refine And.intro (show elemsP _ _ _ by repeat' (first | exact rfl | exact trivial | constructor)) ?_ | (refine (bs_con t _ hl hr).mono fun rs bs hrs => ?_; obtain ⟨i, rfl, hi, hb⟩ := hrs) | (refine Loops.by (M := M0) 9 noPlan fol (by kernel_rfl) (ι := Nat) (fun n => ⟨[(0, AV.d (D.sl 1 (t.map D.str))), (1, AV.d (D.str x)), (6, AV.d (D.int .i64 n))], [], 16⟩) (fun n => n ≤ min 8 x.size ∧ ∀ m, n < m → m ≤ 8 → m ≤ x.size → NoBeg t x m) (fun n => n) (fun n hI => ?_) ((min 8 x.size)) ⟨Nat.le_refl _, fun m h1 h2 h3 => by omega⟩ (Forget.mk' ⟨⟨rfl, rfl⟩, ⟨rfl, rfl⟩, ⟨rfl, rfl⟩, trivial⟩ trivial rfl rfl); obtain ⟨hn, hno⟩ := hI) | (refine fun x hx => ?_; (try simp (disch := omega) only [if_true, if_false, Bool.false_eq_true, min_nn, max_nn, min_ln, min_nl, max_ln, max_nl, getD_map, str_of_bytes, take_bytes, take_data, wrap_u64, wrap_u32, shr_i64, shr_u64, shr_u32, shl_i64, shl_u64, Int.reduceToNat, Int.reducePow, Int.pow_succ, Int.pow_zero, Int.one_mul, Int.reduceMul, wrap_id, wrap_u8_nat, wrap_i64_u8, byteD_mk, map_snoc, map_app, set_map, take_map', drop_map', Nat.sub_zero, List.length_map, List.length_append, List.length_cons, List.length_nil, Int.toNat_natCast, List.drop_zero, List.take_succ_cons, List.take_zero, List.take_length, List.nil_append, List.append_nil, Nat.zero_add, toNat_pred, toNat_succ, toNat_addn, toNat_subn] at hx); subst hx) | rw [List.take_length] | (rw [List.take_of_length_le]; rotate_left; (first | omega | (simp only [dlen, true_and, and_true, Nat.le_refl, List.length_map, List.length_append, List.length_cons, List.length_nil, List.length_take, List.length_drop, List.length_replicate, Int.toNat_natCast, List.append_nil] <;> omega) | fail)) | refine fun h => ?_ | fail); all_goals (try (conv => whnf))
  · simp only [Bool.and_eq_true, decide_eq_true_eq] at h
    exact .inl ⟨i, n, rfl, by omega, by omega, by omega, h.1, h.2, hno⟩
  · rw [show (n : Int) - 1 = ((n - 1 : Nat) : Int) by omega]
    refine ⟨n - 1, ⟨⟨by omega, fun m h1 h2 h3 => ?_⟩, by omega⟩, (Forget.mk' ⟨⟨rfl, rfl⟩, ⟨rfl, rfl⟩, ⟨rfl, rfl⟩, trivial⟩ trivial rfl rfl)⟩
    by_cases e : m = n
    · rw [e]
      refine noBeg_of hr hb fun hf => ?_
      rw [decide_eq_true hf.1, decide_eq_true hf.2] at h
      cases h
    · exact hno m (by omega) h2 h3
  · exact .inr ⟨rfl, fun m h1 h2 h3 => hno m (by omega) h2 h3⟩
end Go.Fw
namespace Go.Fw
open Go Go.Proofs
set_option maxHeartbeats 10000000
set_option maxRecDepth 100000
set_option linter.constructorNameAsVariable false
set_option linter.unusedVariables false
set_option linter.unusedSimpArgs false
theorem putRef_con (t : List ByteArray) (h255 : t.length ≤ 255) (h8 : ∀ s ∈ t, s.size ≤ 8) : Has Try.prog 15 [CV.d (D.sl 1 (t.map D.str))] (fun rs _ => rs = [CV.own 5 1 ((putB t).map byteD)] ) := by
  have hb5 : Try.prog.bytesOf 5 = 1 := by kernel_rfl
  refine Has_of_run (fn := Try.f15) (M := M0) fol (by kernel_rfl) 5 noPlan [.own] [] (by kernel_rfl) (Nat.le_of_ble_eq_true rfl) ?_
  repeat' ((conv => whnf); first | (refine And.intro (fun h => ?_) (fun h => ?_) <;> (try simp only [toNat_pred, toNat_succ, toNat_addn, toNat_subn, decide_eq_true_eq, decide_eq_false_iff_not, Bool.not_eq_true', Bool.not_eq_false', List.length_map, Int.toNat_natCast, Int.not_lt, Int.not_le, Bool.not_eq_true, Bool.false_eq_true, Bool.true_eq_false, Bool.not_true, Bool.not_false, reduceCtorEq, beq_iff_eq, Bool.not_eq_eq_eq_not, bne_iff_ne, ne_eq, decide_not, Decidable.not_not, Classical.not_not] at h)) | refine And.intro rfl ?_ | refine And.intro (Or.inr rfl) ?_ | refine And.intro (Nat.le_of_ble_eq_true rfl) ?_ | refine And.intro ⟨rfl, rfl⟩ ?_ | refine And.intro ⟨rfl, rfl, trivial⟩ ?_ | refine And.intro (Int.natCast_nonneg _) ?_ | refine Or.inl (And.intro rfl (And.intro rfl (And.intro rfl (And.intro rfl ?_)))) | refine Or.inl (And.intro rfl (And.intro rfl ?_)) | refine Or.inr (And.intro (Nat.le_of_ble_eq_true rfl) ?_) | refine Or.inl (And.intro (by unfold in64; omega) ?_) | refine And.intro (by first | omega | (simp only [dlen, true_and, and_true, Nat.le_refl, List.length_map, List.length_append, List.length_cons, List.length_nil, List.length_take, List.length_drop, List.length_replicate, Int.toNat_natCast, List.append_nil, hb5] <;> omega) | fail) ?_ | refine And.intro (allU8_bytes _) ?_ | refine And.intro (show elemsP _ _ _ by repeat' (first | exact rfl | exact trivial | constructor)) ?_ | (refine Loops.by (M := M0) 5 noPlan fol (by kernel_rfl) (ι := Nat) (fun i => ⟨[(0, AV.d (D.sl 1 (t.map D.str))), (3, AV.ref [3] 16 1 0 ((UInt8.ofNat t.length :: (t.take i).flatMap putF).map byteD).length), (4, AV.d (D.int .i64 i))], [([3], 16, AO.row 5 1 ((UInt8.ofNat t.length :: (t.take i).flatMap putF).map byteD))], 17⟩) (fun i => i ≤ t.length) (fun i => t.length - i) (fun i hI => ?_) (0) (Nat.zero_le _) (Forget.mk' ⟨⟨rfl, rfl⟩, ⟨rfl, rfl⟩, ⟨rfl, rfl⟩, trivial⟩ ⟨⟨rfl, rfl, rfl⟩, trivial⟩ rfl rfl); have hu := puts_upto h8 i; have hz : t.length ≤ i ∨ (t.getD i default).size ≤ 8 := (Nat.lt_or_ge i t.length).elim (fun h => .inr (h8 _ (getD_mem h))) .inl) | (refine fun x hx => ?_; (try simp (disch := omega) only [if_true, if_false, Bool.false_eq_true, min_nn, max_nn, min_ln, min_nl, max_ln, max_nl, getD_map, str_of_bytes, take_bytes, take_data, wrap_u64, wrap_u32, shr_i64, shr_u64, shr_u32, shl_i64, shl_u64, Int.reduceToNat, Int.reducePow, Int.pow_succ, Int.pow_zero, Int.one_mul, Int.reduceMul, wrap_id, wrap_u8_nat, wrap_i64_u8, byteD_mk, map_snoc, map_app, set_map, take_map', drop_map', Nat.sub_zero, List.length_map, List.length_append, List.length_cons, List.length_nil, Int.toNat_natCast, List.drop_zero, List.take_succ_cons, List.take_zero, List.take_length, List.nil_append, List.append_nil, Nat.zero_add, toNat_pred, toNat_succ, toNat_addn, toNat_subn] at hx); subst hx) | rw [List.take_length] | (rw [List.take_of_length_le]; rotate_left; (first | omega | (simp only [dlen, true_and, and_true, Nat.le_refl, List.length_map, List.length_append, List.length_cons, List.length_nil, List.length_take, List.length_drop, List.length_replicate, Int.toNat_natCast, List.append_nil, hb5] <;> omega) | fail)) | refine fun h => ?_ | fail); all_goals (try (conv => whnf))
  · refine ⟨i + 1, ⟨by omega, by omega⟩, ?_⟩
    rw [puts_step (by omega)]
    exact (Forget.mk' ⟨⟨rfl, rfl⟩, ⟨rfl, rfl⟩, ⟨rfl, rfl⟩, trivial⟩ ⟨⟨rfl, rfl, rfl⟩, trivial⟩ rfl rfl)
  · rfl
theorem put_con (t : List ByteArray) : Has Try.prog 11 [CV.d (D.sl 1 (t.map D.str))] (fun rs _ => rs = if rightS t then [CV.own 5 1 ((putB t).map byteD), CV.d (D.int .i64 0)] else [CV.own 5 1 (([]).map byteD), CV.d (D.int .i64 1)] ) := by
  have hb5 : Try.prog.bytesOf 5 = 1 := by kernel_rfl
  refine Has_of_run (fn := Try.f11) (M := M0) fol (by kernel_rfl) 7 noPlan [.own] [] (by kernel_rfl) (Nat.le_of_ble_eq_true rfl) ?_
  repeat' ((conv => whnf); first | (refine And.intro (fun h => ?_) (fun h => ?_) <;> (try simp only [toNat_pred, toNat_succ, toNat_addn, toNat_subn, decide_eq_true_eq, decide_eq_false_iff_not, Bool.not_eq_true', Bool.not_eq_false', List.length_map, Int.toNat_natCast, Int.not_lt, Int.not_le, Bool.not_eq_true, Bool.false_eq_true, Bool.true_eq_false, Bool.not_true, Bool.not_false, reduceCtorEq, beq_iff_eq, Bool.not_eq_eq_eq_not, bne_iff_ne, ne_eq, decide_not, Decidable.not_not, Classical.not_not] at h)) | refine And.intro rfl ?_ | refine And.intro (Or.inr rfl) ?_ | refine And.intro (Nat.le_of_ble_eq_true rfl) ?_ | refine And.intro ⟨rfl, rfl⟩ ?_ | refine And.intro ⟨rfl, rfl, trivial⟩ ?_ | refine And.intro (Int.natCast_nonneg _) ?_ | refine Or.inl (And.intro rfl (And.intro rfl (And.intro rfl (And.intro rfl ?_)))) | refine Or.inl (And.intro rfl (And.intro rfl ?_)) | refine Or.inr (And.intro (Nat.le_of_ble_eq_true rfl) ?_) | refine Or.inl (And.intro (by unfold in64; omega) ?_) | refine And.intro (by first | omega | (simp only [dlen, true_and, and_true, Nat.le_refl, List.length_map, List.length_append, List.length_cons, List.length_nil, List.length_take, List.length_drop, List.length_replicate, Int.toNat_natCast, List.append_nil, hb5] <;> omega) | fail) ?_ | refine And.intro (allU8_bytes _) ?_ | refine And.intro (show elemsP _ _ _ by repeat' (first | exact rfl | exact trivial | constructor)) ?_ | (refine (right_con _).mono fun rs bs hr => ?_; subst hr) | (refine Loops.by (M := M0) 7 noPlan fol (by kernel_rfl) (ι := Nat) (fun i => ⟨[(4, AV.ref [4] 16 1 0 ((UInt8.ofNat t.length :: (t.take i).flatMap putF).map byteD).length), (14, AV.d (D.sl 1 (t.map D.str))), (15, AV.d (D.int .i64 t.length)), (16, AV.d (D.int .i64 i))], [([4], 16, AO.row 5 1 ((UInt8.ofNat t.length :: (t.take i).flatMap putF).map byteD))], 17⟩) (fun i => i ≤ t.length) (fun i => t.length - i) (fun i hI => ?_) (0) (Nat.zero_le _) (Forget.mk' ⟨⟨rfl, rfl⟩, ⟨rfl, rfl⟩, ⟨rfl, rfl⟩, ⟨rfl, rfl⟩, trivial⟩ ⟨⟨rfl, rfl, rfl⟩, trivial⟩ rfl rfl); have hu := puts_upto (right_size ‹_›) i; have h255 := (right_at ‹_›).1; have hz : t.length ≤ i ∨ (t.getD i default).size ≤ 8 := (Nat.lt_or_ge i t.length).elim (fun h => .inr (right_size ‹_› _ (getD_mem h))) .inl) | (refine fun x hx => ?_; (try simp (disch := omega) only [if_true, if_false, Bool.false_eq_true, min_nn, max_nn, min_ln, min_nl, max_ln, max_nl, getD_map, str_of_bytes, take_bytes, take_data, wrap_u64, wrap_u32, shr_i64, shr_u64, shr_u32, shl_i64, shl_u64, Int.reduceToNat, Int.reducePow, Int.pow_succ, Int.pow_zero, Int.one_mul, Int.reduceMul, wrap_id, wrap_u8_nat, wrap_i64_u8, byteD_mk, map_snoc, map_app, set_map, take_map', drop_map', Nat.sub_zero, List.length_map, List.length_append, List.length_cons, List.length_nil, Int.toNat_natCast, List.drop_zero, List.take_succ_cons, List.take_zero, List.take_length, List.nil_append, List.append_nil, Nat.zero_add, toNat_pred, toNat_succ, toNat_addn, toNat_subn] at hx); subst hx) | rw [List.take_length] | (rw [List.take_of_length_le]; rotate_left; (first | omega | (simp only [dlen, true_and, and_true, Nat.le_refl, List.length_map, List.length_append, List.length_cons, List.length_nil, List.length_take, List.length_drop, List.length_replicate, Int.toNat_natCast, List.append_nil, hb5] <;> omega) | fail)) | refine fun h => ?_ | fail); all_goals (try (conv => whnf))
  · rw [if_neg (by simp_all)]
    rfl
  · refine ⟨i + 1, ⟨by omega, by omega⟩, ?_⟩
    rw [puts_step (by omega)]
    exact (Forget.mk' ⟨⟨rfl, rfl⟩, ⟨rfl, rfl⟩, ⟨rfl, rfl⟩, ⟨rfl, rfl⟩, trivial⟩ ⟨⟨rfl, rfl, rfl⟩, trivial⟩ rfl rfl)
  · rw [if_pos (by assumption)]
    rfl
def pl13 : Nat → Plan
  | 6 => tks 0 [0, 0, 0] (.tak 3 .rd [4, 5, 6, 7, 8, 9, 10, 11, 12, 13, 14, 15, 16, 17, 18, 19, 20, 21, 22, 23, 24, 25, 26, 27, 28, 29, 30] (tks 4 [0, 0, 0, 0, 0, 0] (.tak 10 .rd [11, 12, 13, 14, 15, 16, 17, 18, 19, 20, 21, 22, 23, 24, 25, 26, 27, 28, 29, 30] (tks 11 [0, 0, 0, 0, 0, 0, 0, 0, 0, 0, 0, 1, 0, 0, 0, 1] (.one 27 (tks 28 [0, 0, 0] (.done)))))))
  | _ => .done
theorem rightRef_con (t : List ByteArray) : Has Try.prog 13 [CV.d (D.sl 1 (t.map D.str))] (fun rs _ => rs = [CV.d (D.bool (rightS t))]) := by
  refine Has_of_run (fn := Try.f13) (M := M0) fol (by kernel_rfl) 4 pl13 [] [] (by kernel_rfl) (Nat.le_of_ble_eq_true rfl) ?_
  repeat' ((conv => whnf); first | (refine And.intro (fun h => ?_) (fun h => ?_) <;> (try simp only [toNat_pred, toNat_succ, toNat_addn, toNat_subn, decide_eq_true_eq, decide_eq_false_iff_not, Bool.not_eq_true', Bool.not_eq_false', List.length_map, Int.toNat_natCast, Int.not_lt, Int.not_le, Bool.not_eq_true, Bool.false_eq_true, Bool.true_eq_false, Bool.not_true, Bool.not_false, reduceCtorEq, beq_iff_eq, Bool.not_eq_eq_eq_not, bne_iff_ne, ne_eq, decide_not, Decidable.not_not, Classical.not_not] at h)) | refine And.intro rfl ?_ | refine And.intro (Or.inr rfl) ?_ | refine And.intro (Nat.le_of_ble_eq_true rfl) ?_ | refine And.intro ⟨rfl, rfl⟩ ?_ | refine And.intro ⟨rfl, rfl, trivial⟩ ?_ | refine And.intro (Int.natCast_nonneg _) ?_ | refine Or.inl (And.intro rfl (And.intro rfl (And.intro rfl (And.intro rfl ?_)))) | refine Or.inl (And.intro rfl (And.intro rfl ?_)) | refine Or.inr (And.intro (Nat.le_of_ble_eq_true rfl) ?_) | refine Or.inl (And.intro (by unfold in64; omega) ?_) | refine And.intro (by first | omega | (simp only [dlen, true_and, and_true, Nat.le_refl, List.length_map, List.length_append, List.length_cons, List.length_nil, List.length_take, List.length_drop, List.length_replicate, Int.toNat_natCast, List.append_nil] <;> omega) | fail) ?_ | refine And.intro (allU8_bytes _) ?_ | refine And.intro (show elemsP _ _ _ by repeat' (first | exact rfl | exact trivial | constructor)) ?_ | (refine (compare_con _ _ (by omega) (by omega)).mono fun rs bs hr => ?_; subst hr) | (refine Loops.by (M := M0) 4 pl13 fol (by kernel_rfl) (ι := Nat) (fun i => ⟨[(0, AV.d (D.sl 1 (t.map D.str))), (3, AV.d (D.int .i64 i))], [], 16⟩) (fun i => i ≤ t.length ∧ ∀ j, j < i → okAt t j = true) (fun i => t.length - i) (fun i hI => ?_) (0) ⟨Nat.zero_le _, fun j h => absurd h (Nat.not_lt_zero _)⟩ (Forget.mk' ⟨⟨rfl, rfl⟩, ⟨rfl, rfl⟩, trivial⟩ trivial rfl rfl); obtain ⟨hi, hok⟩ := hI; have hz : i = 0 ∨ (t.getD (i - 1) default).size ≤ 8 := right_prev hok) | (refine fun x hx => ?_; (try simp (disch := omega) only [if_true, if_false, Bool.false_eq_true, min_nn, max_nn, min_ln, min_nl, max_ln, max_nl, getD_map, str_of_bytes, take_bytes, take_data, wrap_u64, wrap_u32, shr_i64, shr_u64, shr_u32, shl_i64, shl_u64, Int.reduceToNat, Int.reducePow, Int.pow_succ, Int.pow_zero, Int.one_mul, Int.reduceMul, wrap_id, wrap_u8_nat, wrap_i64_u8, byteD_mk, map_snoc, map_app, set_map, take_map', drop_map', Nat.sub_zero, List.length_map, List.length_append, List.length_cons, List.length_nil, Int.toNat_natCast, List.drop_zero, List.take_succ_cons, List.take_zero, List.take_length, List.nil_append, List.append_nil, Nat.zero_add, toNat_pred, toNat_succ, toNat_addn, toNat_subn] at hx); subst hx) | rw [List.take_length] | (rw [List.take_of_length_le]; rotate_left; (first | omega | (simp only [dlen, true_and, and_true, Nat.le_refl, List.length_map, List.length_append, List.length_cons, List.length_nil, List.length_take, List.length_drop, List.length_replicate, Int.toNat_natCast, List.append_nil] <;> omega) | fail)) | refine fun h => ?_ | fail); all_goals (try (conv => whnf))
  · exact rb (right_long (by omega)).symm
  · exact rb (right_bad (i := i) (by omega) (okAt_no (.inr (.inr ⟨by omega, cmp_ge (by assumption)⟩)))).symm
  · exact ⟨i + 1, ⟨⟨by omega, upto_succ hok (okAt_ok (by omega) (by omega) (.inr (cmp_lt (by assumption))))⟩, by omega⟩, (Forget.mk' ⟨⟨rfl, rfl⟩, ⟨rfl, rfl⟩, trivial⟩ trivial rfl rfl)⟩
  · exact ⟨i + 1, ⟨⟨by omega, upto_succ hok (okAt_ok (by omega) (by omega) (.inl (by omega)))⟩, by omega⟩, (Forget.mk' ⟨⟨rfl, rfl⟩, ⟨rfl, rfl⟩, trivial⟩ trivial rfl rfl)⟩
  · exact rb (right_bad (i := i) (by omega) (okAt_no (.inr (.inl (by omega))))).symm
  · exact rb (right_bad (i := i) (by omega) (okAt_no (.inl (by omega)))).symm
  · exact rb (right_good (by omega) (fun j hj => hok j (by omega))).symm
end Go.Fw
