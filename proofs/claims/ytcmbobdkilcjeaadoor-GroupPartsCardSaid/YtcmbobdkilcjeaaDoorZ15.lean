/- What the proofs of this seat lean on, part 15: a symbolic machine that is shown sound, walks through functions, plain laws. -/
import Derived.Test.YtcmbobdkilcjeaaDoorZ14
import Derived.Test.YtcmbobdkilcjeaaDoorRows
import Derived.KernelRfl
namespace Go.Fw
open Go Go.Proofs
theorem fol : Tryd.prog.follows .mixedOrders = true := by kernel_rfl
def noPlan : Nat → Plan := fun _ => .done
def M0 : FuncId → List Mode := fun _ => []
end Go.Fw
namespace Go.Fw
open Go
set_option linter.unusedVariables false
theorem less_at : ∀ (i : Nat) (l m : List UInt8), (∀ j, j < i → l.getD j 0 = m.getD j 0) → i < l.length → i < m.length → (l.getD i 0).toNat < (m.getD i 0).toNat → Op.bytesLess l m = true ∧ Op.bytesLess m l = false
  | 0, a :: x, b :: y, _, _, _, h => by
    simp only [List.getD_cons_zero] at h
    have h1 : a < b := UInt8.lt_iff_toNat_lt.2 h
    have h2 : ¬ b < a := fun h2 => by have := UInt8.lt_iff_toNat_lt.1 h2; omega
    have h3 : (b == a) = false := by
      refine beq_eq_false_iff_ne.2 fun e => ?_
      subst e
      omega
    simp [Op.bytesLess, h1, h2, h3]
  | i + 1, a :: x, b :: y, he, hl, hm, h => by
    have e : a = b := by simpa using he 0 (Nat.succ_pos i)
    subst e
    have ih := less_at i x y (fun j hj => by simpa using he (j + 1) (by omega)) (by simpa using hl) (by simpa using hm) (by simpa using h)
    have h2 : ¬ a < a := fun h2 => by have := UInt8.lt_iff_toNat_lt.1 h2; omega
    simp [Op.bytesLess, h2, ih.1, ih.2]
  | _, [], _, _, hl, _, _ => by simp at hl
  | _, _, [], _, _, hm, _ => by simp at hm
theorem less_end : ∀ (l m : List UInt8), (∀ j, j < l.length → l.getD j 0 = m.getD j 0) → l.length ≤ m.length → Op.bytesLess l m = decide (l.length < m.length) ∧ Op.bytesLess m l = false
  | [], [], _, _ => by simp [Op.bytesLess]
  | [], b :: y, _, _ => by simp [Op.bytesLess]
  | a :: x, [], _, h => by simp at h
  | a :: x, b :: y, he, h => by
    have e : a = b := by simpa using he 0 (by simp)
    subst e
    have ih := less_end x y (fun j hj => by simpa using he (j + 1) (by simpa using hj)) (by simpa using h)
    have h2 : ¬ a < a := fun h2 => by have := UInt8.lt_iff_toNat_lt.1 h2; omega
    simp [Op.bytesLess, h2, ih.1, ih.2]
theorem bAt_eq {a b : ByteArray} {j : Nat} (h : bAt a j = bAt b j) : a.data.toList.getD j 0 = b.data.toList.getD j 0 := by
  simp only [bAt] at h
  have := Int.ofNat.inj h
  exact UInt8.toNat_inj.1 this
theorem slt_at {a b : ByteArray} {i : Nat} (he : ∀ j, j < i → bAt a j = bAt b j) (ha : i < a.size) (hb : i < b.size) (h : bAt a i < bAt b i) : slt a b = true ∧ slt b a = false := by
  refine less_at i a.data.toList b.data.toList (fun j hj => bAt_eq (he j hj)) ha hb ?_
  simp only [bAt] at h
  omega
theorem slt_end {a b : ByteArray} (he : ∀ j, j < a.size → bAt a j = bAt b j) (h : a.size ≤ b.size) : slt a b = decide (a.size < b.size) ∧ slt b a = false :=
  less_end a.data.toList b.data.toList (fun j hj => bAt_eq (he j hj)) h
 
def cmpS (a b : ByteArray) : Int := if slt a b then -1 else if slt b a then 1 else 0
theorem cmp_at {a b : ByteArray} {i : Nat} (he : ∀ j, j < i → bAt a j = bAt b j) (ha : i < a.size) (hb : i < b.size) (h : bAt a i < bAt b i) : cmpS a b = -1 ∧ cmpS b a = 1 := by
  obtain ⟨e1, e2⟩ := slt_at he ha hb h
  simp [cmpS, e1, e2]
theorem cmp_end {a b : ByteArray} {i : Nat} (he : ∀ j, j < i → bAt a j = bAt b j) (hi : a.size ≤ i ∨ b.size ≤ i) : cmpS a b = if a.size < b.size then -1 else if b.size < a.size then 1 else 0 := by
  rcases hi with h | h
  · by_cases hab : a.size ≤ b.size
    · obtain ⟨e1, e2⟩ := slt_end (a := a) (b := b) (fun j hj => he j (by omega)) hab
      simp only [cmpS, e1, e2, decide_eq_true_eq, Bool.false_eq_true, if_false]
      rw [if_neg (show ¬ b.size < a.size by omega)]
    · obtain ⟨e1, e2⟩ := slt_end (a := b) (b := a) (fun j hj => (he j (by omega)).symm) (by omega)
      simp only [cmpS, e1, e2, decide_eq_true_eq, Bool.false_eq_true, if_false]
      rw [if_neg (show ¬ a.size < b.size by omega)]
  · by_cases hab : b.size ≤ a.size
    · obtain ⟨e1, e2⟩ := slt_end (a := b) (b := a) (fun j hj => (he j (by omega)).symm) hab
      simp only [cmpS, e1, e2, decide_eq_true_eq, Bool.false_eq_true, if_false]
      rw [if_neg (show ¬ a.size < b.size by omega)]
    · obtain ⟨e1, e2⟩ := slt_end (a := a) (b := b) (fun j hj => he j (by omega)) (by omega)
      simp only [cmpS, e1, e2, decide_eq_true_eq, Bool.false_eq_true, if_false]
      rw [if_neg (show ¬ b.size < a.size by omega)]
theorem less_trans : ∀ (a b c : List UInt8), Op.bytesLess a b = true → Op.bytesLess b c = true → Op.bytesLess a c = true
  | [], _, [], _, h2 => by cases ‹List UInt8› <;> simp [Op.bytesLess] at h2
  | [], _, _ :: _, _, _ => by simp [Op.bytesLess]
  | _ :: _, [], _, h1, _ => by simp [Op.bytesLess] at h1
  | _ :: _, _ :: _, [], _, h2 => by simp [Op.bytesLess] at h2
  | x :: a, y :: b, z :: c, h1, h2 => by
    simp only [Op.bytesLess, Bool.or_eq_true, Bool.and_eq_true, decide_eq_true_eq, beq_iff_eq] at h1 h2 ⊢
    rcases h1 with h1 | ⟨rfl, h1⟩
    · rcases h2 with h2 | ⟨rfl, h2⟩
      · exact .inl (UInt8.lt_trans h1 h2)
      · exact .inl h1
    · rcases h2 with h2 | ⟨rfl, h2⟩
      · exact .inl h2
      · exact .inr ⟨rfl, less_trans a b c h1 h2⟩
theorem less_irrefl : ∀ a : List UInt8, Op.bytesLess a a = false
  | [] => by simp [Op.bytesLess]
  | x :: a => by simp [Op.bytesLess, less_irrefl a, UInt8.lt_irrefl]
theorem less_total : ∀ (a b : List UInt8), Op.bytesLess a b = false → Op.bytesLess b a = false → a = b
  | [], [], _, _ => rfl
  | [], _ :: _, h, _ => by simp [Op.bytesLess] at h
  | _ :: _, [], _, h => by simp [Op.bytesLess] at h
  | x :: a, y :: b, h1, h2 => by
    simp only [Op.bytesLess, Bool.or_eq_false_iff, Bool.and_eq_false_iff, decide_eq_false_iff_not, beq_eq_false_iff_ne, UInt8.not_lt] at h1 h2
    have e : x = y := UInt8.le_antisymm h2.1 h1.1
    subst e
    simp at h1 h2
    rw [less_total a b h1 h2]
theorem slt_trans {a b c : ByteArray} (h1 : slt a b = true) (h2 : slt b c = true) : slt a c = true := less_trans _ _ _ h1 h2
theorem slt_irrefl (a : ByteArray) : slt a a = false := less_irrefl _
theorem slt_asymm {a b : ByteArray} (h : slt a b = true) : slt b a = false := by
  refine Bool.eq_false_iff.2 fun h2 => ?_
  have := slt_trans h h2
  rw [slt_irrefl] at this
  cases this
theorem bytes_inj {a b : ByteArray} (h : a.data.toList = b.data.toList) : a = b := by
  cases a; cases b
  simp only [ByteArray.mk.injEq]
  exact Array.ext' h
theorem slt_total {a b : ByteArray} (h1 : slt a b = false) (h2 : slt b a = false) : a = b := bytes_inj (less_total _ _ h1 h2)
theorem strB_inj {a b : List UInt8} : strB a = strB b ↔ a = b := by
  simp only [strB]
  constructor
  · intro h; simpa using h
  · intro h; rw [h]
theorem mk_inj {a b : List UInt8} : ((⟨a.toArray⟩ : ByteArray) = ⟨b.toArray⟩) ↔ a = b := by
  constructor
  · intro h; simpa using h
  · intro h; rw [h]
theorem ext_getD {α : Type} [Inhabited α] {a b : List α} (hl : a.length = b.length) (h : ∀ j, j < a.length → a.getD j default = b.getD j default) : a = b :=
  List.ext_getElem hl fun k hk hk' => by
    have := h k hk
    simpa only [List.getD_eq_getElem?_getD, List.getElem?_eq_getElem hk, List.getElem?_eq_getElem hk', Option.getD_some] using this
end Go.Fw
namespace Go.Fw
open Go
set_option linter.unusedVariables false
set_option linter.unusedSimpArgs false
theorem upto_succ {p : Nat → Prop} {i : Nat} (h : ∀ j, j < i → p j) (hi : p i) : ∀ j, j < i + 1 → p j := fun j hj => by
  by_cases e : j = i
  · exact e ▸ hi
  · exact h j (by omega)
def mayD (s : ByteArray) : Bool := decide (1 ≤ s.size) && decide (s.size ≤ 8)
def okAt (t : List ByteArray) (i : Nat) : Bool := mayD (t.getD i default) && (decide (i = 0) || slt (t.getD (i - 1) default) (t.getD i default))
def rightS (t : List ByteArray) : Bool := decide (t.length ≤ 255) && (List.range t.length).all (okAt t)
theorem right_bad {t : List ByteArray} {i : Nat} (hi : i < t.length) (h : okAt t i = false) : rightS t = false := by
  have : (List.range t.length).all (okAt t) = false := by
    refine Bool.eq_false_iff.2 fun h1 => ?_
    rw [List.all_eq_true.1 h1 i (List.mem_range.2 hi)] at h
    cases h
  simp only [rightS, this, Bool.and_false]
theorem right_good {t : List ByteArray} (hl : t.length ≤ 255) (h : ∀ j, j < t.length → okAt t j = true) : rightS t = true := by
  have hall : (List.range t.length).all (okAt t) = true := List.all_eq_true.2 fun j hj => h j (List.mem_range.1 hj)
  simp only [rightS, hall, decide_eq_true hl, Bool.true_and]
theorem right_long {t : List ByteArray} (hl : 255 < t.length) : rightS t = false := by
  have : ¬ t.length ≤ 255 := by omega
  simp only [rightS, decide_eq_false this, Bool.false_and]
theorem right_at {t : List ByteArray} (h : rightS t = true) : t.length ≤ 255 ∧ ∀ j, j < t.length → okAt t j = true := by
  simp only [rightS, Bool.and_eq_true, decide_eq_true_eq, List.all_eq_true, List.mem_range] at h
  exact h
theorem right_size {t : List ByteArray} (h : rightS t = true) : ∀ s ∈ t, s.size ≤ 8 := fun s hs => by
  obtain ⟨k, hk, rfl⟩ := List.mem_iff_getElem.1 hs
  have := (right_at h).2 k hk
  simp [okAt, mayD, List.getD_eq_getElem?_getD, hk] at this
  omega
def fewS (l : List ByteArray) : Bool := decide (l.length ≤ 300) && decide (∀ j, j < l.length → (l.getD j default).size ≤ 1000)
theorem getD_mem {α : Type} [Inhabited α] {t : List α} {i : Nat} (h : i < t.length) : t.getD i default ∈ t := by
  rw [List.getD_eq_getElem?_getD, List.getElem?_eq_getElem h]; exact List.getElem_mem h
theorem take_snoc {α : Type} [Inhabited α] {t : List α} {i : Nat} (h : i < t.length) : t.take (i + 1) = t.take i ++ [t.getD i default] := by
  rw [List.take_add_one]; simp [List.getD_eq_getElem?_getD, h]
theorem filter_upto {α : Type} (p : α → Bool) (l : List α) (i : Nat) : ((l.take i).filter p).length ≤ l.length := by
  have h1 := List.length_filter_le p (l.take i)
  have h2 : (l.take i).length ≤ l.length := by simp; omega
  omega
theorem filter_yes {α : Type} [Inhabited α] {p : α → Bool} {l : List α} {i : Nat} (h : i < l.length) (hp : p (l.getD i default) = true) : (l.take (i + 1)).filter p = (l.take i).filter p ++ [l.getD i default] := by
  rw [take_snoc h, List.filter_append]; simp only [List.filter_cons, hp, if_true, List.filter_nil]
theorem filter_no {α : Type} [Inhabited α] {p : α → Bool} {l : List α} {i : Nat} (h : i < l.length) (hp : p (l.getD i default) = false) : (l.take (i + 1)).filter p = (l.take i).filter p := by
  rw [take_snoc h, List.filter_append]; simp only [List.filter_cons, hp, Bool.false_eq_true, if_false, List.filter_nil, List.append_nil]
def putF (s : ByteArray) : List UInt8 := UInt8.ofNat s.size :: s.data.toList
def putB (t : List ByteArray) : List UInt8 := UInt8.ofNat t.length :: t.flatMap putF
theorem dlen (s : ByteArray) : s.data.toList.length = s.size := rfl
theorem putF_len {s : ByteArray} (h : s.size ≤ 8) : (putF s).length ≤ 9 := by
  simp only [putF, List.length_cons, dlen]
  omega
theorem puts_len : ∀ {l : List ByteArray}, (∀ s ∈ l, s.size ≤ 8) → (l.flatMap putF).length ≤ 9 * l.length
  | [], _ => by simp
  | s :: r, h => by
    have h1 := putF_len (h s (by simp))
    have h2 := puts_len (l := r) (fun x hx => h x (by simp [hx]))
    simp only [List.flatMap_cons, List.length_append, List.length_cons]
    omega
theorem puts_upto {t : List ByteArray} (h : ∀ s ∈ t, s.size ≤ 8) (i : Nat) : ((t.take i).flatMap putF).length ≤ 9 * t.length := by
  have := puts_len (l := t.take i) (fun s hs => h s (List.mem_of_mem_take hs))
  have : (t.take i).length ≤ t.length := by simp; omega
  omega
theorem puts_step {t : List ByteArray} {i : Nat} (h : i < t.length) : UInt8.ofNat t.length :: (t.take (i + 1)).flatMap putF = UInt8.ofNat t.length :: (t.take i).flatMap putF ++ [UInt8.ofNat (t.getD i default).size] ++ (t.getD i default).data.toList := by
  rw [take_snoc h, List.flatMap_append]
  simp [putF]
theorem right_prev {t : List ByteArray} {i : Nat} (h : ∀ j, j < i → okAt t j = true) : i = 0 ∨ (t.getD (i - 1) default).size ≤ 8 := by
  by_cases e : i = 0
  · exact .inl e
  · have := h (i - 1) (by omega)
    simp only [okAt, mayD, Bool.and_eq_true, decide_eq_true_eq] at this
    exact .inr this.1.2
theorem okAt_ok {t : List ByteArray} {i : Nat} (h1 : 1 ≤ (t.getD i default).size) (h8 : (t.getD i default).size ≤ 8) (hs : i = 0 ∨ slt (t.getD (i - 1) default) (t.getD i default) = true) : okAt t i = true := by
  simp only [okAt, mayD, Bool.and_eq_true, Bool.or_eq_true, decide_eq_true_eq]
  exact ⟨⟨h1, h8⟩, hs⟩
theorem okAt_no {t : List ByteArray} {i : Nat} (h : (t.getD i default).size < 1 ∨ 8 < (t.getD i default).size ∨ (i ≠ 0 ∧ slt (t.getD (i - 1) default) (t.getD i default) = false)) : okAt t i = false := by
  refine Bool.eq_false_iff.2 fun hk => ?_
  simp only [okAt, mayD, Bool.and_eq_true, Bool.or_eq_true, decide_eq_true_eq] at hk
  rcases h with h | h | h
  · omega
  · omega
  · rw [h.2] at hk
    simp [h.1] at hk
theorem cmp_ge {a b : ByteArray} (h : 0 ≤ cmpS a b) : slt a b = false := by
  refine Bool.eq_false_iff.2 fun h1 => ?_
  simp only [cmpS, h1, if_true] at h
  omega
theorem cmp_lt {a b : ByteArray} (h : cmpS a b < 0) : slt a b = true := by
  refine (Bool.eq_false_or_eq_true _).resolve_right fun h1 => ?_
  simp only [cmpS, h1, Bool.false_eq_true, if_false] at h
  split at h <;> omega
def Rises (t : List ByteArray) : Prop := ∀ a b, a < b → b < t.length → slt (t.getD a default) (t.getD b default) = true
theorem half_nat (lo hi : Nat) : (((lo : Int) + (hi : Int)) / 2).toNat = (lo + hi) / 2 := by omega
 
def NoBeg (t : List ByteArray) (x : ByteArray) (m : Nat) : Prop := ∀ k, k < t.length → ¬ t.getD k default = x.extract 0 m
 
def Found (t : List ByteArray) (x : ByteArray) (rs : List CV) : Prop :=
  (∃ i n : Nat, rs = [.d (.int .i64 i), .d (.int .i64 n)] ∧ 0 < n ∧ n ≤ 8 ∧ n ≤ x.size ∧ i < t.length ∧ t.getD i default = x.extract 0 n ∧ ∀ m, n < m → m ≤ 8 → m ≤ x.size → NoBeg t x m) ∨
  (rs = [.d (.int .i64 (-1)), .d (.int .i64 0)] ∧ ∀ m, 0 < m → m ≤ 8 → m ≤ x.size → NoBeg t x m)
theorem noBeg_of {t : List ByteArray} {x : ByteArray} {n i : Nat} (hr : Rises t) (hb : ∀ j, j < t.length → (slt (t.getD j default) (x.extract 0 n) = true ↔ j < i)) (hf : ¬ (i < t.length ∧ t.getD i default = x.extract 0 n)) : NoBeg t x n := fun k hk he => by
  have hki : ¬ k < i := fun h => by
    have := (hb k hk).2 h
    rw [he, slt_irrefl] at this
    cases this
  by_cases h : k = i
  · subst h
    exact hf ⟨hk, he⟩
  · have h1 := hr i k (by omega) hk
    rw [he] at h1
    have := (hb i (by omega)).1 h1
    omega
 
theorem half_up {t : List ByteArray} {x : ByteArray} {m : Nat} (hr : Rises t) (hm : m < t.length) (h : slt (t.getD m default) x = true) : ∀ j, j < m + 1 → slt (t.getD j default) x = true := fun j hj => by
  by_cases e : j = m
  · rw [e]; exact h
  · exact slt_trans (hr j m (by omega) hm) h
theorem half_down {t : List ByteArray} {x : ByteArray} {m : Nat} (hr : Rises t) (h : slt (t.getD m default) x = false) : ∀ j, m ≤ j → j < t.length → slt (t.getD j default) x = false := fun j hj hj2 => by
  by_cases e : j = m
  · rw [e]; exact h
  · refine Bool.eq_false_iff.2 fun hjx => ?_
    have := slt_trans (hr m j (by omega) hj2) hjx
    rw [h] at this
    cases this
theorem half_end {t : List ByteArray} {x : ByteArray} {lo hi : Nat} (h : hi ≤ lo) (h3 : ∀ j, j < lo → slt (t.getD j default) x = true) (h4 : ∀ j, hi ≤ j → j < t.length → slt (t.getD j default) x = false) : ∀ j, j < t.length → (slt (t.getD j default) x = true ↔ j < lo) := fun j hj =>
  ⟨fun hs => Nat.lt_of_not_le fun hle => (by
    rw [h4 j (by omega) hj] at hs
    cases hs), fun hs => h3 j hs⟩
theorem putB_len {t : List ByteArray} (h : rightS t = true) : (((putB t).map byteD).length : Int) ≤ 2296 := by
  have h1 := puts_len (right_size h)
  have h2 := (right_at h).1
  simp only [List.length_map, putB, List.length_cons]
  omega
end Go.Fw
namespace Go.Fw
open Go
set_option linter.unusedVariables false
set_option linter.unusedSimpArgs false
inductive Sc where
  | mk (kind col : Int) (s : ByteArray) (fr n : Int) (kids : List Sc)
def Sc.kind : Sc → Int | .mk k _ _ _ _ _ => k
def Sc.col : Sc → Int | .mk _ c _ _ _ _ => c
def Sc.s : Sc → ByteArray | .mk _ _ s _ _ _ => s
def Sc.fr : Sc → Int | .mk _ _ _ f _ _ => f
def Sc.n : Sc → Int | .mk _ _ _ _ n _ => n
def Sc.kids : Sc → List Sc | .mk _ _ _ _ _ l => l
instance : Inhabited Sc := ⟨.mk 0 0 ⟨#[]⟩ 0 0 []⟩
theorem Sc.kids_lt {x y : Sc} (h : y ∈ x.kids) : SizeOf.sizeOf y < SizeOf.sizeOf x := by
  cases x with
  | mk k c s f n l =>
    have := List.sizeOf_lt_of_mem (show y ∈ l from h)
    simp only [Sc.mk.sizeOf_spec]
    omega
mutual
def encSc : Sc → D
  | .mk k c s f n l => .agg [.int .i64 k, .int .i64 c, .str s, .int .i64 f, .int .i64 n, .sl 6 (encScs l)]
def encScs : List Sc → List D
  | [] => []
  | x :: r => encSc x :: encScs r
end
theorem encScs_map : ∀ l : List Sc, encScs l = l.map encSc
  | [] => rfl
  | x :: r => by rw [encScs, encScs_map r]; rfl
theorem encSc_eq (x : Sc) : encSc x = .agg [.int .i64 x.kind, .int .i64 x.col, .str x.s, .int .i64 x.fr, .int .i64 x.n, .sl 6 (x.kids.map encSc)] := by
  cases x with
  | mk k c s f n l => rw [encSc, encScs_map]; rfl
theorem emp_iff {s : ByteArray} : s = ⟨#[]⟩ ↔ s.size = 0 := by
  constructor
  · rintro rfl; rfl
  · intro h
    have h' : s.data.size = 0 := h
    cases s with
    | mk d =>
      have e : d = #[] := Array.eq_empty_of_size_eq_zero h'
      rw [e]
 
def Odd (x : Sc) : Prop := (x.kind ≠ 1 ∧ x.col ≠ 0) ∨ (x.kind ≠ 2 ∧ x.s.size ≠ 0) ∨ (x.kind ≠ 6 ∧ (x.fr ≠ 0 ∨ x.n ≠ 0))
instance (x : Sc) : Decidable (Odd x) := by unfold Odd; infer_instance
def ShapeP (x : Sc) (cols : Int) : Prop := ¬ Odd x ∧ ((x.kind = 1 ∧ x.kids.length = 0 ∧ 0 ≤ x.col ∧ x.col < cols) ∨ (x.kind = 2 ∧ x.kids.length = 0 ∧ x.s.size ≤ 4096) ∨ (x.kind = 3 ∧ x.kids.length = 0) ∨
  (x.kind = 6 ∧ x.kids.length = 1 ∧ 0 ≤ x.fr ∧ 0 ≤ x.n) ∨ ((x.kind = 4 ∨ x.kind = 7) ∧ x.kids.length = 1) ∨ ((x.kind = 5 ∨ x.kind = 8) ∧ 1 ≤ x.kids.length ∧ x.kids.length ≤ 8))
instance (x : Sc) (cols : Int) : Decidable (ShapeP x cols) := by unfold ShapeP; infer_instance
theorem any_at {α : Type} [Inhabited α] {l : List α} {p : α → Bool} {i : Nat} (h : i < l.length) (hp : p (l.getD i default) = true) : l.any p = true :=
  List.any_eq_true.2 ⟨_, getD_mem h, hp⟩
theorem any_none {α : Type} [Inhabited α] {l : List α} {p : α → Bool} (h : ∀ j, j < l.length → p (l.getD j default) = false) : l.any p = false := by
  refine List.any_eq_false.2 fun x hx => ?_
  obtain ⟨k, hk, rfl⟩ := List.mem_iff_getElem.1 hx
  have := h k hk
  simpa [List.getD_eq_getElem?_getD, hk] using this
 
def rightD : Nat → Sc → Int → Bool
  | 0, _, _ => false
  | d + 1, x, c => decide (ShapeP x c) && x.kids.all fun k => rightD d k c
theorem rightD_false {d : Nat} {x : Sc} {c : Int} (h : ¬ (0 < d ∧ ShapeP x c)) : rightD d x c = false := by
  cases d with
  | zero => rfl
  | succ d => rw [rightD, decide_eq_false (fun hs => h ⟨Nat.succ_pos _, hs⟩)]; rfl
theorem rightD_kid {d : Nat} {x : Sc} {c : Int} {i : Nat} (h : i < x.kids.length) (hk : rightD (d - 1) (x.kids.getD i default) c = false) : rightD d x c = false := by
  cases d with
  | zero => rfl
  | succ d =>
    rw [rightD, Bool.and_eq_false_iff]
    exact .inr (List.all_eq_false.2 ⟨_, getD_mem h, by simpa using hk⟩)
theorem rightD_true {d : Nat} {x : Sc} {c : Int} (hd : 0 < d) (hs : ShapeP x c) (hk : ∀ j, j < x.kids.length → rightD (d - 1) (x.kids.getD j default) c = true) : rightD d x c = true := by
  cases d with
  | zero => exact absurd hd (Nat.lt_irrefl _)
  | succ d =>
    rw [rightD, decide_eq_true hs, Bool.true_and, List.all_eq_true]
    intro k hm
    obtain ⟨j, hj, rfl⟩ := List.mem_iff_getElem.1 hm
    have := hk j hj
    simpa [List.getD_eq_getElem?_getD, hj] using this
theorem not_any_not {α : Type} (l : List α) (f : α → Bool) : (!l.any fun k => !f k) = l.all f := by
  induction l with
  | nil => rfl
  | cons x r ih => simp only [List.any_cons, List.all_cons, Bool.not_or, Bool.not_not, ih]
theorem rightD_any {d : Nat} {x : Sc} {c : Int} (hd : 0 < d) (hs : ShapeP x c) : (!x.kids.any fun k => !rightD (d - 1) k c) = rightD d x c := by
  cases d with
  | zero => exact absurd hd (Nat.lt_irrefl _)
  | succ d => rw [rightD, decide_eq_true hs, Bool.true_and, ← not_any_not]; rfl
end Go.Fw
