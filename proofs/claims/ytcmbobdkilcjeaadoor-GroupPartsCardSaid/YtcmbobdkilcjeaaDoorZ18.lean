/- What the proofs of this seat lean on, part 18: a symbolic machine that is shown sound, walks through functions, plain laws. -/
import Derived.Test.YtcmbobdkilcjeaaDoorZ17
import Derived.Shelf.Slices.CompactS
import Derived.Lib.RowBridge
import Derived.Test.YtcmbobdkilcjeaaDoorZ15
import Derived.Test.YtcmbobdkilcjeaaDoorZ16
import Derived.Test.YtcmbobdkilcjeaaDoorZ14
namespace Go.Fw
open Go Go.Sort Go.RowKit Go.Proofs
set_option linter.unusedVariables false
set_option linter.unusedSimpArgs false
 
def compactS (ss : List ByteArray) : List ByteArray := (Lib.compact (ss.map bytesOf)).map unB
theorem compactS_len (ss : List ByteArray) : (compactS ss).length = (Lib.compact (ss.map bytesOf)).length := by simp [compactS]
theorem compactS_cells (ss : List ByteArray) : (Lib.compact (ss.map bytesOf)).map encStr = (compactS ss).map Value.string := by
  simp only [compactS, List.map_map]
  rfl
theorem compact_has {P : Program} {g : FuncId} {fn : Func} (hfn : P.funcs[g]? = some fn) (hname : (fn.name == "runtime.NumGoroutine") = false) (hb : fn.body.isSome = true)
    (hS : ∀ (blk off cap : Nat) (zs : List (List UInt8)) (w : World), Holds encStr w blk off zs.toArray → zs.length ≤ 9223372036854775807 → zs.length ≤ cap →
      Calls P g #[.slice (some ⟨blk, off, none⟩) zs.length cap] w fun e w' => e = .returned (.slice (some ⟨blk, off, none⟩) (Lib.compact zs).length cap) ∧ ∃ q, w' = putRow encStr (Sort.ahead w q) blk off (Lib.compact zs ++ List.replicate (zs.length - (Lib.compact zs).length) []).toArray)
    (hN : ∀ (a : Option Addr) (cap : Nat) (w : World), Calls P g #[.slice a 0 cap] w fun e w' => e = .returned (.slice a 0 cap) ∧ w' = w)
    (e : Nat) (ss : List ByteArray) :
    Has P g [.own e 1 (ss.map D.str)] (fun rs bs => rs = [.own e 1 ((compactS ss).map D.str)] ∧ bs = [.gone]) := by
  constructor
  intro F w vs fp hc hn hs hF
  simp only [CRl, CR] at hc
  obtain ⟨v, vs', f1, f2, rfl, hv, ⟨rfl, rfl⟩, rfl⟩ := hc
  rw [List.append_nil] at hn hs
  rcases hv with ⟨rfl, hnil, rfl⟩ | ⟨b, n, cs, fr, rfl, hh, hu, h0, hcs, hln, hm, hd, rfl⟩
  · have hss : ss = [] := by simpa using hnil
    subst hss
    refine enters_of_calls hfn hname hb ((hN none 0 w).mono fun en w' he => ?_)
    obtain ⟨rfl, rfl⟩ := he
    refine ⟨[.own e 1 []], [.gone], F, [.slice none 0 0], [], [], ⟨by simp [compactS, Lib.compact, Lib.compactUpTo], rfl⟩, ⟨by simp [Rv], by simp [CRl, CR], by simp [CRl, CR], by simp, by simp, hF, fun _ h => h, fun _ _ _ => rfl, fun b hb => .inl (by simpa using hb), rfl, rfl, rfl, Nat.le_refl _⟩⟩
  · have hl1 : (ss.map D.str).length = ss.length := by simp
    rw [hl1] at hln hd ⊢
    simp only [Nat.mul_one] at hcs hd
    have hcells := strs_cells hd
    have hlc : ss.length ≤ cs.size := by omega
    have hH := row_holds hh hu hcells hlc
    have hb' : b < w.heap.size := lt_heap hh
    have hl2 : (ss.map bytesOf).length = ss.length := by simp
    have hcl := Lib.compact_length_le (ss.map bytesOf)
    rw [hl2] at hcl
    have hmx : n ≤ 9223372036854775807 := by simpa [maxLen] using hm
    have hcall := hS b 0 n (ss.map bytesOf) w hH (by rw [hl2]; omega) (by rw [hl2]; exact hln)
    rw [hl2] at hcall
    refine enters_of_calls hfn hname hb (hcall.mono fun en w' he => ?_)
    obtain ⟨rfl, q, rfl⟩ := he
    have hlf : (Lib.compact (ss.map bytesOf) ++ List.replicate (ss.length - (Lib.compact (ss.map bytesOf)).length) []).length = ss.length := by simp; omega
    obtain ⟨cs', k1, k2, k3, k4, k5⟩ := row_after (w := w) (b := b) (ss := Lib.compact (ss.map bytesOf) ++ List.replicate (ss.length - (Lib.compact (ss.map bytesOf)).length) []) (q := q) (os := #[]) hh (by rw [hlf]; omega)
    rw [grow_empty] at k1 k4 k5
    rw [hlf] at k3
    have hbF : ¬ F b := (hs b (by simp)).1
    refine ⟨[.own e 1 ((compactS ss).map D.str)], [.gone], F, [.slice (some ⟨b, 0, none⟩) (Lib.compact (ss.map bytesOf)).length n], [b], [], ⟨rfl, rfl⟩, ?_⟩
    refine ⟨by simp [Rv], ?_, by simp [CRl, CR], by simp, fun x hx => ?_, fun x hx => Nat.lt_of_lt_of_le (hF x hx) k5, fun _ h => h, fun x hx hnx => k4 x hx (by simpa using hnx), fun x hx => ?_, rfl, rfl, rfl, k5⟩
    · simp only [CRl, CR]
      refine ⟨_, [], [b], [], rfl, .inr ⟨b, n, cs', fr, ?_, k1, fun i hi => hu i (by omega), h0, by omega, ?_, hm, ?_, rfl⟩, ⟨rfl, rfl⟩, rfl⟩
      · simp [compactS_len]
      · simp [compactS_len]; omega
      · simp only [List.length_map, compactS_len, Nat.mul_one]
        have := congrArg (List.take (Lib.compact (ss.map bytesOf)).length) k3
        rw [List.take_take, Nat.min_eq_left hcl, List.map_append, List.take_left' (List.length_map _), compactS_cells] at this
        rw [this]
        exact cells_strs _
    · simp at hx
      subst hx
      exact ⟨hbF, Nat.lt_of_lt_of_le hb' k5⟩
    · rcases hx with h | h
      · exact .inl h
      · simp at h
        subst h
        exact .inr (.inl (by simp))
end Go.Fw
namespace Go.Fw
open Go Go.Proofs
set_option linter.unusedVariables false
set_option linter.unusedSimpArgs false
theorem less_iff : ∀ a b : List UInt8, Op.bytesLess a b = true ↔ a < b
  | [], [] => by simp [Op.bytesLess]
  | [], y :: b => by simp [Op.bytesLess]
  | x :: a, [] => by simp [Op.bytesLess]
  | x :: a, y :: b => by
    simp only [Op.bytesLess, Bool.or_eq_true, Bool.and_eq_true, decide_eq_true_eq, beq_iff_eq, less_iff a b, List.cons_lt_cons_iff]
theorem le_iff (a b : List UInt8) : a ≤ b ↔ Op.bytesLess b a = false := by
  rw [← Bool.not_eq_true, less_iff]
  exact List.not_lt.symm
theorem rises_iff {t : List ByteArray} : Rises t ↔ t.Pairwise (fun a b => slt a b = true) := by
  rw [List.pairwise_iff_getElem]
  constructor
  · intro h i j hi hj hij
    have := h i j hij hj
    simpa [List.getD_eq_getElem?_getD, hi, hj] using this
  · intro h i j hij hj
    have := h i j (by omega) hj hij
    simpa [List.getD_eq_getElem?_getD, (show i < t.length by omega), hj] using this
theorem pair_unique : ∀ {t u : List ByteArray}, t.Pairwise (fun a b => slt a b = true) → u.Pairwise (fun a b => slt a b = true) → (∀ s, s ∈ t ↔ s ∈ u) → t = u
  | [], [], _, _, _ => rfl
  | [], b :: u, _, _, h => by have := (h b).2 (by simp); simp at this
  | a :: t, [], _, _, h => by have := (h a).1 (by simp); simp at this
  | a :: t, b :: u, h1, h2, h => by
    rw [List.pairwise_cons] at h1 h2
    have hab : a = b := by
      rcases List.mem_cons.1 ((h a).1 (by simp)) with e | e
      · exact e
      · rcases List.mem_cons.1 ((h b).2 (by simp)) with e' | e'
        · exact e'.symm
        · have := slt_trans (h1.1 b e') (h2.1 a e)
          rw [slt_irrefl] at this
          cases this
    subst hab
    have hn : ∀ {l : List ByteArray}, (∀ x ∈ l, slt a x = true) → a ∉ l := fun hl hm => by
      have := hl a hm
      rw [slt_irrefl] at this
      cases this
    rw [pair_unique h1.2 h2.2 fun s => ⟨fun hs => by
      rcases List.mem_cons.1 ((h s).1 (by simp [hs])) with e | e
      · exact absurd (e ▸ hs) (hn h1.1)
      · exact e, fun hs => by
      rcases List.mem_cons.1 ((h s).2 (by simp [hs])) with e | e
      · exact absurd (e ▸ hs) (hn h2.1)
      · exact e⟩]
theorem rises_unique {t u : List ByteArray} (h1 : Rises t) (h2 : Rises u) (h : ∀ s, s ∈ t ↔ s ∈ u) : t = u := pair_unique (rises_iff.1 h1) (rises_iff.1 h2) h
 
theorem upTo_spec (d : Array (List UInt8)) (hs : ∀ i, i + 1 < d.size → Op.bytesLess d[i + 1]! d[i]! = false) : ∀ m, m ≤ d.size →
    (Lib.compactUpTo d m).Pairwise (fun a b => Op.bytesLess a b = true) ∧ (∀ x, x ∈ Lib.compactUpTo d m ↔ ∃ j, j < m ∧ d[j]! = x) ∧ ∀ x ∈ Lib.compactUpTo d m, 0 < m ∧ (x = d[m - 1]! ∨ Op.bytesLess x d[m - 1]! = true)
  | 0, _ => by simp [Lib.compactUpTo]
  | m + 1, hm => by
    obtain ⟨h1, h2, h3⟩ := upTo_spec d hs m (by omega)
    rw [Lib.compactUpTo_succ]
    by_cases hk : Lib.keeps d m = true
    · rw [if_pos hk]
      have hlt : ∀ x ∈ Lib.compactUpTo d m, Op.bytesLess x d[m]! = true := fun x hx => by
        obtain ⟨h0, hx'⟩ := h3 x hx
        have hle : Op.bytesLess d[m]! d[m - 1]! = false := by
          have := hs (m - 1) (by omega)
          rwa [show m - 1 + 1 = m by omega] at this
        have hne : d[m]! ≠ d[m - 1]! := by
          intro e
          have := Lib.keeps_neg h0 e
          rw [hk] at this
          cases this
        have hl : Op.bytesLess d[m - 1]! d[m]! = true := by
          refine (Bool.eq_false_or_eq_true _).resolve_right fun e => hne ?_
          exact less_total _ _ hle e
        rcases hx' with rfl | hx'
        · exact hl
        · exact less_trans _ _ _ hx' hl
      refine ⟨?_, fun x => ?_, fun x hx => ⟨by omega, ?_⟩⟩
      · rw [List.pairwise_append]
        refine ⟨h1, by simp, fun a ha b hb => ?_⟩
        simp only [List.mem_singleton] at hb
        subst hb
        exact hlt a ha
      · rw [List.mem_append, h2, List.mem_singleton]
        constructor
        · rintro (⟨j, hj, e⟩ | rfl)
          · exact ⟨j, by omega, e⟩
          · exact ⟨m, by omega, rfl⟩
        · rintro ⟨j, hj, e⟩
          by_cases hjm : j = m
          · subst hjm; exact .inr e.symm
          · exact .inl ⟨j, by omega, e⟩
      · rcases List.mem_append.1 hx with hx | hx
        · exact .inr (hlt x hx)
        · simp only [List.mem_singleton] at hx
          exact .inl hx
    · rw [if_neg hk, List.append_nil]
      have h0 : 0 < m := by
        refine Nat.pos_of_ne_zero fun e => hk ?_
        subst e
        exact Lib.keeps_lt_one d 0 (by omega)
      have he : d[m]! = d[m - 1]! := by
        refine Classical.byContradiction fun h => hk ?_
        exact Lib.keeps_pos h
      refine ⟨h1, fun x => ?_, fun x hx => ⟨by omega, ?_⟩⟩
      · rw [h2]
        constructor
        · rintro ⟨j, hj, e⟩
          exact ⟨j, by omega, e⟩
        · rintro ⟨j, hj, e⟩
          by_cases hjm : j = m
          · subst hjm; exact ⟨j - 1, by omega, by rw [← he]; exact e⟩
          · exact ⟨j, by omega, e⟩
      · rw [Nat.add_sub_cancel, he]
        exact (h3 x hx).2
 
def tidy (l : List ByteArray) : List ByteArray := compactS (sortS l)
theorem unB_of (s : ByteArray) : unB (bytesOf s) = s := by cases s; simp [unB, bytesOf]
theorem of_unB (l : List UInt8) : bytesOf (unB l) = l := by simp [unB, bytesOf]
theorem map_unB (l : List (List UInt8)) : (l.map unB).map bytesOf = l := by
  rw [List.map_map]
  conv => rhs; rw [← List.map_id l]
  exact List.map_congr_left fun x _ => of_unB x
theorem tidy_spec (l : List ByteArray) : Rises (tidy l) ∧ ∀ s, s ∈ tidy l ↔ s ∈ l := by
  have e1 : tidy l = (Lib.compact ((l.map bytesOf).mergeSort fun x y => decide (x ≤ y))).map unB := by
    simp only [tidy, compactS, sortS, map_unB]
  have hsort : ((l.map bytesOf).mergeSort fun x y => decide (x ≤ y)).Pairwise fun x y => decide (x ≤ y) = true :=
    List.pairwise_mergeSort (fun a b c h1 h2 => by
      simp only [decide_eq_true_eq] at h1 h2 ⊢
      exact List.le_trans h1 h2) (fun a b => by
      simp only [Bool.or_eq_true, decide_eq_true_eq]
      exact List.le_total a b) _
  generalize hz : ((l.map bytesOf).mergeSort fun x y => decide (x ≤ y)) = zs at *
  have hmem : ∀ x, x ∈ zs ↔ x ∈ l.map bytesOf := fun x => by rw [← hz]; exact List.mem_mergeSort
  obtain ⟨h1, h2, _⟩ := upTo_spec zs.toArray (fun i hi => by
    have := List.pairwise_iff_getElem.1 hsort i (i + 1) (by simp at hi; omega) (by simpa using hi) (by omega)
    simp only [decide_eq_true_eq, le_iff] at this
    have hi' : i + 1 < zs.length := by simpa using hi
    simpa [hi', (show i < zs.length by omega)] using this) zs.length (by simp)
  rw [e1]
  refine ⟨rises_iff.2 ?_, fun s => ?_⟩
  · rw [List.pairwise_map]
    refine h1.imp fun {a b} h => ?_
    simp only [slt]
    have e : ∀ l : List UInt8, (unB l).data.toList = l := of_unB
    rw [e, e]
    exact h
  · rw [List.mem_map]
    constructor
    · rintro ⟨x, hx, rfl⟩
      obtain ⟨j, hj, rfl⟩ := (h2 x).1 hx
      have hm : zs.toArray[j]! ∈ zs := by simp [hj]
      obtain ⟨y, hy, e⟩ := List.mem_map.1 ((hmem _).1 hm)
      rw [← e, unB_of]
      exact hy
    · intro hs
      have hm := (hmem (bytesOf s)).2 (List.mem_map_of_mem hs)
      obtain ⟨j, hj, e⟩ := List.mem_iff_getElem.1 hm
      exact ⟨bytesOf s, (h2 _).2 ⟨j, hj, by simp [hj, e]⟩, unB_of s⟩
def orderS (l : List ByteArray) : List ByteArray := (tidy (l.filter mayD)).take 255
theorem rises_take {t : List ByteArray} (h : Rises t) (n : Nat) : Rises (t.take n) := rises_iff.2 ((rises_iff.1 h).sublist (List.take_sublist _ _))
theorem orderS_rises (l : List ByteArray) : Rises (orderS l) := rises_take (tidy_spec _).1 _
theorem order_eq (l : List ByteArray) : [CV.own 9 1 (List.take (min (compactS (sortS (l.filter mayD))).length 255) (List.map D.str (compactS (sortS (l.filter mayD)))))] = [CV.own 9 1 (List.map D.str (orderS l))] := by
  rw [orderS, tidy, ← List.map_take, Nat.min_comm, ← List.take_eq_take_min]
def sA : ByteArray := ⟨#[97]⟩
def sB : ByteArray := ⟨#[98]⟩
def sAB : ByteArray := ⟨#[97, 98]⟩
theorem rises_ab : Rises [⟨#[97]⟩, ⟨#[97, 98]⟩] := rises_iff.2 (by simp [slt, Op.bytesLess])
theorem rises_inj {t : List ByteArray} (hr : Rises t) {i j : Nat} (hi : i < t.length) (hj : j < t.length) (h : t.getD i default = t.getD j default) : i = j := by
  rcases Nat.lt_trichotomy i j with hlt | heq | hgt
  · have := hr i j hlt hj
    rw [h, slt_irrefl] at this
    cases this
  · exact heq
  · have := hr j i hgt hi
    rw [h, slt_irrefl] at this
    cases this
theorem found_unique {t : List ByteArray} {x : ByteArray} {rs rs' : List CV} (hr : Rises t) (h : Found t x rs) (h' : Found t x rs') : rs = rs' := by
  have key : ∀ {i n j m : Nat}, 0 < n → n ≤ 8 → n ≤ x.size → i < t.length → t.getD i default = x.extract 0 n → (∀ k, m < k → k ≤ 8 → k ≤ x.size → NoBeg t x k) → n ≤ m := fun h0 h8 hx hi he hno =>
    Nat.le_of_not_lt fun hlt => hno _ hlt h8 hx _ hi he
  rcases h with ⟨i, n, rfl, a0, a8, ax, ai, ae, an⟩ | ⟨rfl, an⟩
  · rcases h' with ⟨j, m, rfl, b0, b8, bx, bj, be, bn⟩ | ⟨rfl, bn⟩
    · have h1 := key (j := j) a0 a8 ax ai ae bn
      have h2 := key (j := i) b0 b8 bx bj be an
      have e : n = m := by omega
      subst e
      rw [rises_inj hr ai bj (ae.trans be.symm)]
    · exact absurd ae (bn n a0 a8 ax i ai)
  · rcases h' with ⟨j, m, rfl, b0, b8, bx, bj, be, bn⟩ | ⟨rfl, bn⟩
    · exact absurd be (an m b0 b8 bx j bj)
    · rfl
theorem found_ab : Found [⟨#[97]⟩, ⟨#[97, 98]⟩] ⟨#[97, 98, 99]⟩ [.d (.int .i64 1), .d (.int .i64 2)] :=
  .inl ⟨1, 2, rfl, by decide, by decide, by decide, by decide, by decide +kernel, fun m h1 h2 h3 => by
    have h3' : m ≤ 3 := h3
    have e : m = 3 := by omega
    subst e
    intro k hk
    have hk' : k < 2 := hk
    rcases (show k = 0 ∨ k = 1 by omega) with rfl | rfl <;> decide +kernel⟩
theorem tidy_bab : tidy [⟨#[98]⟩, ⟨#[97]⟩, ⟨#[98]⟩] = [⟨#[97]⟩, ⟨#[98]⟩] :=
  rises_unique (tidy_spec _).1 (rises_iff.2 (by simp [slt, Op.bytesLess])) fun s => by
    rw [(tidy_spec _).2]
    simp only [List.mem_cons, List.not_mem_nil, or_false]
    constructor
    · rintro (h | h | h)
      · exact .inr h
      · exact .inl h
      · exact .inr h
    · rintro (h | h)
      · exact .inr (.inl h)
      · exact .inl h
theorem order_bab : orderS [⟨#[98]⟩, ⟨#[97]⟩, ⟨#[98]⟩] = [⟨#[97]⟩, ⟨#[98]⟩] := by
  rw [orderS, show List.filter mayD [⟨#[98]⟩, ⟨#[97]⟩, ⟨#[98]⟩] = [⟨#[98]⟩, ⟨#[97]⟩, ⟨#[98]⟩] by rfl, tidy_bab]
  rfl
theorem awake_str : strB (putB [⟨#[97]⟩, ⟨#[97, 98]⟩]) = ⟨#[2, 1, 97, 2, 97, 98]⟩ := by decide +kernel
end Go.Fw
namespace Go.Fw
open Go
set_option linter.unusedVariables false
set_option linter.unusedSimpArgs false
def Cand (o : List ByteArray) (s : ByteArray) : Prop := mayD s = true ∧ (o.length = 0 ∨ slt (o.getD (o.length - 1) default) s = true)
def emp : ByteArray := ⟨#[]⟩
def Best (l o : List ByteArray) (i : Nat) (b : ByteArray) : Prop :=
  (b = ⟨#[]⟩ ∧ ∀ j, j < i → ¬ Cand o (l.getD j default)) ∨ (Cand o b ∧ b ∈ l ∧ ∀ j, j < i → Cand o (l.getD j default) → slt (l.getD j default) b = false)
theorem mayD_iff {s : ByteArray} : mayD s = true ↔ 1 ≤ s.size ∧ s.size ≤ 8 := by simp [mayD]
theorem best_size {l o : List ByteArray} {i : Nat} {b : ByteArray} (h : Best l o i b) : b.size ≤ 8 := by
  rcases h with ⟨rfl, _⟩ | ⟨h, _⟩
  · decide
  · exact (mayD_iff.1 h.1).2
theorem best_skip {l o : List ByteArray} {i : Nat} {b : ByteArray} (h : Best l o i b) (hc : ¬ Cand o (l.getD i default)) : Best l o (i + 1) b := by
  rcases h with ⟨e, h⟩ | ⟨h1, h2, h3⟩
  · exact .inl ⟨e, upto_succ h hc⟩
  · exact .inr ⟨h1, h2, upto_succ h3 fun hc' => absurd hc' hc⟩
theorem best_keep {l o : List ByteArray} {i : Nat} {b : ByteArray} (h : Best l o i b) (hb : ¬ b = ⟨#[]⟩) (hs : slt (l.getD i default) b = false) : Best l o (i + 1) b := by
  rcases h with ⟨e, h⟩ | ⟨h1, h2, h3⟩
  · exact absurd e hb
  · exact .inr ⟨h1, h2, upto_succ h3 fun _ => hs⟩
theorem best_take {l o : List ByteArray} {i : Nat} {b : ByteArray} (h : Best l o i b) (hi : i < l.length) (hc : Cand o (l.getD i default)) (hb : b = ⟨#[]⟩ ∨ slt (l.getD i default) b = true) : Best l o (i + 1) (l.getD i default) := by
  refine .inr ⟨hc, getD_mem hi, upto_succ (fun j hj hcj => ?_) fun _ => slt_irrefl _⟩
  rcases h with ⟨e, h⟩ | ⟨h1, h2, h3⟩
  · exact absurd hcj (h j hj)
  · rcases hb with rfl | hb
    · have := (mayD_iff.1 h1.1).1
      exact absurd this (by decide)
    · refine Bool.eq_false_iff.2 fun hs => ?_
      have := slt_trans hs hb
      rw [h3 j hj hcj] at this
      cases this
theorem cmp_gt {a b : ByteArray} (h : 0 < cmpS a b) : slt b a = true := by
  refine (Bool.eq_false_or_eq_true _).resolve_right fun h1 => ?_
  simp only [cmpS, h1, Bool.false_eq_true, if_false] at h
  split at h <;> omega
theorem cmp_le {a b : ByteArray} (h : cmpS a b ≤ 0) : slt b a = false := by
  refine Bool.eq_false_iff.2 fun h1 => ?_
  simp only [cmpS, slt_asymm h1, h1, Bool.false_eq_true, if_false, if_true] at h
  omega
theorem cand_of {o : List ByteArray} {s : ByteArray} (h1 : 1 ≤ s.size) (h8 : s.size ≤ 8) (h : o.length = 0 ∨ 0 < cmpS s (o.getD (o.length - 1) default)) : Cand o s := ⟨mayD_iff.2 ⟨h1, h8⟩, h.imp id cmp_gt⟩
theorem cand_not {o : List ByteArray} {s : ByteArray} (h : s.size < 1 ∨ 8 < s.size ∨ (o.length ≠ 0 ∧ cmpS s (o.getD (o.length - 1) default) ≤ 0)) : ¬ Cand o s := fun hc => by
  have := mayD_iff.1 hc.1
  rcases h with h | h | ⟨h, h'⟩
  · omega
  · omega
  · rcases hc.2 with h0 | hs
    · exact h h0
    · rw [cmp_le h'] at hs
      cases hs
 
def Tab0 (l : List ByteArray) : List ByteArray := tidy (l.filter mayD)
theorem tab0_mem (l : List ByteArray) (s : ByteArray) : s ∈ Tab0 l ↔ s ∈ l ∧ mayD s = true := by
  rw [Tab0, (tidy_spec _).2, List.mem_filter]
theorem tab0_rises (l : List ByteArray) : Rises (Tab0 l) := (tidy_spec _).1
theorem orderS_eq (l : List ByteArray) : orderS l = (Tab0 l).take 255 := rfl
theorem take_last {T o : List ByteArray} (ho : o = T.take o.length) (hn : 0 < o.length) : o.length ≤ T.length ∧ o.getD (o.length - 1) default = T.getD (o.length - 1) default := by
  have hl : o.length ≤ T.length := by
    have := congrArg List.length ho
    simp at this
    omega
  refine ⟨hl, ?_⟩
  have : (T.take o.length).getD (o.length - 1) default = T.getD (o.length - 1) default := by
    simp only [List.getD_eq_getElem?_getD, List.getElem?_take]
    rw [if_pos (by omega)]
  rw [← ho] at this
  exact this
theorem take_len {T o : List ByteArray} (ho : o = T.take o.length) : o.length ≤ T.length := by
  have := congrArg List.length ho
  simp at this
  omega
theorem last_size {l o : List ByteArray} (ho : o = (Tab0 l).take o.length) : o.length = 0 ∨ (o.getD (o.length - 1) default).size ≤ 8 := by
  by_cases h0 : o.length = 0
  · exact .inl h0
  · right
    have hl := take_len ho
    rw [(take_last ho (by omega)).2]
    exact (mayD_iff.1 ((tab0_mem l _).1 (getD_mem (by omega))).2).2
theorem best_none {l o : List ByteArray} (ho : o = (Tab0 l).take o.length) (h : Best l o l.length ⟨#[]⟩) : o = Tab0 l := by
  have hl := take_len ho
  rcases Nat.lt_or_ge o.length (Tab0 l).length with hlt | hge
  · exfalso
    have hm := getD_mem hlt
    obtain ⟨h1, h2⟩ := (tab0_mem l _).1 hm
    have hc : Cand o ((Tab0 l).getD o.length default) := by
      refine ⟨h2, ?_⟩
      by_cases h0 : o.length = 0
      · exact .inl h0
      · right
        rw [(take_last ho (by omega)).2]
        exact tab0_rises l _ _ (by omega) hlt
    obtain ⟨j, hj, e⟩ := List.mem_iff_getElem.1 h1
    have ej : l.getD j default = (Tab0 l).getD o.length default := by
      rw [List.getD_eq_getElem?_getD, List.getElem?_eq_getElem hj]; exact e
    rcases h with ⟨_, h⟩ | ⟨h, _⟩
    · exact h j hj (by rw [ej]; exact hc)
    · exact absurd (mayD_iff.1 h.1).1 (by decide)
  · rw [List.take_of_length_le hge] at ho
    exact ho
theorem best_next {l o : List ByteArray} {b : ByteArray} (ho : o = (Tab0 l).take o.length) (hb : ¬ b = ⟨#[]⟩) (h : Best l o l.length b) : o ++ [b] = (Tab0 l).take (o ++ [b]).length := by
  have hl := take_len ho
  rcases h with ⟨e, _⟩ | ⟨hc, hm, hmin⟩
  · exact absurd e hb
  · have hbT := (tab0_mem l b).2 ⟨hm, hc.1⟩
    obtain ⟨k, hk, ek⟩ := List.mem_iff_getElem.1 hbT
    have ek' : (Tab0 l).getD k default = b := by rw [List.getD_eq_getElem?_getD, List.getElem?_eq_getElem hk]; exact ek
    have hkn : o.length ≤ k := by
      rcases hc.2 with h0 | hs
      · omega
      · by_cases h0 : o.length = 0
        · omega
        · refine Nat.le_of_not_lt fun hlt => ?_
          rw [(take_last ho (by omega)).2, ← ek'] at hs
          by_cases e : k = o.length - 1
          · rw [e, slt_irrefl] at hs; cases hs
          · have := tab0_rises l k (o.length - 1) (by omega) (by omega)
            rw [slt_asymm this] at hs
            cases hs
    have hlt : o.length < (Tab0 l).length := by omega
    have e : k = o.length := by
      refine Classical.byContradiction fun hne => ?_
      obtain ⟨h1, h2⟩ := (tab0_mem l _).1 (getD_mem hlt)
      have hc' : Cand o ((Tab0 l).getD o.length default) := by
        refine ⟨h2, ?_⟩
        by_cases h0 : o.length = 0
        · exact .inl h0
        · right
          rw [(take_last ho (by omega)).2]
          exact tab0_rises l _ _ (by omega) hlt
      obtain ⟨j, hj, ej⟩ := List.mem_iff_getElem.1 h1
      have ej' : l.getD j default = (Tab0 l).getD o.length default := by
        rw [List.getD_eq_getElem?_getD, List.getElem?_eq_getElem hj]; exact ej
      have h3 := hmin j hj (by rw [ej']; exact hc')
      rw [ej', ← ek', tab0_rises l _ _ (by omega) hk] at h3
      cases h3
    rw [List.length_append, List.length_singleton, take_snoc hlt, ← ho, ← e, ek']
theorem take_eq_255 {l o : List ByteArray} (ho : o = (Tab0 l).take o.length) (h : 255 ≤ o.length) (h2 : o.length ≤ 255) : o = orderS l := by
  rw [orderS_eq]
  have : o.length = 255 := by omega
  rw [this] at ho
  exact ho
theorem all_255 {l : List ByteArray} {o : List ByteArray} (ho : o = Tab0 l) (h : o.length ≤ 255) : o = orderS l := by
  rw [orderS_eq, ← ho, List.take_of_length_le h]
end Go.Fw
namespace Go.Fw
open Go
set_option linter.unusedVariables false
set_option linter.unusedSimpArgs false
theorem size_extract {x : ByteArray} {m : Nat} (h : m ≤ x.size) : (x.extract 0 m).size = m := by
  rw [ByteArray.size_extract]; omega
def LongUpTo (t : List ByteArray) (x : ByteArray) (i : Nat) (c : Int) (n : Nat) : Prop :=
  ((c = -1 ∧ n = 0) ∨ ∃ k : Nat, c = k ∧ k < t.length ∧ n = (t.getD k default).size ∧ 0 < n ∧ n ≤ x.size ∧ t.getD k default = x.extract 0 n) ∧
  ∀ j, j < i → (t.getD j default).size ≤ x.size → t.getD j default = x.extract 0 (t.getD j default).size → (t.getD j default).size ≤ n
theorem long_nil (t : List ByteArray) (x : ByteArray) : LongUpTo t x 0 (-1) 0 := ⟨.inl ⟨rfl, rfl⟩, fun j h => absurd h (Nat.not_lt_zero _)⟩
theorem long_hit {t : List ByteArray} {x : ByteArray} {i : Nat} {c : Int} {n : Nat} (h : LongUpTo t x i c n) (hi : i < t.length) (h1 : n < (t.getD i default).size) (h2 : (t.getD i default).size ≤ x.size) (he : x.extract 0 (t.getD i default).size = t.getD i default) :
    LongUpTo t x (i + 1) i (t.getD i default).size :=
  ⟨.inr ⟨i, rfl, hi, rfl, by omega, h2, he.symm⟩, upto_succ (fun j hj a b => by have := h.2 j hj a b; omega) fun _ _ => Nat.le_refl _⟩
theorem long_miss {t : List ByteArray} {x : ByteArray} {i : Nat} {c : Int} {n : Nat} (h : LongUpTo t x i c n) (hm : (t.getD i default).size ≤ n ∨ x.size < (t.getD i default).size ∨ ¬ x.extract 0 (t.getD i default).size = t.getD i default) : LongUpTo t x (i + 1) c n :=
  ⟨h.1, upto_succ h.2 fun a b => by
    rcases hm with hm | hm | hm
    · exact hm
    · omega
    · exact absurd b.symm hm⟩
theorem long_found {t : List ByteArray} {x : ByteArray} {c : Int} {n : Nat} (h8 : ∀ s ∈ t, s.size ≤ 8) (h : LongUpTo t x t.length c n) : Found t x [.d (.int .i64 c), .d (.int .i64 n)] := by
  have hno : ∀ m, n < m → m ≤ 8 → m ≤ x.size → NoBeg t x m := fun m h1 _ h3 k hk e => by
    have hs : (t.getD k default).size = m := by rw [e, size_extract h3]
    have := h.2 k hk (by omega) (by rw [hs]; exact e)
    omega
  rcases h.1 with ⟨rfl, rfl⟩ | ⟨k, rfl, hk, hn, h0, hx, e⟩
  · exact .inr ⟨rfl, hno⟩
  · exact .inl ⟨k, n, rfl, h0, by rw [hn]; exact h8 _ (getD_mem hk), hx, hk, e, hno⟩
theorem order_size (l : List ByteArray) : ∀ s ∈ orderS l, s.size ≤ 8 := fun s hs => by
  rw [orderS_eq] at hs
  exact (mayD_iff.1 ((tab0_mem l s).1 (List.mem_of_mem_take hs)).2).2
theorem order_len (l : List ByteArray) : (orderS l).length ≤ 255 := by rw [orderS_eq]; simp; omega
theorem order_right (l : List ByteArray) : rightS (orderS l) = true := by
  refine right_good (order_len l) fun j hj => ?_
  have hm := getD_mem hj
  have hT := tab0_mem l ((orderS l).getD j default)
  have hd := (hT.1 (by rw [orderS_eq] at hm; exact List.mem_of_mem_take hm)).2
  obtain ⟨h1, h8⟩ := mayD_iff.1 hd
  refine okAt_ok h1 h8 ?_
  by_cases h0 : j = 0
  · exact .inl h0
  · exact .inr (orderS_rises l _ _ (by omega) hj)
theorem order_self (l : List ByteArray) : orderS (orderS l) = orderS l := by
  have hf : (orderS l).filter mayD = orderS l := List.filter_eq_self.2 fun s hs => by
    rw [orderS_eq] at hs
    exact ((tab0_mem l s).1 (List.mem_of_mem_take hs)).2
  have ht : Tab0 (orderS l) = orderS l := rises_unique (tab0_rises _) (orderS_rises l) fun s => by
    rw [Tab0, hf, (tidy_spec _).2]
  rw [orderS_eq (orderS l), ht, List.take_of_length_le (order_len l)]
theorem rises_of_right {t : List ByteArray} (h : rightS t = true) : Rises t := by
  have hstep : ∀ j, 0 < j → j < t.length → slt (t.getD (j - 1) default) (t.getD j default) = true := fun j h0 hj => by
    have := (right_at h).2 j hj
    simp only [okAt, Bool.and_eq_true, Bool.or_eq_true, decide_eq_true_eq] at this
    rcases this.2 with h1 | h1
    · omega
    · exact h1
  intro a b hab hb
  induction b with
  | zero => omega
  | succ b ih =>
    have h1 := hstep (b + 1) (by omega) hb
    rw [Nat.add_sub_cancel] at h1
    by_cases e : a = b
    · subst e; exact h1
    · exact slt_trans (ih (by omega) (by omega)) h1
theorem few_len {l : List ByteArray} (h : fewS l = true) : l.length ≤ 1000000000 := by
  simp only [fewS, Bool.and_eq_true, decide_eq_true_eq] at h
  omega
end Go.Fw
namespace Go.Fw
open Go
set_option linter.unusedVariables false
set_option linter.unusedSimpArgs false
 
def takeB (b : List UInt8) (n : Nat) (e k : Int) : List UInt8 × Nat × Int :=
  if e ≠ 0 then ([], n, e) else if k < 0 then ([], n, 3) else if (b.length : Int) - n < k then ([], n, 2) else ((b.drop n).take k.toNat, n + k.toNat, e)
theorem takeB_err {b : List UInt8} {n : Nat} {e k : Int} (h : ¬ e = 0) : takeB b n e k = ([], n, e) := by simp [takeB, h]
theorem takeB_neg {b : List UInt8} {n : Nat} {e k : Int} (h : e = 0) (hk : k < 0) : takeB b n e k = ([], n, 3) := by simp [takeB, h, hk]
theorem takeB_cut {b : List UInt8} {n : Nat} {e k : Int} (h : e = 0) (hn : n ≤ b.length) (hk : ((b.length - n : Nat) : Int) < k) : takeB b n e k = ([], n, 2) := by
  have h1 : ¬ k < 0 := by omega
  have h2 : (b.length : Int) - n < k := by omega
  simp [takeB, h, h1, h2]
theorem takeB_ok {b : List UInt8} {n : Nat} {e k : Int} (h : e = 0) (hn : n ≤ b.length) (h0 : 0 ≤ k) (hk : k ≤ ((b.length - n : Nat) : Int)) : takeB b n e k = ((b.drop n).take k.toNat, n + k.toNat, e) := by
  have h1 : ¬ k < 0 := by omega
  have h2 : ¬ (b.length : Int) - n < k := by omega
  simp [takeB, h, h1, h2]
theorem takeB_le {b : List UInt8} {n : Nat} {e k : Int} (hn : n ≤ b.length) : (takeB b n e k).2.1 ≤ b.length := by
  unfold takeB
  split
  · exact hn
  · split
    · exact hn
    · split
      · exact hn
      · simp only; omega
theorem takeB_slice {b : List UInt8} {n : Nat} {k : Int} (h0 : 0 ≤ k) : List.drop ((n : Int) + k - k).toNat (List.take ((n : Int) + k).toNat b) = (b.drop n).take k.toNat := by
  rw [show ((n : Int) + k - k).toNat = n by omega, show ((n : Int) + k).toNat = n + k.toNat by omega, List.drop_take]
  congr 1
  omega
theorem takeB_place {n : Nat} {k : Int} (h0 : 0 ≤ k) : (n : Int) + k = ((n + k.toNat : Nat) : Int) := by omega
 
def byteOf1 : List UInt8 → Int
  | [x] => x.toNat
  | _ => 0
theorem byteOf1_one {l : List UInt8} (h : l.length = 1) : ((l.getD 0 default).toNat : Int) = byteOf1 l := by
  match l, h with
  | [x], _ => rfl
theorem byteOf1_no {l : List UInt8} (h : ¬ l.length = 1) : byteOf1 l = 0 := by
  match l, h with
  | [], _ => rfl
  | [x], h => exact absurd rfl h
  | _ :: _ :: _, _ => rfl
theorem byteOf1_le (l : List UInt8) : 0 ≤ byteOf1 l ∧ byteOf1 l ≤ 255 := by
  unfold byteOf1
  split
  · rename_i x; have := x.toNat_lt; omega
  · omega
def failE (e x : Int) : Int := if e = 0 then x else e
 
def getGo (b : List UInt8) : Nat → List ByteArray → Nat → Int → List ByteArray × Nat × Int
  | 0, out, n, e => (out, n, e)
  | m + 1, out, n, e =>
    let r := takeB b n e 1
    let k := byteOf1 r.1
    let e2 := if 8 < k then failE r.2.2 3 else r.2.2
    let q := takeB b r.2.1 e2 k
    getGo b m (out ++ [strB q.1]) q.2.1 q.2.2
def getS (b : List UInt8) (n : Nat) (e : Int) : List ByteArray × Nat × Int :=
  let r := takeB b n e 1
  let g := getGo b (byteOf1 r.1).toNat [] r.2.1 r.2.2
  if rightS g.1 then g else ([], g.2.1, failE g.2.2 3)
theorem getGo_le (b : List UInt8) : ∀ (m : Nat) (out : List ByteArray) (n : Nat) (e : Int), n ≤ b.length → (getGo b m out n e).2.1 ≤ b.length
  | 0, _, _, _, h => h
  | m + 1, out, n, e, h => by simp only [getGo]; exact getGo_le b m _ _ _ (takeB_le (takeB_le h))
theorem getGo_len (b : List UInt8) : ∀ (m : Nat) (out : List ByteArray) (n : Nat) (e : Int), (getGo b m out n e).1.length = out.length + m
  | 0, _, _, _ => rfl
  | m + 1, out, n, e => by simp only [getGo]; rw [getGo_len b m]; simp; omega
theorem getGo_bad {b : List UInt8} {m n : Nat} {out : List ByteArray} {e : Int} (h : 8 < byteOf1 (takeB b n e 1).1) : getGo b (m + 1) out n e =
    getGo b m (out ++ [strB (takeB b (takeB b n e 1).2.1 (failE (takeB b n e 1).2.2 3) (byteOf1 (takeB b n e 1).1)).1]) (takeB b (takeB b n e 1).2.1 (failE (takeB b n e 1).2.2 3) (byteOf1 (takeB b n e 1).1)).2.1 (takeB b (takeB b n e 1).2.1 (failE (takeB b n e 1).2.2 3) (byteOf1 (takeB b n e 1).1)).2.2 := by
  simp only [getGo, if_pos h]
theorem getGo_good {b : List UInt8} {m n : Nat} {out : List ByteArray} {e : Int} (h : byteOf1 (takeB b n e 1).1 ≤ 8) : getGo b (m + 1) out n e =
    getGo b m (out ++ [strB (takeB b (takeB b n e 1).2.1 (takeB b n e 1).2.2 (byteOf1 (takeB b n e 1).1)).1]) (takeB b (takeB b n e 1).2.1 (takeB b n e 1).2.2 (byteOf1 (takeB b n e 1).1)).2.1 (takeB b (takeB b n e 1).2.1 (takeB b n e 1).2.2 (byteOf1 (takeB b n e 1).1)).2.2 := by
  have h' : ¬ 8 < byteOf1 (takeB b n e 1).1 := by omega
  simp only [getGo, if_neg h']
theorem toNat_step {M : Int} {i : Nat} (h : (i : Int) < M) : (M - i).toNat = (M - ((i + 1 : Nat) : Int)).toNat + 1 := by omega
theorem getS_eq {b : List UInt8} {n n' : Nat} {e e' : Int} {out : List ByteArray} {i : Nat} (hM : byteOf1 (takeB b n e 1).1 ≤ i)
    (h : getGo b (byteOf1 (takeB b n e 1).1 - i).toNat out n' e' = getGo b (byteOf1 (takeB b n e 1).1).toNat [] (takeB b n e 1).2.1 (takeB b n e 1).2.2) :
    getS b n e = if rightS out then (out, n', e') else ([], n', failE e' 3) := by
  rw [show (byteOf1 (takeB b n e 1).1 - (i : Int)).toNat = 0 by omega] at h
  simp only [getGo] at h
  simp only [getS, ← h]
theorem getS_yes {b : List UInt8} {n n' : Nat} {e e' : Int} {out : List ByteArray} {i : Nat} (hM : byteOf1 (takeB b n e 1).1 ≤ i)
    (h : getGo b (byteOf1 (takeB b n e 1).1 - i).toNat out n' e' = getGo b (byteOf1 (takeB b n e 1).1).toNat [] (takeB b n e 1).2.1 (takeB b n e 1).2.2) (hr : rightS out = true) : getS b n e = (out, n', e') := by
  rw [getS_eq hM h, if_pos hr]
theorem getS_no {b : List UInt8} {n n' : Nat} {e e' : Int} {out : List ByteArray} {i : Nat} (hM : byteOf1 (takeB b n e 1).1 ≤ i)
    (h : getGo b (byteOf1 (takeB b n e 1).1 - i).toNat out n' e' = getGo b (byteOf1 (takeB b n e 1).1).toNat [] (takeB b n e 1).2.1 (takeB b n e 1).2.2) (hr : rightS out = false) : getS b n e = ([], n', failE e' 3) := by
  rw [getS_eq hM h, if_neg (by rw [hr]; exact Bool.false_ne_true)]
end Go.Fw
namespace Go.Fw
open Go
set_option linter.unusedVariables false
set_option linter.unusedSimpArgs false
theorem takeB_run (pre mid post : List UInt8) {k : Int} (hk : k = mid.length) : takeB (pre ++ (mid ++ post)) pre.length 0 k = (mid, pre.length + mid.length, 0) := by
  subst hk
  rw [takeB_ok rfl (by simp) (by omega) (by simp; omega)]
  simp
theorem takeB_short (pre mid : List UInt8) {k : Int} (hk : (mid.length : Int) < k) : takeB (pre ++ mid) pre.length 0 k = ([], pre.length, 2) :=
  takeB_cut rfl (by simp) (by simp; omega)
theorem takeB_one (pre post : List UInt8) (x : UInt8) : takeB (pre ++ x :: post) pre.length 0 1 = ([x], pre.length + 1, 0) := takeB_run pre [x] post rfl
theorem takeB_none (pre : List UInt8) : takeB pre pre.length 0 1 = ([], pre.length, 2) := by
  have := takeB_short pre [] (k := 1) (by simp)
  simpa using this
theorem replicate_snoc {α : Type} (m : Nat) (x : α) : List.replicate (m + 1) x = List.replicate m x ++ [x] := by
  induction m with
  | zero => rfl
  | succ m ih => rw [List.replicate_succ, ih, ← List.cons_append, ← List.replicate_succ, ih]
theorem go_err (b : List UInt8) {e : Int} (he : ¬ e = 0) : ∀ (m : Nat) (out : List ByteArray) (n : Nat), getGo b m out n e = (out ++ List.replicate m (strB []), n, e)
  | 0, out, n => by simp [getGo]
  | m + 1, out, n => by
    have h8 : byteOf1 (takeB b n e 1).1 ≤ 8 := by rw [takeB_err he]; simp [byteOf1]
    rw [getGo_good h8, takeB_err he]
    simp only [byteOf1]
    rw [takeB_err he]
    simp only
    rw [go_err b he m, List.append_assoc, List.replicate_succ, List.singleton_append]
theorem go_err_last (b : List UInt8) {e : Int} (he : ¬ e = 0) (m : Nat) (out : List ByteArray) (n : Nat) : ∃ w, getGo b m (out ++ [strB []]) n e = (w ++ [strB []], n, e) := by
  rw [go_err b he]
  refine ⟨out ++ List.replicate m (strB []), ?_⟩
  rw [List.append_assoc, List.append_assoc, List.singleton_append, ← List.replicate_succ, replicate_snoc]
theorem not_right_last (w : List ByteArray) : rightS (w ++ [strB []]) = false := by
  refine right_bad (i := w.length) (by simp) (okAt_no (.inl ?_))
  have : (w ++ [strB []]).getD w.length default = strB [] := by simp [List.getD_eq_getElem?_getD]
  rw [this]
  decide
theorem byteOf1_x (x : UInt8) : byteOf1 [x] = x.toNat := rfl
 
theorem go_ok : ∀ (m : Nat) (out : List ByteArray) (pre rest : List UInt8),
    (∃ u post n', getGo (pre ++ rest) m out pre.length 0 = (out ++ u, n', 0) ∧ u.length = m ∧ rest = u.flatMap putF ++ post ∧ n' = pre.length + (u.flatMap putF).length) ∨
    (∃ w n' e', getGo (pre ++ rest) m out pre.length 0 = (w ++ [strB []], n', e') ∧ ¬ e' = 0)
  | 0, out, pre, rest => .inl ⟨[], rest, pre.length, by simp [getGo], rfl, by simp, by simp⟩
  | m + 1, out, pre, [] => by
    right
    rw [List.append_nil]
    have h8 : byteOf1 (takeB pre pre.length 0 1).1 ≤ 8 := by rw [takeB_none]; simp [byteOf1]
    rw [getGo_good h8, takeB_none]
    simp only [byteOf1]
    rw [takeB_err (by decide)]
    simp only
    obtain ⟨w, hw⟩ := go_err_last pre (e := 2) (by decide) m out pre.length
    exact ⟨w, _, _, hw, by decide⟩
  | m + 1, out, pre, x :: rest => by
    by_cases h8 : byteOf1 [x] ≤ 8
    · have h8' : byteOf1 (takeB (pre ++ x :: rest) pre.length 0 1).1 ≤ 8 := by rw [takeB_one]; exact h8
      rw [getGo_good h8', takeB_one]
      simp only
      rcases Nat.lt_or_ge rest.length x.toNat with hlt | hge
      · have hs : takeB (pre ++ x :: rest) (pre.length + 1) 0 (byteOf1 [x]) = ([], pre.length + 1, 2) := by
          have := takeB_short (pre ++ [x]) rest (k := byteOf1 [x]) (by rw [byteOf1_x]; omega)
          simpa using this
        rw [hs]
        simp only
        obtain ⟨w, hw⟩ := go_err_last (pre ++ x :: rest) (e := 2) (by decide) m out (pre.length + 1)
        exact .inr ⟨w, _, _, hw, by decide⟩
      · have hlen : (rest.take x.toNat).length = x.toNat := by simp; omega
        have hs : takeB (pre ++ x :: rest) (pre.length + 1) 0 (byteOf1 [x]) = (rest.take x.toNat, pre.length + 1 + x.toNat, 0) := by
          have := takeB_run (pre ++ [x]) (rest.take x.toNat) (rest.drop x.toNat) (k := byteOf1 [x]) (by rw [byteOf1_x, hlen])
          rw [List.take_append_drop, hlen] at this
          simpa using this
        rw [hs]
        simp only
        have hput : putF (strB (rest.take x.toNat)) = x :: rest.take x.toNat := by
          have hz : (strB (rest.take x.toNat)).size = x.toNat := by
            show (rest.take x.toNat).toArray.size = _
            simp; omega
          simp only [putF, hz, UInt8.ofNat_toNat]
          simp [strB]
        have hb : pre ++ x :: rest = (pre ++ putF (strB (rest.take x.toNat))) ++ rest.drop x.toNat := by
          rw [hput]; simp
        have hp : pre.length + 1 + x.toNat = (pre ++ putF (strB (rest.take x.toNat))).length := by
          rw [hput]; simp; omega
        rw [hb, hp]
        rcases go_ok m (out ++ [strB (rest.take x.toNat)]) (pre ++ putF (strB (rest.take x.toNat))) (rest.drop x.toNat) with ⟨u, post, n', h1, h2, h3, h4⟩ | ⟨w, n', e', h1, h2⟩
        · left
          refine ⟨strB (rest.take x.toNat) :: u, post, n', by rw [h1]; simp, by simp [h2], ?_, ?_⟩
          · rw [List.flatMap_cons, hput, List.append_assoc, ← h3]; simp
          · rw [h4, List.flatMap_cons]; simp; omega
        · exact .inr ⟨w, n', e', h1, h2⟩
    · have h8' : 8 < byteOf1 (takeB (pre ++ x :: rest) pre.length 0 1).1 := by rw [takeB_one]; show 8 < byteOf1 [x]; omega
      rw [getGo_bad h8', takeB_one]
      simp only
      rw [takeB_err (e := failE 0 3) (by decide)]
      simp only
      obtain ⟨w, hw⟩ := go_err_last (pre ++ x :: rest) (e := failE 0 3) (by decide) m out (pre.length + 1)
      exact .inr ⟨w, _, _, hw, by decide⟩
 
theorem gets_sound (b : List UInt8) : (rightS (getS b 0 0).1 = true ∧ (getS b 0 0).1 ≠ [] ∧ (getS b 0 0).2.2 = 0 ∧ (getS b 0 0).2.1 ≤ b.length ∧ putB (getS b 0 0).1 = b.take (getS b 0 0).2.1) ∨
    ((getS b 0 0).1 = [] ∧ (getS b 0 0).2.1 ≤ b.length ∧ (¬ (getS b 0 0).2.2 = 0 ∨ ((getS b 0 0).2.1 = 1 ∧ b.head? = some 0))) := by
  cases b with
  | nil =>
    right
    have : getS [] 0 0 = ([], 0, 2) := by decide +kernel
    rw [this]
    exact ⟨rfl, Nat.le_refl _, .inl (by decide)⟩
  | cons x rest =>
    have h1 : takeB (x :: rest) 0 0 1 = ([x], 1, 0) := takeB_one [] rest x
    have hS : getS (x :: rest) 0 0 = if rightS (getGo (x :: rest) x.toNat [] 1 0).1 then getGo (x :: rest) x.toNat [] 1 0 else ([], (getGo (x :: rest) x.toNat [] 1 0).2.1, failE (getGo (x :: rest) x.toNat [] 1 0).2.2 3) := by
      simp only [getS, h1, byteOf1, Int.toNat_natCast]
    rcases go_ok x.toNat [] [x] rest with ⟨u, post, n', g1, g2, g3, g4⟩ | ⟨w, n', e', g1, g2⟩
    · have g1' : getGo (x :: rest) x.toNat [] 1 0 = (u, n', 0) := by simpa using g1
      have hn : n' ≤ (x :: rest).length := by rw [g4, g3]; simp; omega
      rw [hS, g1']
      by_cases hr : rightS u = true
      · simp only [hr, if_true]
        by_cases hu : u = []
        · right
          subst hu
          refine ⟨rfl, hn, .inr ⟨by simpa using g4, ?_⟩⟩
          have hx : x.toNat = 0 := by simpa using g2.symm
          have : x = 0 := UInt8.toNat_inj.1 (by simpa using hx)
          rw [this]; rfl
        · left
          refine ⟨trivial, hu, trivial, hn, ?_⟩
          rw [g4, g3, putB, g2, UInt8.ofNat_toNat, List.length_singleton, Nat.add_comm 1, List.take_succ_cons, List.take_left']
          rfl
      · right
        simp only [hr, Bool.false_eq_true, if_false]
        exact ⟨trivial, hn, .inl (by decide)⟩
    · have g1' : getGo (x :: rest) x.toNat [] 1 0 = (w ++ [strB []], n', e') := by simpa using g1
      right
      rw [hS, g1']
      simp only [not_right_last, Bool.false_eq_true, if_false]
      refine ⟨trivial, ?_, .inl ?_⟩
      · have := getGo_le (x :: rest) x.toNat [] 1 0 (by simp)
        rw [g1'] at this
        exact this
      · rw [failE, if_neg g2]; exact g2
theorem gets_le (b : List UInt8) : (getS b 0 0).2.1 ≤ b.length := by
  rcases gets_sound b with h | h
  · exact h.2.2.2.1
  · exact h.2.1
def endE (b : List UInt8) (r : List ByteArray × Nat × Int) : Int := if r.2.2 = 0 ∧ r.2.1 < b.length then 2 else r.2.2
theorem gets_z1 {b : List UInt8} (h0 : ((getS b 0 0).1.length : Int) = 0) (he : (if (getS b 0 0).2.2 = 0 ∧ (getS b 0 0).2.1 < b.length then 2 else (getS b 0 0).2.2) = 0) : b.length = 1 ∧ (b.getD 0 default).toNat = 0 := by
  rcases gets_sound b with ⟨_, h, _⟩ | ⟨_, hn, h⟩
  · exact absurd (List.eq_nil_of_length_eq_zero (by omega)) h
  · split at he
    · cases he
    · rename_i hc
      rcases h with h | ⟨h1, h2⟩
      · exact absurd he h
      · have hl : b.length = 1 := by
          refine Classical.byContradiction fun hne => hc ⟨he, by omega⟩
        refine ⟨hl, ?_⟩
        cases b with
        | nil => cases h2
        | cons x r =>
          simp only [List.head?_cons, Option.some.injEq] at h2
          rw [h2]; rfl
theorem gets_z2 {b : List UInt8} (h0 : ¬ ((getS b 0 0).1.length : Int) = 0) : rightS (getS b 0 0).1 = true ∧ (getS b 0 0).2.2 = 0 ∧ putB (getS b 0 0).1 = b.take (getS b 0 0).2.1 ∧ (getS b 0 0).2.1 ≤ b.length := by
  rcases gets_sound b with ⟨h1, _, h3, h4, h5⟩ | ⟨h, _⟩
  · exact ⟨h1, h3, h5, h4⟩
  · rw [h] at h0; exact absurd rfl h0
theorem gets_z3 {b : List UInt8} (h0 : ¬ ((getS b 0 0).1.length : Int) = 0) : ((if (getS b 0 0).2.2 = 0 ∧ (getS b 0 0).2.1 < b.length then 2 else (getS b 0 0).2.2) = 0 ∧ (getS b 0 0).2.1 = b.length) ∨ ((if (getS b 0 0).2.2 = 0 ∧ (getS b 0 0).2.1 < b.length then 2 else (getS b 0 0).2.2) = 2 ∧ (getS b 0 0).2.1 < b.length) := by
  obtain ⟨_, h3, _, h4⟩ := gets_z2 h0
  by_cases hlt : (getS b 0 0).2.1 < b.length
  · exact .inr ⟨if_pos ⟨h3, hlt⟩, hlt⟩
  · exact .inl ⟨by rw [if_neg (fun hc => hlt hc.2), h3], by omega⟩
theorem putF_len' (s : ByteArray) : (putF s).length = s.size + 1 := by simp [putF, dlen]
theorem byteOf1_size {s : ByteArray} (h : s.size ≤ 8) : byteOf1 [UInt8.ofNat s.size] = s.size := by
  simp only [byteOf1]
  rw [UInt8.toNat_ofNat_of_lt' (by simp [UInt8.size]; omega)]
 
theorem go_full : ∀ (u : List ByteArray) (out : List ByteArray) (pre post : List UInt8), (∀ s ∈ u, s.size ≤ 8) →
    getGo (pre ++ (u.flatMap putF ++ post)) u.length out pre.length 0 = (out ++ u, pre.length + (u.flatMap putF).length, 0)
  | [], out, pre, post, _ => by simp [getGo]
  | s :: u, out, pre, post, h8 => by
    have hs := h8 s (by simp)
    have hb : pre ++ ((s :: u).flatMap putF ++ post) = pre ++ UInt8.ofNat s.size :: (s.data.toList ++ (u.flatMap putF ++ post)) := by
      rw [List.flatMap_cons, putF]; simp
    have h1 := takeB_one pre (s.data.toList ++ (u.flatMap putF ++ post)) (UInt8.ofNat s.size)
    rw [hb, List.length_cons, getGo_good (by rw [h1]; simp only; rw [byteOf1_size hs]; omega), h1]
    simp only
    have h2 : takeB (pre ++ UInt8.ofNat s.size :: (s.data.toList ++ (u.flatMap putF ++ post))) (pre.length + 1) 0 (byteOf1 [UInt8.ofNat s.size]) = (s.data.toList, pre.length + 1 + s.data.toList.length, 0) := by
      have := takeB_run (pre ++ [UInt8.ofNat s.size]) s.data.toList (u.flatMap putF ++ post) (k := byteOf1 [UInt8.ofNat s.size]) (by rw [byteOf1_size hs, dlen])
      simpa using this
    rw [h2]
    simp only
    have hstr : strB s.data.toList = s := by cases s; simp [strB]
    have hp : pre.length + 1 + s.data.toList.length = (pre ++ putF s).length := by rw [List.length_append, putF_len', dlen]; omega
    have hb2 : pre ++ UInt8.ofNat s.size :: (s.data.toList ++ (u.flatMap putF ++ post)) = (pre ++ putF s) ++ (u.flatMap putF ++ post) := by rw [putF]; simp
    rw [hstr, hp, hb2, go_full u (out ++ [s]) (pre ++ putF s) post (fun x hx => h8 x (by simp [hx]))]
    simp [List.flatMap_cons, Nat.add_assoc]
 
theorem go_cut : ∀ (u : List ByteArray) (out : List ByteArray) (pre : List UInt8) (c : Nat), (∀ s ∈ u, s.size ≤ 8) → c < (u.flatMap putF).length →
    ∃ w n', getGo (pre ++ (u.flatMap putF).take c) u.length out pre.length 0 = (w ++ [strB []], n', 2)
  | [], out, pre, c, _, hc => by simp at hc
  | s :: u, out, pre, 0, h8, hc => by
    rw [List.take_zero, List.append_nil, List.length_cons, getGo_good (by rw [takeB_none]; simp [byteOf1]), takeB_none]
    simp only [byteOf1]
    rw [takeB_err (by decide)]
    simp only
    obtain ⟨w, hw⟩ := go_err_last pre (e := 2) (by decide) u.length out pre.length
    exact ⟨w, _, hw⟩
  | s :: u, out, pre, c + 1, h8, hc => by
    have hs := h8 s (by simp)
    have hb : pre ++ ((s :: u).flatMap putF).take (c + 1) = pre ++ UInt8.ofNat s.size :: (s.data.toList ++ u.flatMap putF).take c := by
      rw [List.flatMap_cons, putF, List.cons_append, List.take_succ_cons]
    have h1 := takeB_one pre ((s.data.toList ++ u.flatMap putF).take c) (UInt8.ofNat s.size)
    rw [hb, List.length_cons, getGo_good (by rw [h1]; simp only; rw [byteOf1_size hs]; omega), h1]
    simp only
    rcases Nat.lt_or_ge c s.size with hlt | hge
    · have hl : ((s.data.toList ++ u.flatMap putF).take c).length = c := by
        have := dlen s
        simp; omega
      have h2 : takeB (pre ++ UInt8.ofNat s.size :: (s.data.toList ++ u.flatMap putF).take c) (pre.length + 1) 0 (byteOf1 [UInt8.ofNat s.size]) = ([], pre.length + 1, 2) := by
        have := takeB_short (pre ++ [UInt8.ofNat s.size]) ((s.data.toList ++ u.flatMap putF).take c) (k := byteOf1 [UInt8.ofNat s.size]) (by rw [byteOf1_size hs, hl]; omega)
        simpa using this
      rw [h2]
      simp only
      obtain ⟨w, hw⟩ := go_err_last (pre ++ UInt8.ofNat s.size :: (s.data.toList ++ u.flatMap putF).take c) (e := 2) (by decide) u.length out (pre.length + 1)
      exact ⟨w, _, hw⟩
    · have htk : (s.data.toList ++ u.flatMap putF).take c = s.data.toList ++ (u.flatMap putF).take (c - s.size) := by
        rw [List.take_append, dlen, List.take_of_length_le (by rw [dlen]; omega)]
      rw [htk]
      have h2 : takeB (pre ++ UInt8.ofNat s.size :: (s.data.toList ++ (u.flatMap putF).take (c - s.size))) (pre.length + 1) 0 (byteOf1 [UInt8.ofNat s.size]) = (s.data.toList, pre.length + 1 + s.data.toList.length, 0) := by
        have := takeB_run (pre ++ [UInt8.ofNat s.size]) s.data.toList ((u.flatMap putF).take (c - s.size)) (k := byteOf1 [UInt8.ofNat s.size]) (by rw [byteOf1_size hs, dlen])
        simpa using this
      rw [h2]
      simp only
      have hp : pre.length + 1 + s.data.toList.length = (pre ++ putF s).length := by rw [List.length_append, putF_len', dlen]; omega
      have hb2 : pre ++ UInt8.ofNat s.size :: (s.data.toList ++ (u.flatMap putF).take (c - s.size)) = (pre ++ putF s) ++ (u.flatMap putF).take (c - s.size) := by rw [putF]; simp
      rw [hp, hb2]
      refine go_cut u _ (pre ++ putF s) (c - s.size) (fun x hx => h8 x (by simp [hx])) ?_
      rw [List.flatMap_cons, List.length_append, putF_len'] at hc
      omega
theorem len_u8 {t : List ByteArray} (h : rightS t = true) : (UInt8.ofNat t.length).toNat = t.length := by
  have := (right_at h).1
  rw [UInt8.toNat_ofNat_of_lt' (by simp [UInt8.size]; omega)]
theorem gets_put {t : List ByteArray} (h : rightS t = true) : getS (putB t) 0 0 = (t, (putB t).length, 0) := by
  have h1 : takeB (putB t) 0 0 1 = ([UInt8.ofNat t.length], 1, 0) := takeB_one [] _ _
  have h2 := go_full t [] [UInt8.ofNat t.length] [] (right_size h)
  rw [List.append_nil] at h2
  have h2' : getGo (putB t) t.length [] 1 0 = (t, (putB t).length, 0) := by
    simpa [putB, Nat.add_comm] using h2
  simp only [getS, h1, byteOf1, Int.toNat_natCast, len_u8 h, h2', h, if_true]
theorem gets_cut {t : List ByteArray} (h : rightS t = true) {c : Nat} (hc : c < (putB t).length) : (getS ((putB t).take c) 0 0).1 = [] ∧ (getS ((putB t).take c) 0 0).2.2 = 2 := by
  cases c with
  | zero =>
    rw [List.take_zero]
    have : getS [] 0 0 = ([], 0, 2) := by decide +kernel
    rw [this]
    exact ⟨rfl, rfl⟩
  | succ c =>
    have hb : (putB t).take (c + 1) = [UInt8.ofNat t.length] ++ (t.flatMap putF).take c := by rw [putB, List.take_succ_cons]; rfl
    have h1 : takeB ([UInt8.ofNat t.length] ++ (t.flatMap putF).take c) 0 0 1 = ([UInt8.ofNat t.length], 1, 0) := takeB_one [] _ _
    obtain ⟨w, n', g⟩ := go_cut t [] [UInt8.ofNat t.length] c (right_size h) (by simp only [putB, List.length_cons] at hc; omega)
    have g' : getGo ([UInt8.ofNat t.length] ++ (t.flatMap putF).take c) t.length [] 1 0 = (w ++ [strB []], n', 2) := by simpa using g
    rw [hb]
    simp only [getS, h1, byteOf1, Int.toNat_natCast, len_u8 h, g', not_right_last, Bool.false_eq_true, if_false]
    exact ⟨trivial, rfl⟩
theorem put_small (l : List ByteArray) : (putB (orderS l)).length ≤ 1000000000 := by
  have := putB_len (order_right l)
  simp only [List.length_map] at this
  omega
theorem put_small_take (l : List ByteArray) (c : Nat) : ((putB (orderS l)).take c).length ≤ 1000000000 := by
  have := put_small l
  simp only [List.length_take]
  omega
theorem tmod_nn (a b : Nat) : (a : Int).tmod (b : Int) = ((a % b : Nat) : Int) := (Int.ofNat_tmod a b).symm
theorem put_pos (t : List ByteArray) : 0 < (putB t).length := by simp [putB]
theorem put_ne (l : List ByteArray) : ((putB (orderS l)).length : Int) ≠ 0 := by have := put_pos (orderS l); omega
theorem back_end (l : List ByteArray) : (if (getS (putB (orderS l)) 0 0).2.2 = 0 ∧ (getS (putB (orderS l)) 0 0).2.1 < (putB (orderS l)).length then 2 else (getS (putB (orderS l)) 0 0).2.2) = 0 := by
  rw [gets_put (order_right l)]
  rw [if_neg (fun h => absurd h.2 (Nat.lt_irrefl _))]
theorem back_same (l : List ByteArray) : (getS (putB (orderS l)) 0 0).1 = orderS l := by rw [gets_put (order_right l)]
theorem back_cut (l : List ByteArray) (c : Nat) : (getS ((putB (orderS l)).take (c % (putB (orderS l)).length)) 0 0).1 = [] ∧ (getS ((putB (orderS l)).take (c % (putB (orderS l)).length)) 0 0).2.2 = 2 :=
  gets_cut (order_right l) (Nat.mod_lt _ (put_pos _))
theorem mod_le (c : Nat) (t : List ByteArray) : c % (putB t).length ≤ (putB t).length := Nat.le_of_lt (Nat.mod_lt _ (put_pos _))
theorem back_cutE (l : List ByteArray) (c m : Nat) : (if (getS ((putB (orderS l)).take (c % (putB (orderS l)).length)) 0 0).2.2 = 0 ∧ (getS ((putB (orderS l)).take (c % (putB (orderS l)).length)) 0 0).2.1 < m then 2 else (getS ((putB (orderS l)).take (c % (putB (orderS l)).length)) 0 0).2.2) = 2 := by
  rw [(back_cut l c).2]
  exact if_neg (fun h => absurd h.1 (by decide))
theorem back_cut0 (l : List ByteArray) (c : Nat) : ((getS ((putB (orderS l)).take (c % (putB (orderS l)).length)) 0 0).1.length : Int) = 0 := by
  rw [(back_cut l c).1]; rfl
theorem wf_u16 {n : Int} (h : (Lit.int .u16 n).wf = true) : 0 ≤ n ∧ n < 65536 := by
  simp [Lit.wf, IntKind.min, IntKind.max, IntKind.bits, IntKind.signed] at h
  omega
end Go.Fw
namespace Go.Fw
open Go
set_option linter.unusedVariables false
set_option linter.unusedSimpArgs false
 
def putN (n : Nat) : List UInt8 := if n < 128 then [UInt8.ofNat n] else UInt8.ofNat (n % 128 + 128) :: putN (n / 128)
termination_by n
decreasing_by omega
theorem putN_lt {n : Nat} (h : n < 128) : putN n = [UInt8.ofNat n] := by rw [putN, if_pos h]
theorem putN_ge {n : Nat} (h : 128 ≤ n) : putN n = UInt8.ofNat (n % 128 + 128) :: putN (n / 128) := by rw [putN, if_neg (by omega)]
theorem putN_pos (n : Nat) : 0 < (putN n).length := by
  by_cases h : n < 128
  · rw [putN_lt h]; exact Nat.one_pos
  · rw [putN_ge (by omega)]; exact Nat.succ_pos _
theorem putN_len : ∀ (k n : Nat), n < 128 ^ (k + 1) → (putN n).length ≤ k + 1
  | 0, n, h => by rw [putN_lt (by simpa using h)]; exact Nat.le_refl _
  | k + 1, n, h => by
    by_cases hn : n < 128
    · rw [putN_lt hn]; show 1 ≤ k + 1 + 1; omega
    · rw [putN_ge (by omega)]
      have := putN_len k (n / 128) (by rw [Nat.pow_succ] at h; omega)
      show (putN (n / 128)).length + 1 ≤ k + 1 + 1
      omega
 
def numGo : List UInt8 → Nat → Nat → Nat × Nat × Int
  | [], i, x => (0, 0, 2)
  | b :: r, i, x => if i = 9 then (0, 0, 3) else if b.toNat < 128 then (if b.toNat = 0 ∧ 0 < i then (0, 0, 3) else (x + b.toNat % 128 * 128 ^ i, i + 1, 0)) else numGo r (i + 1) (x + b.toNat % 128 * 128 ^ i)
def numS (b : List UInt8) (n : Nat) (e : Int) : Nat × Nat × Int := if e = 0 then ((numGo (b.drop n) 0 0).1, n + (numGo (b.drop n) 0 0).2.1, (numGo (b.drop n) 0 0).2.2) else (0, n, e)
 
def mostS (b : List UInt8) (n : Nat) (e k : Int) : Nat × Nat × Int := if k < ((numS b n e).1 : Int) then (0, n, failE (numS b n e).2.2 3) else numS b n e
 
def textS (b : List UInt8) (n : Nat) (e : Int) : ByteArray × Nat × Int :=
  let r := mostS b n e 4096
  let t := takeB b r.2.1 r.2.2 (r.1 : Int)
  (strB t.1, if t.2.2 = 0 then t.2.1 else n, t.2.2)
def putT (s : ByteArray) : List UInt8 := putN s.size ++ s.data.toList
theorem numGo_le : ∀ (r : List UInt8) (i x : Nat), (numGo r i x).2.1 ≤ i + r.length
  | [], i, x => by simp [numGo]
  | b :: r, i, x => by
    have := numGo_le r (i + 1) (x + b.toNat % 128 * 128 ^ i)
    simp only [numGo, List.length_cons]
    split
    · simp
    · split
      · split <;> simp <;> omega
      · omega
theorem numGo_lt : ∀ (r : List UInt8) (i x : Nat), x < 128 ^ i → i ≤ 9 → (numGo r i x).1 < 128 ^ 9
  | [], i, x, hx, hi => by simp [numGo]
  | b :: r, i, x, hx, hi => by
    simp only [numGo]
    split
    · simp
    · have h1 : x + b.toNat % 128 * 128 ^ i < 128 ^ (i + 1) := by
        have : b.toNat % 128 * 128 ^ i ≤ 127 * 128 ^ i := Nat.mul_le_mul_right _ (by omega)
        rw [Nat.pow_succ]
        omega
      split
      · split
        · simp
        · exact Nat.lt_of_lt_of_le h1 (Nat.pow_le_pow_right (by omega) (by omega))
      · exact numGo_lt r (i + 1) _ h1 (by omega)
theorem numS_le {b : List UInt8} {n : Nat} {e : Int} (hn : n ≤ b.length) : (numS b n e).2.1 ≤ b.length := by
  unfold numS
  split
  · have := numGo_le (b.drop n) 0 0
    simp only [List.length_drop] at this
    show n + (numGo (b.drop n) 0 0).2.1 ≤ _
    omega
  · exact hn
theorem numS_lt (b : List UInt8) (n : Nat) (e : Int) : (numS b n e).1 < 9223372036854775808 := by
  unfold numS
  split
  · have := numGo_lt (b.drop n) 0 0 (by simp) (by omega)
    simpa using this
  · simp
theorem mostS_le {b : List UInt8} {n : Nat} {e k : Int} (hn : n ≤ b.length) : (mostS b n e k).2.1 ≤ b.length := by
  unfold mostS
  split
  · exact hn
  · exact numS_le hn
theorem mostS_most (b : List UInt8) (n : Nat) (e : Int) {k : Int} (hk : 0 ≤ k) : ((mostS b n e k).1 : Int) ≤ k := by
  unfold mostS
  split
  · exact hk
  · omega
theorem textS_le {b : List UInt8} {n : Nat} {e : Int} (hn : n ≤ b.length) : (textS b n e).2.1 ≤ b.length := by
  simp only [textS]
  split
  · exact takeB_le (mostS_le hn)
  · exact hn
theorem ofNat_toNat {n : Nat} (h : n < 256) : (UInt8.ofNat n).toNat = n := by
  simp only [UInt8.toNat_ofNat']
  exact Nat.mod_eq_of_lt h
theorem numGo_put (post : List UInt8) : ∀ (v i x : Nat), i + (putN v).length ≤ 9 → (0 < v ∨ i = 0) → numGo (putN v ++ post) i x = (x + v * 128 ^ i, i + (putN v).length, 0)
  | v, i, x, hl, hv => by
    have ht : v / 128 < v ∨ v < 128 := by omega
    by_cases h : v < 128
    · rw [putN_lt h] at hl ⊢
      have hl' : i + 1 ≤ 9 := hl
      simp only [List.cons_append, List.nil_append, numGo, ofNat_toNat (show v < 256 by omega), if_pos h, if_neg (show ¬ i = 9 by omega), if_neg (show ¬ (v = 0 ∧ 0 < i) by omega), Nat.mod_eq_of_lt h]
      rfl
    · have hge : 128 ≤ v := by omega
      rw [putN_ge hge] at hl ⊢
      have hl' : i + 1 + (putN (v / 128)).length ≤ 9 := by simp only [List.length_cons] at hl; omega
      have := numGo_put post (v / 128) (i + 1) (x + (v % 128 + 128) % 128 * 128 ^ i) hl' (.inl (by omega))
      simp only [List.cons_append, numGo, ofNat_toNat (show v % 128 + 128 < 256 by omega), if_neg (show ¬ v % 128 + 128 < 128 by omega), if_neg (show ¬ i = 9 by omega), this, List.length_cons, Prod.mk.injEq, and_true]
      refine ⟨?_, by omega⟩
      have e1 : (v % 128 + 128) % 128 = v % 128 := by omega
      rw [e1, Nat.pow_succ, Nat.add_assoc]
      congr 1
      have e2 : v / 128 * (128 ^ i * 128) = v / 128 * 128 * 128 ^ i := by rw [Nat.mul_assoc, Nat.mul_comm 128 (128 ^ i)]
      rw [e2, ← Nat.add_mul]
      congr 1
      omega
termination_by v => v
decreasing_by omega
theorem numS_put (pre post : List UInt8) {v : Nat} (hv : v < 9223372036854775808) : numS (pre ++ (putN v ++ post)) pre.length 0 = (v, pre.length + (putN v).length, 0) := by
  have hl := putN_len 8 v (by simpa using hv)
  simp only [numS, List.drop_left, numGo_put post v 0 0 (by omega) (.inr rfl)]
  simp
theorem mostS_put (pre post : List UInt8) {v : Nat} {k : Int} (hv : v < 9223372036854775808) (hk : (v : Int) ≤ k) : mostS (pre ++ (putN v ++ post)) pre.length 0 k = (v, pre.length + (putN v).length, 0) := by
  rw [mostS, numS_put pre post hv, if_neg (by show ¬ k < (v : Int); omega)]
theorem textS_put (pre post : List UInt8) {s : ByteArray} (hs : s.size ≤ 4096) : textS (pre ++ (putT s ++ post)) pre.length 0 = (s, pre.length + (putT s).length, 0) := by
  have e : pre ++ (putT s ++ post) = pre ++ (putN s.size ++ (s.data.toList ++ post)) := by simp [putT]
  have h1 := mostS_put pre (s.data.toList ++ post) (v := s.size) (k := 4096) (by omega) (by omega)
  have e2 : pre ++ (putN s.size ++ (s.data.toList ++ post)) = (pre ++ putN s.size) ++ (s.data.toList ++ post) := by simp
  have h2 := takeB_run (pre ++ putN s.size) s.data.toList post (k := (s.size : Int)) rfl
  rw [List.length_append] at h2
  simp only [textS, e, h1]
  rw [e2, h2]
  simp only [if_pos, putT, List.length_append, Prod.mk.injEq, and_true]
  exact ⟨by cases s; rfl, by omega⟩
end Go.Fw
namespace Go.Fw
open Go
set_option linter.unusedVariables false
set_option linter.unusedSimpArgs false
 
def bl (x : Nat) : Nat := if x = 0 then 0 else x.log2 + 1
theorem bl_le {x w : Nat} : bl x ≤ w ↔ x < 2 ^ w := by
  unfold bl
  split
  · rename_i h
    subst h
    simp [Nat.pow_pos]
  · rename_i h
    rw [← Nat.log2_lt h]
    omega
def widN : List Nat → Nat
  | [] => 0
  | x :: r => max (bl x) (widN r)
theorem widN_le {w : Nat} : ∀ {l : List Nat}, widN l ≤ w ↔ ∀ x ∈ l, x < 2 ^ w
  | [] => by simp [widN]
  | x :: r => by
    simp only [widN, Nat.max_le, bl_le, widN_le (l := r), List.mem_cons, forall_eq_or_imp]
theorem widN_lt {l : List Nat} {x : Nat} (h : x ∈ l) : x < 2 ^ widN l := widN_le.1 (Nat.le_refl _) x h
theorem widN_snoc (l : List Nat) (x : Nat) : widN (l ++ [x]) = max (widN l) (bl x) := by
  induction l with
  | nil => simp [widN]
  | cons y r ih => simp only [List.cons_append, widN, ih]; omega
 
def bitP (l : List Nat) (w k : Nat) : Nat := l.getD (k / w) 0 / 2 ^ (k % w) % 2
 
def octS (f : Nat → Nat) (m j : Nat) : Nat → Nat
  | 0 => 0
  | b + 1 => octS f m j b + (if 8 * j + b < m then f (8 * j + b) * 2 ^ b else 0)
theorem octS_zero (f : Nat → Nat) (j : Nat) : ∀ b, octS f 0 j b = 0
  | 0 => rfl
  | b + 1 => by simp [octS, octS_zero f j b]
theorem octS_step (f : Nat → Nat) (m j : Nat) : ∀ b, octS f (m + 1) j b = octS f m j b + (if m / 8 = j ∧ m % 8 < b ∧ b ≤ 8 then f m * 2 ^ (m % 8) else 0) ∨ 8 < b
  | 0 => .inl (by simp [octS])
  | b + 1 => by
    by_cases h8 : 8 < b + 1
    · exact .inr h8
    · refine .inl ?_
      rcases octS_step f m j b with h | h
      · simp only [octS, h]
        by_cases he : 8 * j + b = m
        · have h1 : m / 8 = j := by omega
          have h2 : m % 8 = b := by omega
          rw [if_neg (by omega), if_pos (by omega), if_neg (by omega), if_pos (by omega), h2, he]
        · by_cases hc : m / 8 = j ∧ m % 8 < b ∧ b ≤ 8
          · rw [if_pos hc, if_pos (show m / 8 = j ∧ m % 8 < b + 1 ∧ b + 1 ≤ 8 by omega), if_neg (show ¬ 8 * j + b < m + 1 by omega), if_neg (show ¬ 8 * j + b < m by omega)]
            omega
          · rw [if_neg hc, if_neg (show ¬ (m / 8 = j ∧ m % 8 < b + 1 ∧ b + 1 ≤ 8) by omega)]
            by_cases hl : 8 * j + b < m
            · rw [if_pos (by omega), if_pos hl]; try omega
            · rw [if_neg (by omega), if_neg hl]; try omega
      · omega
theorem octS_lt {f : Nat → Nat} (hf : ∀ k, f k ≤ 1) (m j : Nat) : ∀ b, octS f m j b < 2 ^ b
  | 0 => by simp [octS]
  | b + 1 => by
    have h1 := octS_lt hf m j b
    have h2 : f (8 * j + b) * 2 ^ b ≤ 1 * 2 ^ b := Nat.mul_le_mul_right _ (hf _)
    simp only [octS, Nat.pow_succ]
    split <;> omega
theorem octS_bit {f : Nat → Nat} (hf : ∀ k, f k ≤ 1) (m j : Nat) : ∀ b t, t < b → octS f m j b / 2 ^ t % 2 = if 8 * j + t < m then f (8 * j + t) else 0
  | 0, t, h => absurd h (Nat.not_lt_zero _)
  | b + 1, t, h => by
    simp only [octS]
    by_cases ht : t = b
    · subst ht
      have h1 := octS_lt hf m j t
      split
      · rw [Nat.add_mul_div_right _ _ (Nat.pow_pos (by omega)), Nat.div_eq_of_lt h1]
        have := hf (8 * j + t)
        omega
      · rw [Nat.add_zero, Nat.div_eq_of_lt h1]
    · have ih := octS_bit hf m j b t (by omega)
      split
      · rw [← ih]
        have e : f (8 * j + b) * 2 ^ b = f (8 * j + b) * 2 ^ (b - t - 1) * 2 * 2 ^ t := by
          have : 2 ^ b = 2 ^ (b - t - 1) * 2 * 2 ^ t := by rw [← Nat.pow_succ, ← Nat.pow_add]; congr 1; omega
          rw [this]; simp only [Nat.mul_assoc]
        rw [e, Nat.add_mul_div_right _ _ (Nat.pow_pos (by omega)), Nat.add_mul_mod_self_right]
      · rw [Nat.add_zero, ih]
theorem bitP_le (l : List Nat) (w k : Nat) : bitP l w k ≤ 1 := by unfold bitP; omega
 
def upP (l : List Nat) (w m n : Nat) : List UInt8 := (List.range n).map fun j => UInt8.ofNat (octS (bitP l w) m j 8)
def sizeP (n w : Nat) : Nat := (n * w + 7) / 8
 
def putP (l : List Nat) (w : Nat) : List UInt8 := upP l w (l.length * w) (sizeP l.length w)
theorem putP_len (l : List Nat) (w : Nat) : (putP l w).length = sizeP l.length w := by simp [putP, upP]
 
def bitB (b : List UInt8) (t : Nat) : Nat := (b.getD (t / 8) 0).toNat / 2 ^ (t % 8) % 2
def getU (b : List UInt8) (w i : Nat) : Nat → Nat
  | 0 => 0
  | k + 1 => getU b w i k + bitB b (i * w + k) * 2 ^ k
def getP (b : List UInt8) (w i : Nat) : Nat := getU b w i w
theorem getU_lt (b : List UInt8) (w i : Nat) : ∀ k, getU b w i k < 2 ^ k
  | 0 => by simp [getU]
  | k + 1 => by
    have h1 := getU_lt b w i k
    have h2 : bitB b (i * w + k) * 2 ^ k ≤ 1 * 2 ^ k := Nat.mul_le_mul_right _ (by unfold bitB; omega)
    simp only [getU, Nat.pow_succ]
    omega
theorem bit_put {l : List Nat} {w t : Nat} (ht : t < l.length * w) : bitB (putP l w) t = bitP l w t := by
  have h1 : t / 8 < sizeP l.length w := by unfold sizeP; omega
  have h2 := octS_lt (bitP_le l w) (l.length * w) (t / 8) 8
  have e : (putP l w).getD (t / 8) 0 = UInt8.ofNat (octS (bitP l w) (l.length * w) (t / 8) 8) := by
    simp [putP, upP, List.getD_eq_getElem?_getD, List.getElem?_map, List.getElem?_range h1]
  rw [bitB, e, ofNat_toNat (by omega), octS_bit (bitP_le l w) _ _ 8 _ (by omega), if_pos (by omega)]
  congr 1
  omega
theorem get_put {l : List Nat} {w i : Nat} (hi : i < l.length) (hx : l.getD i 0 < 2 ^ w) : getP (putP l w) w i = l.getD i 0 := by
  have key : ∀ k, k ≤ w → getU (putP l w) w i k = l.getD i 0 % 2 ^ k := by
    intro k
    induction k with
    | zero => intro _; simp [getU, Nat.mod_one]
    | succ k ih =>
      intro hk
      have hlt : i * w + k < l.length * w := by
        have : (i + 1) * w ≤ l.length * w := Nat.mul_le_mul_right _ hi
        rw [Nat.add_mul, Nat.one_mul] at this
        omega
      rw [getU, ih (by omega), bit_put hlt, bitP]
      have e1 : (i * w + k) / w = i := by
        rw [Nat.mul_comm, Nat.mul_add_div (by omega), Nat.div_eq_of_lt (by omega), Nat.add_zero]
      have e2 : (i * w + k) % w = k := by
        rw [Nat.mul_comm, Nat.mul_add_mod, Nat.mod_eq_of_lt (by omega)]
      rw [e1, e2, Nat.mul_comm (_ % 2), ← Nat.mod_mul, Nat.pow_succ]
  rw [getP, key w (Nat.le_refl _), Nat.mod_eq_of_lt hx]
 
def pkW (l : List Nat) : List UInt8 := putN l.length ++ UInt8.ofNat (widN l) :: putP l (widN l)
 
def readP (b : List UInt8) (n : Nat) (e : Int) (many : Int) : List Nat × Nat × Int :=
  let r := mostS b n e many
  let t := takeB b r.2.1 r.2.2 1
  let w := (byteOf1 t.1).toNat
  if 32 < w then ([], t.2.1, failE t.2.2 3) else
  let u := takeB b t.2.1 t.2.2 (sizeP r.1 w : Nat)
  if u.1.length < sizeP r.1 w then ([], u.2.1, u.2.2) else
  let out := (List.range r.1).map (getP u.1 w)
  if widN out = w ∧ putP out w = u.1 then (out, u.2.1, u.2.2) else ([], u.2.1, failE u.2.2 3)
theorem get_all {l : List Nat} {w : Nat} (h : ∀ x ∈ l, x < 2 ^ w) : (List.range l.length).map (getP (putP l w) w) = l := by
  refine List.ext_getElem (by simp) fun i h1 h2 => ?_
  simp only [List.getElem_map, List.getElem_range]
  have e : l.getD i 0 = l[i] := by simp [List.getD_eq_getElem?_getD, h2]
  rw [get_put h2 (by rw [e]; exact h _ (List.getElem_mem _)), e]
theorem readP_put (pre post : List UInt8) {l : List Nat} {many : Int} (hm : (l.length : Int) ≤ many) (hl : l.length < 9223372036854775808) (hx : ∀ x ∈ l, x < 2 ^ 32) :
    readP (pre ++ (pkW l ++ post)) pre.length 0 many = (l, pre.length + (pkW l).length, 0) := by
  have hw : widN l ≤ 32 := widN_le.2 hx
  have e1 : pre ++ (pkW l ++ post) = pre ++ (putN l.length ++ (UInt8.ofNat (widN l) :: (putP l (widN l) ++ post))) := by simp [pkW]
  have h1 := mostS_put pre (UInt8.ofNat (widN l) :: (putP l (widN l) ++ post)) hl hm
  have e2 : pre ++ (putN l.length ++ (UInt8.ofNat (widN l) :: (putP l (widN l) ++ post))) = (pre ++ putN l.length) ++ UInt8.ofNat (widN l) :: (putP l (widN l) ++ post) := by simp
  have h2 := takeB_one (pre ++ putN l.length) (putP l (widN l) ++ post) (UInt8.ofNat (widN l))
  rw [List.length_append] at h2
  have e3 : (pre ++ putN l.length) ++ UInt8.ofNat (widN l) :: (putP l (widN l) ++ post) = (pre ++ putN l.length ++ [UInt8.ofNat (widN l)]) ++ (putP l (widN l) ++ post) := by simp
  have h3 := takeB_run (pre ++ putN l.length ++ [UInt8.ofNat (widN l)]) (putP l (widN l)) post (k := (sizeP l.length (widN l) : Nat)) (by rw [putP_len])
  simp only [List.length_append, List.length_cons, List.length_nil] at h3
  have hw' : (byteOf1 [UInt8.ofNat (widN l)]).toNat = widN l := by rw [byteOf1_x, ofNat_toNat (by omega)]; rfl
  simp only [readP, e1, h1]
  rw [e2, h2]
  simp only [hw', if_neg (show ¬ 32 < widN l by omega)]
  rw [e3, h3]
  simp only [putP_len, Nat.lt_irrefl, if_false, get_all (fun x hx => widN_lt hx), true_and, if_true, Prod.mk.injEq, and_true]
  simp [pkW, putP_len]
  omega
end Go.Fw
namespace Go.Fw
open Go
set_option linter.unusedVariables false
set_option linter.unusedSimpArgs false
 
def lcp : List UInt8 → List UInt8 → Nat
  | a :: l, b :: m => if a = b then lcp l m + 1 else 0
  | _, _ => 0
theorem lcp_nil (m : List UInt8) : lcp [] m = 0 := by simp [lcp]
theorem lcp_nil' (m : List UInt8) : lcp m [] = 0 := by cases m <;> simp [lcp]
theorem lcp_left : ∀ l m : List UInt8, lcp l m ≤ l.length
  | [], m => by simp [lcp_nil]
  | a :: l, [] => by simp [lcp_nil']
  | a :: l, b :: m => by
    have := lcp_left l m
    simp only [lcp, List.length_cons]
    split <;> omega
theorem lcp_right : ∀ l m : List UInt8, lcp l m ≤ m.length
  | [], m => by simp [lcp_nil]
  | a :: l, [] => by simp [lcp_nil']
  | a :: l, b :: m => by
    have := lcp_right l m
    simp only [lcp, List.length_cons]
    split <;> omega
theorem lcp_take : ∀ l m : List UInt8, l.take (lcp l m) = m.take (lcp l m)
  | [], m => by simp [lcp_nil]
  | a :: l, [] => by simp [lcp_nil']
  | a :: l, b :: m => by
    simp only [lcp]
    split
    · rename_i h
      subst h
      simp [lcp_take l m]
    · simp
 
theorem lcp_eq : ∀ (l m : List UInt8) (n : Nat), n ≤ l.length → n ≤ m.length → (∀ j, j < n → l.getD j 0 = m.getD j 0) → (n = l.length ∨ n = m.length ∨ l.getD n 0 ≠ m.getD n 0) → lcp l m = n
  | [], m, n, h1, _, _, _ => by simp only [List.length_nil] at h1; rw [lcp_nil]; omega
  | a :: l, [], n, _, h2, _, _ => by simp only [List.length_nil] at h2; rw [lcp_nil']; omega
  | a :: l, b :: m, 0, _, _, _, h => by
    simp only [lcp]
    rcases h with h | h | h
    · simp at h
    · simp at h
    · rw [if_neg (by simpa using h)]
  | a :: l, b :: m, n + 1, h1, h2, he, h => by
    have h0 := he 0 (by omega)
    simp only [List.getD_cons_zero] at h0
    simp only [lcp, if_pos h0]
    simp only [List.length_cons] at h1 h2 h
    rw [lcp_eq l m n (by omega) (by omega) (fun j hj => by simpa using he (j + 1) (by omega)) (by simpa using h)]
def lcpS (a b : ByteArray) : Nat := lcp a.data.toList b.data.toList
theorem lcpS_left (a b : ByteArray) : lcpS a b ≤ a.size := lcp_left _ _
theorem lcpS_right (a b : ByteArray) : lcpS a b ≤ b.size := lcp_right _ _
theorem extract_list (s : ByteArray) (i j : Nat) : (s.extract i j).data.toList = (s.data.toList.take j).drop i := by
  simp [ByteArray.data_extract, Array.toList_extract, List.extract, List.drop_take]
theorem lcpS_join (p s : ByteArray) : p.extract 0 (lcpS p s) ++ s.extract (lcpS p s) s.size = s := by
  apply bytes_inj
  rw [ByteArray.data_append, Array.toList_append, extract_list, extract_list]
  have h := lcp_take p.data.toList s.data.toList
  simp only [List.drop_zero]
  show p.data.toList.take (lcp p.data.toList s.data.toList) ++ _ = _
  rw [h, List.take_of_length_le (show s.data.toList.length ≤ s.size from Nat.le_refl _)]
  exact List.take_append_drop _ _
 
def entR : ByteArray → List ByteArray → List UInt8
  | _, [] => []
  | p, s :: r => putN (lcpS p s) ++ (putT (s.extract (lcpS p s) s.size) ++ entR s r)
def entB : List ByteArray → List UInt8
  | [] => []
  | s :: r => putT s ++ entR s r
 
def chs (k : Nat) (l : List ByteArray) : List (List ByteArray) := if h : l = [] ∨ k = 0 then [] else l.take k :: chs k (l.drop k)
termination_by l.length
decreasing_by
  have : l.length ≠ 0 := fun h0 => h (.inl (List.length_eq_zero_iff.1 h0))
  simp only [List.length_drop]
  omega
 
def buildS (t : List ByteArray) (k : Nat) : List UInt8 := putN t.length ++ (putN k ++ (pkW ((chs k t).map fun c => (entB c).length) ++ (chs k t).flatMap entB))
def okF (t : List ByteArray) (i : Nat) : Bool := decide ((t.getD i default).size ≤ 4096) && (decide (i = 0) || slt (t.getD (i - 1) default) (t.getD i default))
def rightF (t : List ByteArray) (k : Int) : Bool := decide (1 ≤ k) && decide (k ≤ 64) && decide (t.length ≤ 4096) && (List.range t.length).all (okF t)
 
def takGo (b : List UInt8) : Nat → List ByteArray → ByteArray → Nat → Int → Bool × List ByteArray × Nat × Int
  | 0, out, p, n, e => (true, out, n, e)
  | m + 1, out, p, n, e =>
    let r := mostS b n e (p.size : Int)
    let t := textS b r.2.1 r.2.2
    if t.2.2 = 0 then
      let s := p.extract 0 r.1 ++ t.1
      takGo b m (out ++ [s]) s t.2.1 (if lcpS p s = r.1 then 0 else 3)
    else (false, [], t.2.1, t.2.2)
def takS (b : List UInt8) (cnt size n : Nat) (e : Int) : List ByteArray × Nat × Int :=
  let t := textS b n e
  let g := takGo b (cnt - 1) [t.1] t.1 t.2.1 t.2.2
  if g.1 then (g.2.1, g.2.2.1, if n + size = g.2.2.1 then g.2.2.2 else failE g.2.2.2 3) else ([], g.2.2.1, g.2.2.2)
 
def opGo (b : List UInt8) (k m : Nat) : List Nat → Nat → List ByteArray → Nat → Int → Bool × List ByteArray × Nat × Int
  | [], i, l, n, e => (true, l, n, e)
  | z :: r, i, l, n, e =>
    let t := takS b (min k (m - i * k)) z n e
    if t.2.2 = 0 then opGo b k m r (i + 1) (l ++ t.1) t.2.1 t.2.2 else (false, [], t.2.1, t.2.2)
def openS (b : List UInt8) (n : Nat) (e : Int) : List ByteArray × Nat × Int :=
  let r1 := mostS b n e 4096
  let r2 := mostS b r1.2.1 r1.2.2 64
  let r3 := readP b r2.2.1 r2.2.2 4096
  if r2.1 = 0 ∨ r3.1.length ≠ (r1.1 + r2.1 - 1) / r2.1 then ([], r3.2.1, failE r3.2.2 3) else
  let g := opGo b r2.1 r1.1 r3.1 0 [] r3.2.1 r3.2.2
  if g.1 then (if rightF g.2.1 r2.1 && decide (g.2.2.2 = 0) then (g.2.1, g.2.2.1, 0) else ([], g.2.2.1, if rightF g.2.1 r2.1 then g.2.2.2 else failE g.2.2.2 3))
  else ([], g.2.2.1, g.2.2.2)
theorem tak_run : ∀ (r : List ByteArray) (p : ByteArray) (out : List ByteArray) (pre post : List UInt8), p.size ≤ 4096 → (∀ s ∈ r, s.size ≤ 4096) →
    takGo (pre ++ (entR p r ++ post)) r.length out p pre.length 0 = (true, out ++ r, pre.length + (entR p r).length, 0)
  | [], p, out, pre, post, hp, h => by simp [takGo, entR]
  | s :: r, p, out, pre, post, hp, h => by
    have h1 := lcpS_left p s
    have hs := h s (by simp)
    have m1 := mostS_put pre (putT (s.extract (lcpS p s) s.size) ++ (entR s r ++ post)) (v := lcpS p s) (k := (p.size : Int)) (by omega) (by omega)
    have hsz : (s.extract (lcpS p s) s.size).size ≤ 4096 := by simp [ByteArray.size_extract]; omega
    have m2 := textS_put (pre ++ putN (lcpS p s)) (entR s r ++ post) hsz
    have ih := tak_run r s (out ++ [s]) (pre ++ putN (lcpS p s) ++ putT (s.extract (lcpS p s) s.size)) post hs (fun x hx => h x (by simp [hx]))
    have e1 : pre ++ (entR p (s :: r) ++ post) = pre ++ (putN (lcpS p s) ++ (putT (s.extract (lcpS p s) s.size) ++ (entR s r ++ post))) := by simp [entR]
    have e2 : pre ++ (putN (lcpS p s) ++ (putT (s.extract (lcpS p s) s.size) ++ (entR s r ++ post))) = (pre ++ putN (lcpS p s)) ++ (putT (s.extract (lcpS p s) s.size) ++ (entR s r ++ post)) := by simp
    have e3 : (pre ++ putN (lcpS p s)) ++ (putT (s.extract (lcpS p s) s.size) ++ (entR s r ++ post)) = (pre ++ putN (lcpS p s) ++ putT (s.extract (lcpS p s) s.size)) ++ (entR s r ++ post) := by simp
    simp only [List.length_append] at m2 ih
    simp only [List.length_cons, takGo]
    rw [e1, m1]
    simp only
    rw [e2, m2]
    simp only [if_true, lcpS_join]
    rw [e3, ih]
    simp only [entR, List.length_append, List.append_assoc, List.singleton_append, Prod.mk.injEq, true_and, and_true]
    omega
theorem takS_run (c : List ByteArray) (pre post : List UInt8) (hc : c ≠ []) (h : ∀ s ∈ c, s.size ≤ 4096) :
    takS (pre ++ (entB c ++ post)) c.length (entB c).length pre.length 0 = (c, pre.length + (entB c).length, 0) := by
  match c, hc with
  | s :: r, _ =>
    have hs := h s (by simp)
    have m1 := textS_put pre (entR s r ++ post) hs
    have ih := tak_run r s [s] (pre ++ putT s) post hs (fun x hx => h x (by simp [hx]))
    have e1 : pre ++ (entB (s :: r) ++ post) = pre ++ (putT s ++ (entR s r ++ post)) := by simp [entB]
    have e2 : pre ++ (putT s ++ (entR s r ++ post)) = (pre ++ putT s) ++ (entR s r ++ post) := by simp
    simp only [List.length_append] at ih
    simp only [takS, List.length_cons, Nat.add_sub_cancel]
    rw [e1, m1]
    simp only
    rw [e2, ih]
    simp only [if_true, entB, List.length_append, List.singleton_append, Prod.mk.injEq, true_and]
    refine ⟨by omega, ?_⟩
    rw [if_pos (by omega)]
end Go.Fw
namespace Go.Fw
open Go
set_option linter.unusedVariables false
set_option linter.unusedSimpArgs false
theorem chs_nil (k : Nat) : chs k [] = [] := by rw [chs]; simp
theorem chs_cons {k : Nat} {l : List ByteArray} (hk : 0 < k) (hl : l ≠ []) : chs k l = l.take k :: chs k (l.drop k) := by
  rw [chs, dif_neg (by simp [hl]; omega)]
theorem chs_length {k : Nat} (hk : 0 < k) : ∀ (n : Nat) (l : List ByteArray), l.length ≤ n → (chs k l).length = (l.length + k - 1) / k
  | n, [], h => by
    rw [chs_nil]
    simp only [List.length_nil]
    rw [Nat.div_eq_of_lt (by omega)]
  | 0, x :: r, h => by simp at h
  | n + 1, x :: r, h => by
    rw [chs_cons hk (by simp)]
    have ih := chs_length hk n ((x :: r).drop k) (by simp only [List.length_drop, List.length_cons] at *; omega)
    simp only [List.length_cons, ih, List.length_drop] at *
    by_cases hle : r.length + 1 ≤ k
    · rw [show r.length + 1 - k + k - 1 = k - 1 by omega, Nat.div_eq_of_lt (by omega), show r.length + 1 + k - 1 = r.length + k by omega]
      rw [show r.length + k = r.length + 1 * k by omega, Nat.add_mul_div_right _ _ hk, Nat.div_eq_of_lt (by omega)]
    · rw [show r.length + 1 + k - 1 = (r.length + 1 - k + k - 1) + 1 * k by omega, Nat.add_mul_div_right _ _ hk]
theorem opGo_run {k m : Nat} (hk : 0 < k) : ∀ (n : Nat) (l out : List ByteArray) (i : Nat) (pre post : List UInt8), l.length ≤ n → m = i * k + l.length → (∀ s ∈ l, s.size ≤ 4096) →
    opGo (pre ++ ((chs k l).flatMap entB ++ post)) k m ((chs k l).map fun c => (entB c).length) i out pre.length 0 = (true, out ++ l, pre.length + ((chs k l).flatMap entB).length, 0)
  | n, [], out, i, pre, post, h, hm, hs => by simp [chs_nil, opGo]
  | 0, x :: r, out, i, pre, post, h, hm, hs => by simp at h
  | n + 1, x :: r, out, i, pre, post, h, hm, hs => by
    rw [chs_cons hk (by simp)]
    generalize hl : x :: r = l at *
    have hne : l ≠ [] := by rw [← hl]; simp
    have h0 : 0 < l.length := List.length_pos_iff.2 hne
    have htl : (l.take k).length = min k (m - i * k) := by rw [List.length_take, hm]; omega
    have ht := takS_run (l.take k) pre ((chs k (l.drop k)).flatMap entB ++ post) (by intro e; have := congrArg List.length e; rw [List.length_take, List.length_nil] at this; omega) (fun s hs' => hs s (List.mem_of_mem_take hs'))
    rw [htl] at ht
    simp only [List.flatMap_cons, List.map_cons, opGo, List.append_assoc]
    rw [ht]
    simp only [if_true]
    by_cases hle : l.length ≤ k
    · have hd : l.drop k = [] := List.drop_of_length_le hle
      rw [hd, chs_nil]
      simp [opGo, List.take_of_length_le hle]
    · have ih := opGo_run (m := m) hk n (l.drop k) (out ++ l.take k) (i + 1) (pre ++ entB (l.take k)) post (by simp only [List.length_drop]; omega) (by rw [Nat.add_mul, List.length_drop]; omega) (fun s hs' => hs s (List.mem_of_mem_drop hs'))
      have e : pre ++ (entB (l.take k) ++ ((chs k (l.drop k)).flatMap entB ++ post)) = (pre ++ entB (l.take k)) ++ ((chs k (l.drop k)).flatMap entB ++ post) := by simp
      rw [List.length_append] at ih
      rw [e, ih]
      simp only [List.append_assoc, List.take_append_drop, List.length_append, Prod.mk.injEq, true_and, and_true]
      omega
theorem rightF_at {t : List ByteArray} {k : Int} (h : rightF t k = true) : 1 ≤ k ∧ k ≤ 64 ∧ t.length ≤ 4096 ∧ ∀ i, i < t.length → okF t i = true := by
  simp only [rightF, Bool.and_eq_true, decide_eq_true_eq, List.all_eq_true, List.mem_range] at h
  exact ⟨h.1.1.1, h.1.1.2, h.1.2, h.2⟩
theorem rightF_size {t : List ByteArray} {k : Int} (h : rightF t k = true) : ∀ s ∈ t, s.size ≤ 4096 := fun s hs => by
  obtain ⟨i, hi, rfl⟩ := List.getElem_of_mem hs
  have := (rightF_at h).2.2.2 i hi
  simp only [okF, Bool.and_eq_true, decide_eq_true_eq] at this
  have e : t.getD i default = t[i] := by simp [List.getD_eq_getElem?_getD, hi]
  rw [e] at this
  exact this.1
theorem putT_len (s : ByteArray) (hs : s.size ≤ 4096) : (putT s).length ≤ 4099 := by
  have h := putN_len 2 s.size (by omega)
  have hd : s.data.toList.length = s.size := rfl
  simp only [putT, List.length_append]
  omega
theorem entR_len : ∀ (r : List ByteArray) (p : ByteArray), (∀ s ∈ r, s.size ≤ 4096) → (entR p r).length ≤ 4102 * r.length
  | [], p, h => by simp [entR]
  | s :: r, p, h => by
    have h1 := lcpS_right p s
    have hs := h s (by simp)
    have h2 := putN_len 2 (lcpS p s) (by omega)
    have h3 := putT_len (s.extract (lcpS p s) s.size) (by simp [ByteArray.size_extract]; omega)
    have h4 := entR_len r s (fun x hx => h x (by simp [hx]))
    simp only [entR, List.length_append, List.length_cons]
    omega
theorem entB_len : ∀ (c : List ByteArray), (∀ s ∈ c, s.size ≤ 4096) → (entB c).length ≤ 4102 * c.length
  | [], h => by simp [entB]
  | s :: r, h => by
    have h3 := putT_len s (h s (by simp))
    have h4 := entR_len r s (fun x hx => h x (by simp [hx]))
    simp only [entB, List.length_append, List.length_cons]
    omega
theorem chs_mem {k : Nat} (hk : 0 < k) : ∀ (n : Nat) (l : List ByteArray), l.length ≤ n → ∀ c ∈ chs k l, c.length ≤ l.length ∧ ∀ s ∈ c, s ∈ l
  | n, [], h, c, hc => by rw [chs_nil] at hc; simp at hc
  | 0, x :: r, h, c, hc => by simp at h
  | n + 1, x :: r, h, c, hc => by
    rw [chs_cons hk (by simp)] at hc
    rcases List.mem_cons.1 hc with rfl | hc
    · exact ⟨by simp only [List.length_take]; omega, fun s hs => List.mem_of_mem_take hs⟩
    · have := chs_mem hk n ((x :: r).drop k) (by simp only [List.length_drop, List.length_cons] at *; omega) c hc
      exact ⟨Nat.le_trans this.1 (by simp), fun s hs => List.mem_of_mem_drop (this.2 s hs)⟩
 
theorem open_build {t : List ByteArray} {k : Nat} (h : rightF t (k : Int) = true) (post : List UInt8) : openS (buildS t k ++ post) 0 0 = (t, (buildS t k).length, 0) := by
  obtain ⟨hk1, hk64, hl, _⟩ := rightF_at h
  have hk : 0 < k := by omega
  have hsz := rightF_size h
  have hcl := chs_length hk t.length t (Nat.le_refl _)
  have hcn : (chs k t).length ≤ 4096 := by
    rw [hcl]
    have : (t.length + k - 1) / k ≤ t.length := by
      by_cases h0 : t.length = 0
      · rw [h0, Nat.div_eq_of_lt (by omega)]; exact Nat.le_refl _
      · rw [show t.length + k - 1 = (t.length - 1) + 1 * k by omega, Nat.add_mul_div_right _ _ hk]
        have := Nat.div_le_self (t.length - 1) k
        omega
    omega
  have m1 := mostS_put [] (putN k ++ (pkW ((chs k t).map fun c => (entB c).length) ++ ((chs k t).flatMap entB ++ post))) (v := t.length) (k := 4096) (by omega) (by omega)
  have m2 := mostS_put (putN t.length) (pkW ((chs k t).map fun c => (entB c).length) ++ ((chs k t).flatMap entB ++ post)) (v := k) (k := 64) (by omega) (by omega)
  have m3 := readP_put (putN t.length ++ putN k) ((chs k t).flatMap entB ++ post) (l := (chs k t).map fun c => (entB c).length) (many := 4096) (by simp; omega) (by simp; omega) (fun x hx => by
    obtain ⟨c, hc, rfl⟩ := List.mem_map.1 hx
    have h1 := chs_mem hk t.length t (Nat.le_refl _) c hc
    have h2 := entB_len c (fun s hs => hsz s (h1.2 s hs))
    have : 4102 * c.length ≤ 4102 * 4096 := Nat.mul_le_mul_left _ (by omega)
    omega)
  have m4 := opGo_run (m := t.length) hk t.length t [] 0 (putN t.length ++ putN k ++ pkW ((chs k t).map fun c => (entB c).length)) post (Nat.le_refl _) (by omega) hsz
  have e1 : buildS t k ++ post = [] ++ (putN t.length ++ (putN k ++ (pkW ((chs k t).map fun c => (entB c).length) ++ ((chs k t).flatMap entB ++ post)))) := by simp [buildS]
  have e2 : [] ++ (putN t.length ++ (putN k ++ (pkW ((chs k t).map fun c => (entB c).length) ++ ((chs k t).flatMap entB ++ post)))) = putN t.length ++ (putN k ++ (pkW ((chs k t).map fun c => (entB c).length) ++ ((chs k t).flatMap entB ++ post))) := by simp
  have e3 : putN t.length ++ (putN k ++ (pkW ((chs k t).map fun c => (entB c).length) ++ ((chs k t).flatMap entB ++ post))) = (putN t.length ++ putN k) ++ (pkW ((chs k t).map fun c => (entB c).length) ++ ((chs k t).flatMap entB ++ post)) := by simp
  have e4 : (putN t.length ++ putN k) ++ (pkW ((chs k t).map fun c => (entB c).length) ++ ((chs k t).flatMap entB ++ post)) = (putN t.length ++ putN k ++ pkW ((chs k t).map fun c => (entB c).length)) ++ ((chs k t).flatMap entB ++ post) := by simp
  simp only [List.length_nil, Nat.zero_add] at m1
  simp only [List.length_append] at m3 m4
  simp only [openS]
  rw [e1, m1]
  simp only
  rw [e2, m2]
  simp only
  rw [e3, m3]
  simp only [List.length_map, hcl]
  rw [if_neg (by omega), e4, m4]
  simp only [if_true, List.nil_append, h, decide_true, Bool.and_self, buildS, List.length_append, Prod.mk.injEq, true_and, and_true]
  omega
end Go.Fw
namespace Go.Fw
open Go
set_option linter.unusedVariables false
set_option linter.unusedSimpArgs false
def szs (t : List ByteArray) (i : Nat) : Nat := ((t.take i).map ByteArray.size).sum
theorem szs_zero (t : List ByteArray) : szs t 0 = 0 := by simp [szs]
theorem szs_succ {t : List ByteArray} {i : Nat} (h : i < t.length) : szs t (i + 1) = szs t i + (t.getD i default).size := by
  simp only [szs, take_snoc h, List.map_append, List.sum_append, List.map_cons, List.map_nil, List.sum_cons, List.sum_nil, Nat.add_zero]
def few07 (t : List ByteArray) : Bool := decide (∀ j, j < t.length → j < 400 → (t.getD j default).size ≤ 5000) && (decide (t.length ≤ 300) && decide (szs t 400 ≤ 300000))
theorem szs_all {t : List ByteArray} {i j : Nat} (hi : t.length ≤ i) (hj : t.length ≤ j) : szs t i = szs t j := by
  simp only [szs, List.take_of_length_le hi, List.take_of_length_le hj]
def few13 (t : List ByteArray) : Bool := decide (t.length ≤ 150) && few07 t
theorem few13_at {t : List ByteArray} (h : few13 t = true) : t.length ≤ 150 ∧ ∀ j, j < t.length → (t.getD j default).size ≤ 5000 := by
  simp only [few13, few07, Bool.and_eq_true, decide_eq_true_eq] at h
  exact ⟨h.1, fun j hj => h.2.1 j hj (by omega)⟩
theorem rightF_bad {t : List ByteArray} {k : Int} {i : Nat} (hi : i < t.length) (h : okF t i = false) : rightF t k = false := by
  cases hr : rightF t k with
  | false => rfl
  | true => rw [(rightF_at hr).2.2.2 i hi] at h; cases h
theorem rightF_good {t : List ByteArray} {k : Int} (h1 : 1 ≤ k) (h64 : k ≤ 64) (hl : t.length ≤ 4096) (h : ∀ j, j < t.length → okF t j = true) : rightF t k = true := by
  simp only [rightF, Bool.and_eq_true, decide_eq_true_eq, List.all_eq_true, List.mem_range]
  exact ⟨⟨⟨h1, h64⟩, hl⟩, h⟩
theorem rightF_no {t : List ByteArray} {k : Int} (h : k < 1 ∨ 64 < k ∨ 4096 < t.length) : rightF t k = false := by
  cases hr : rightF t k with
  | false => rfl
  | true => have := rightF_at hr; omega
theorem okF_ok {t : List ByteArray} {i : Nat} (h : (t.getD i default).size ≤ 4096) (hs : i = 0 ∨ slt (t.getD (i - 1) default) (t.getD i default) = true) : okF t i = true := by
  simp only [okF, Bool.and_eq_true, Bool.or_eq_true, decide_eq_true_eq]
  exact ⟨h, hs⟩
theorem okF_no {t : List ByteArray} {i : Nat} (h : 4096 < (t.getD i default).size ∨ (i ≠ 0 ∧ slt (t.getD (i - 1) default) (t.getD i default) = false)) : okF t i = false := by
  cases hr : okF t i with
  | false => rfl
  | true =>
    simp only [okF, Bool.and_eq_true, Bool.or_eq_true, decide_eq_true_eq] at hr
    rcases h with h | ⟨h1, h2⟩
    · omega
    · rw [h2] at hr
      simp [h1] at hr
theorem okF_size {t : List ByteArray} {i : Nat} (h : okF t i = true) : (t.getD i default).size ≤ 4096 := by
  simp only [okF, Bool.and_eq_true, decide_eq_true_eq] at h
  exact h.1
theorem rises_of_rightF {t : List ByteArray} {k : Int} (h : rightF t k = true) : Rises t := by
  have h2 := (rightF_at h).2.2.2
  have key : ∀ d a, a + d + 1 < t.length → slt (t.getD a default) (t.getD (a + d + 1) default) = true := by
    intro d
    induction d with
    | zero =>
      intro a ha
      have := h2 (a + 1) ha
      simp only [okF, Bool.and_eq_true, Bool.or_eq_true, decide_eq_true_eq] at this
      rcases this.2 with h0 | h0
      · omega
      · exact h0
    | succ d ih =>
      intro a ha
      have := h2 (a + (d + 1) + 1) ha
      simp only [okF, Bool.and_eq_true, Bool.or_eq_true, decide_eq_true_eq] at this
      rcases this.2 with h0 | h0
      · omega
      · exact slt_trans (ih a (by omega)) h0
  intro a b hab hb
  have := key (b - a - 1) a (by omega)
  rwa [show a + (b - a - 1) + 1 = b by omega] at this
end Go.Fw
namespace Go.Fw
open Go
set_option linter.unusedVariables false
set_option linter.unusedSimpArgs false
theorem or_nat {x y k : Nat} (hx : x < 2 ^ k) : x ||| y * 2 ^ k = x + y * 2 ^ k := by
  rw [Nat.mul_comm, Nat.or_comm, ← Nat.two_pow_add_eq_or_of_lt hx, Nat.add_comm]
theorem bitOr_i64 {x y k : Nat} (hx : x < 2 ^ k) (h : x + y * 2 ^ k < 9223372036854775808) : bitI .or .i64 (x : Int) ((y * 2 ^ k : Nat) : Int) = ((x + y * 2 ^ k : Nat) : Int) := by
  show IntKind.i64.wrap (((BitVec.ofInt 64 (x : Int)) ||| (BitVec.ofInt 64 ((y * 2 ^ k : Nat) : Int))).toNat : Int) = _
  rw [BitVec.ofInt_natCast, BitVec.ofInt_natCast, BitVec.toNat_or, BitVec.toNat_ofNat, BitVec.toNat_ofNat, Nat.mod_eq_of_lt (by omega), Nat.mod_eq_of_lt (by omega), or_nat hx]
  exact wrap_id (by omega) (by omega)
theorem and127 {c : Nat} (h : c < 256) : bitI .and .u8 (c : Int) 127 = ((c % 128 : Nat) : Int) := by
  have : ∀ c : Fin 256, bitI .and .u8 ((c.val : Nat) : Int) 127 = ((c.val % 128 : Nat) : Int) := by decide +kernel
  exact this ⟨c, h⟩
theorem pow128 (i : Nat) : 128 ^ i = 2 ^ (7 * i) := by rw [show (128 : Nat) = 2 ^ 7 from rfl, ← Nat.pow_mul]
 
theorem num_step {x c i : Nat} (hc : c < 256) (hi : i < 9) (hx : x < 128 ^ i) :
    bitI .or .i64 (x : Int) (shlI .i64 (bitI .and .u8 (c : Int) 127) (7 * i)) = ((x + c % 128 * 128 ^ i : Nat) : Int) ∧ x + c % 128 * 128 ^ i < 128 ^ (i + 1) := by
  have h1 : x + c % 128 * 128 ^ i < 128 ^ (i + 1) := by
    have : c % 128 * 128 ^ i ≤ 127 * 128 ^ i := Nat.mul_le_mul_right _ (by omega)
    rw [Nat.pow_succ]
    omega
  have h2 : 128 ^ (i + 1) ≤ 128 ^ 9 := Nat.pow_le_pow_right (by omega) (by omega)
  have h3 : (128 : Nat) ^ 9 = 9223372036854775808 := by decide
  refine ⟨?_, h1⟩
  rw [and127 hc, shl_i64 (by omega)]
  have e : ((c % 128 : Nat) : Int) * 2 ^ (7 * i) = ((c % 128 * 2 ^ (7 * i) : Nat) : Int) := by push_cast; rfl
  rw [pow128 i] at hx h1 ⊢
  rw [e, wrap_id (by omega) (by omega)]
  exact bitOr_i64 hx (by omega)
end Go.Fw
namespace Go.Fw
open Go
set_option linter.unusedVariables false
theorem numS_err {b : List UInt8} {n : Nat} {e : Int} (h : ¬ e = 0) : numS b n e = (0, n, e) := by rw [numS, if_neg h]
theorem numS_zero (b : List UInt8) (n : Nat) : numS b n 0 = ((numGo (b.drop n) 0 0).1, n + (numGo (b.drop n) 0 0).2.1, (numGo (b.drop n) 0 0).2.2) := by rw [numS, if_pos rfl]
theorem drop_at {l : List UInt8} {i : Nat} (h : i < l.length) : l.drop i = l.getD i default :: l.drop (i + 1) := by
  rw [List.drop_eq_getElem_cons h]
  simp [List.getD_eq_getElem?_getD, h]
theorem numS_nine {b : List UInt8} {n i x : Nat} (h : i < (b.drop n).length) (h9 : i = 9) (hgo : numGo ((b.drop n).drop i) i x = numGo (b.drop n) 0 0) : numS b n 0 = (0, n, 3) := by
  rw [numS_zero, ← hgo, drop_at h]
  simp only [numGo, if_pos h9, Nat.add_zero]
theorem numS_bad {b : List UInt8} {n i x : Nat} (h : i < (b.drop n).length) (h9 : ¬ i = 9) (hs : ((b.drop n).getD i default).toNat < 128) (hz : ((b.drop n).getD i default).toNat = 0 ∧ 0 < i) (hgo : numGo ((b.drop n).drop i) i x = numGo (b.drop n) 0 0) : numS b n 0 = (0, n, 3) := by
  rw [numS_zero, ← hgo, drop_at h]
  simp only [numGo, if_neg h9, if_pos hs, if_pos hz, Nat.add_zero]
theorem numS_good {b : List UInt8} {n i x : Nat} (h : i < (b.drop n).length) (h9 : ¬ i = 9) (hs : ((b.drop n).getD i default).toNat < 128) (hz : ¬ (((b.drop n).getD i default).toNat = 0 ∧ 0 < i)) (hgo : numGo ((b.drop n).drop i) i x = numGo (b.drop n) 0 0) :
    numS b n 0 = (x + ((b.drop n).getD i default).toNat % 128 * 128 ^ i, n + (i + 1), 0) := by
  rw [numS_zero, ← hgo, drop_at h]
  simp only [numGo, if_neg h9, if_pos hs, if_neg hz]
theorem num_next {b : List UInt8} {n i x : Nat} (h : i < (b.drop n).length) (h9 : ¬ i = 9) (hs : ¬ ((b.drop n).getD i default).toNat < 128) (hgo : numGo ((b.drop n).drop i) i x = numGo (b.drop n) 0 0) :
    numGo ((b.drop n).drop (i + 1)) (i + 1) (x + ((b.drop n).getD i default).toNat % 128 * 128 ^ i) = numGo (b.drop n) 0 0 := by
  rw [← hgo, drop_at h]
  simp only [numGo, if_neg h9, if_neg hs]
theorem numS_end {b : List UInt8} {n i x : Nat} (h : (b.drop n).length ≤ i) (hgo : numGo ((b.drop n).drop i) i x = numGo (b.drop n) 0 0) : numS b n 0 = (0, n, 2) := by
  rw [numS_zero, ← hgo, List.drop_of_length_le h]
  simp only [numGo, Nat.add_zero]
theorem num_or {x c i : Nat} (hc : c < 256) (hi : i < 9) (hx : x < 128 ^ i) :
    bitI .or .i64 (x : Int) (IntKind.i64.wrap (IntKind.i64.wrap (bitI .and .u8 (c : Int) 127) * 2 ^ (7 * (i : Int)).toNat)) = ((x + c % 128 * 128 ^ i : Nat) : Int) := by
  have h := (num_step hc hi hx).1
  rw [shl_i64 (by omega), and127 hc] at h
  rw [show (7 * (i : Int)).toNat = 7 * i by omega, and127 hc, wrap_id (n := ((c % 128 : Nat) : Int)) (by omega) (by omega)]
  exact h
end Go.Fw
namespace Go.Fw
open Go
set_option linter.unusedVariables false
theorem put_rises {o : List ByteArray} {x : ByteArray} {k : Nat} (hr : Rises o) (hk : k ≤ o.length) (h1 : ∀ j, j < k → slt (o.getD j default) x = true) (h2 : k = o.length ∨ (slt (o.getD k default) x = false ∧ o.getD k default ≠ x)) :
    Rises (o.take k ++ x :: o.drop k) := by
  rw [rises_iff] at *
  have hg : ∀ j (h : j < o.length), o.getD j default = o[j] := fun j h => by simp [List.getD_eq_getElem?_getD, h]
  rw [List.pairwise_append, List.pairwise_cons]
  have hpre : ∀ a ∈ o.take k, slt a x = true := fun a ha => by
    obtain ⟨j, hj, rfl⟩ := List.getElem_of_mem ha
    simp only [List.length_take] at hj
    rw [List.getElem_take, ← hg j (by omega)]
    exact h1 j (by omega)
  have hpost : ∀ b ∈ o.drop k, slt x b = true := fun b hb => by
    obtain ⟨j, hj, rfl⟩ := List.getElem_of_mem hb
    simp only [List.length_drop] at hj
    rcases h2 with h2 | ⟨h2, h3⟩
    · omega
    · have hx : slt x (o.getD k default) = true := by
        cases hc : slt x (o.getD k default) with
        | true => rfl
        | false => exact absurd (slt_total h2 hc) h3
      rw [List.getElem_drop, ← hg (k + j) (by omega)]
      by_cases hj0 : j = 0
      · subst hj0; exact hx
      · exact slt_trans hx (rises_iff.2 hr k (k + j) (by omega) (by omega))
  exact ⟨hr.sublist (List.take_sublist _ _), ⟨hpost, hr.sublist (List.drop_sublist _ _)⟩, fun a ha b hb => by
    rcases List.mem_cons.1 hb with rfl | hb
    · exact hpre a ha
    · exact slt_trans (hpre a ha) (hpost b hb)⟩
theorem put_mem {o : List ByteArray} {x s : ByteArray} {k : Nat} : s ∈ o.take k ++ x :: o.drop k ↔ s ∈ o ∨ s = x := by
  have : s ∈ o ↔ s ∈ o.take k ∨ s ∈ o.drop k := by rw [← List.mem_append, List.take_append_drop]
  simp only [List.mem_append, List.mem_cons, this]
  constructor
  · rintro (h | h | h) <;> simp [h]
  · rintro ((h | h) | h) <;> simp [h]
theorem getD_memB {l : List ByteArray} {j : Nat} (h : j < l.length) : l.getD j default ∈ l := by
  have e : l.getD j default = l[j] := by simp [List.getD_eq_getElem?_getD, h]
  rw [e]; exact List.getElem_mem _
theorem mem_getD {l : List ByteArray} {s : ByteArray} (h : s ∈ l) : ∃ j, j < l.length ∧ l.getD j default = s := by
  obtain ⟨j, hj, rfl⟩ := List.getElem_of_mem h
  exact ⟨j, hj, by simp [List.getD_eq_getElem?_getD, hj]⟩
theorem sizes_mem {l : List ByteArray} {m : Nat} (h : ∀ j, j < l.length → (l.getD j default).size ≤ m) : ∀ s ∈ l, s.size ≤ m := fun s hs => by
  obtain ⟨j, hj, rfl⟩ := mem_getD hs
  exact h j hj
theorem sizes_getD {l : List ByteArray} {m : Nat} (h : ∀ s ∈ l, s.size ≤ m) : ∀ j, j < l.length → (l.getD j default).size ≤ m := fun j hj => h _ (getD_memB hj)
theorem ins_eq {o : List ByteArray} {x : ByteArray} {k : Nat} : o.take k ++ [x] ++ (o.drop k).take (o.length - k) = o.take k ++ x :: o.drop k := by
  rw [List.take_of_length_le (l := o.drop k) (by rw [List.length_drop]; exact Nat.le_refl _)]; simp
theorem put_inv {o l : List ByteArray} {i k : Nat} (hi : (i : Int) < l.length) (hr : Rises o) (hol : o.length ≤ i) (hm : ∀ s, s ∈ o ↔ s ∈ l.take i) (hk : k ≤ o.length)
    (hlt : ∀ j, j < k → slt (o.getD j default) (l.getD i default) = true) (h1 : (o.length : Int) ≤ k ∨ 0 ≤ cmpS (o.getD k default) (l.getD i default)) (h2 : (o.length : Int) ≤ k ∨ ¬ o.getD k default = l.getD i default) :
    i + 1 ≤ l.length ∧ Rises (o.take k ++ [l.getD i default] ++ (o.drop k).take (o.length - k)) ∧ (o.take k ++ [l.getD i default] ++ (o.drop k).take (o.length - k)).length ≤ i + 1 ∧
      ∀ s, s ∈ o.take k ++ [l.getD i default] ++ (o.drop k).take (o.length - k) ↔ s ∈ l.take (i + 1) := by
  rw [ins_eq]
  refine ⟨by omega, put_rises hr hk hlt ?_, ?_, fun s => ?_⟩
  · rcases h1 with h1 | h1
    · exact .inl (by omega)
    · rcases h2 with h2 | h2
      · exact .inl (by omega)
      · exact .inr ⟨cmp_ge h1, h2⟩
  · simp only [List.length_append, List.length_cons, List.length_take, List.length_drop]; omega
  · rw [put_mem, take_snoc (by omega), List.mem_append, hm s]; simp
theorem put_same {o l : List ByteArray} {i k : Nat} (hi : (i : Int) < l.length) (hr : Rises o) (hol : o.length ≤ i) (hm : ∀ s, s ∈ o ↔ s ∈ l.take i) (h : (k : Int) < o.length ∧ o.getD k default = l.getD i default) :
    i + 1 ≤ l.length ∧ Rises o ∧ o.length ≤ i + 1 ∧ ∀ s, s ∈ o ↔ s ∈ l.take (i + 1) := by
  refine ⟨by omega, hr, by omega, fun s => ?_⟩
  rw [take_snoc (by omega), List.mem_append, ← hm s]
  constructor
  · exact .inl
  · rintro (h1 | h1)
    · exact h1
    · simp only [List.mem_singleton] at h1
      rw [h1, ← h.2]
      exact getD_memB (by omega)
theorem put_all {o l : List ByteArray} {i : Nat} (hi : (l.length : Int) ≤ i) (hr : Rises o) (hm : ∀ s, s ∈ o ↔ s ∈ l.take i) : o = tidy l := by
  refine rises_unique hr (tidy_spec l).1 fun s => ?_
  rw [hm s, List.take_of_length_le (by omega), (tidy_spec l).2 s]
end Go.Fw
namespace Go.Fw
open Go
set_option linter.unusedVariables false
set_option linter.unusedSimpArgs false
abbrev Rw := List Vl
 
def ofS (row : Rw) (keys : List Int) : Rw := keys.map fun c => row.getD c.toNat default
theorem ofS_len (row : Rw) (keys : List Int) : (ofS row keys).length = keys.length := by simp [ofS]
theorem ofS_snoc {row : Rw} {keys : List Int} {i : Nat} (h : i < keys.length) : ofS row (keys.take i) ++ [row.getD (keys.getD i default).toNat default] = ofS row (keys.take (i + 1)) := by
  unfold ofS
  rw [List.take_add_one, List.map_append]
  simp [List.getD_eq_getElem?_getD, h]
 
def putH (h b : Int) : Int := IntKind.u64.wrap (bitI .xor .u64 h b * 1099511628211)
def putsH (h : Int) (s : List UInt8) : Int := s.foldl (fun h b => putH h b.toNat) h
def valH (h : Int) (v : Vl) : Int := if v.1 = true then putH h 255 else putH (putsH (putH h 254) v.2.data.toList) 253
def hashV (l : Rw) : Int := l.foldl valH 14695981039346656037
theorem u64_range (n : Int) : 0 ≤ IntKind.u64.wrap n ∧ IntKind.u64.wrap n < 18446744073709551616 := by
  simp only [IntKind.wrap, IntKind.bits, IntKind.signed]
  simp
  omega
theorem putH_range (h b : Int) : 0 ≤ putH h b ∧ putH h b < 18446744073709551616 := u64_range _
theorem valH_range (h : Int) (v : Vl) : 0 ≤ valH h v ∧ valH h v < 18446744073709551616 := by
  unfold valH
  split <;> exact putH_range _ _
theorem hashF_range (l : Rw) : ∀ h : Int, 0 ≤ h ∧ h < 18446744073709551616 → 0 ≤ l.foldl valH h ∧ l.foldl valH h < 18446744073709551616 := by
  induction l with
  | nil => exact fun h hh => hh
  | cons v l ih => exact fun h _ => ih _ (valH_range h v)
theorem hashV_range (l : Rw) : 0 ≤ hashV l ∧ hashV l < 18446744073709551616 := hashF_range l _ (by omega)
theorem hashV_step {l : Rw} {i : Nat} (h : i < l.length) : hashV (l.take (i + 1)) = valH (hashV (l.take i)) (l.getD i default) := by
  unfold hashV
  rw [List.take_add_one, List.foldl_append]
  simp [List.getD_eq_getElem?_getD, h]
theorem putsH_step {s : List UInt8} {i : Nat} {h : Int} (hi : i < s.length) : putsH h (s.take (i + 1)) = putH (putsH h (s.take i)) (s.getD i default).toNat := by
  unfold putsH
  rw [List.take_add_one, List.foldl_append]
  simp [List.getD_eq_getElem?_getD, hi]
theorem hashV_all {l : Rw} {i : Nat} (h : l.length ≤ i) : hashV (l.take i) = hashV l := by rw [List.take_of_length_le h]
end Go.Fw
namespace Go.Fw
open Go
set_option linter.unusedVariables false
set_option linter.unusedSimpArgs false
theorem Has.weaken {P : Program} {g : FuncId} {args args' : List CV} {R : List CV → List CV → Prop} (h : Has P g args' R) (hc : ∀ w F vs fp, CRl w F args vs fp → CRl w F args' vs fp) : Has P g args R :=
  ⟨fun F w vs fp h1 h2 h3 h4 => h.con F w vs fp (hc w F vs fp h1) h2 h3 h4⟩
theorem CRl.consI {w : World} {F : Nat → Prop} {x y : CV} {r q : List CV} (h1 : ∀ v fp, CR w F x v fp → CR w F y v fp) (h2 : ∀ vs fp, CRl w F r vs fp → CRl w F q vs fp) : ∀ vs fp, CRl w F (x :: r) vs fp → CRl w F (y :: q) vs fp := by
  intro vs fp h
  simp only [CRl] at h ⊢
  obtain ⟨v, vs', f1, f2, e1, k1, k2, e2⟩ := h
  exact ⟨v, vs', f1, f2, e1, h1 _ _ k1, h2 _ _ k2, e2⟩
theorem CR.nilI {w : World} {F : Nat → Prop} {z z' : Nat} : ∀ v fp, CR w F (.d (.sl z [])) v fp → CR w F (.d (.sl z' [])) v fp := by
  intro v fp h
  simp only [CR, DRv, DRc] at h ⊢
  obtain ⟨⟨A, c, h1, h2, h3, _⟩, h5⟩ := h
  exact ⟨⟨A, c, h1, h2, h3, .inl trivial⟩, h5⟩
theorem CRl_gones {w : World} {F : Nat → Prop} : ∀ (args : List CV) (vs : List Value), vs.length = args.length → CRl w F (args.map fun _ => CV.gone) vs []
  | [], vs, h => by
    rw [List.eq_nil_of_length_eq_zero h]
    simp [CRl]
  | x :: r, [], h => by simp at h
  | x :: r, v :: vs, h => by
    simp only [List.map_cons, CRl, CR]
    exact ⟨v, vs, [], [], rfl, rfl, CRl_gones r vs (by simpa using h), rfl⟩
theorem CRl.len {w : World} {F : Nat → Prop} : ∀ {l : List CV} {vs : List Value} {fp : List Nat}, CRl w F l vs fp → vs.length = l.length
  | [], vs, fp, h => by simp only [CRl] at h; simp [h.1]
  | x :: r, vs, fp, h => by
    simp only [CRl] at h
    obtain ⟨v, vs', f1, f2, rfl, _, h2, _⟩ := h
    simp [h2.len]
 
theorem Has.gone {P : Program} {g : FuncId} {args : List CV} {R : List CV → List CV → Prop} (h : Has P g args R) : Has P g args (fun rs bs => (∃ az, R rs az) ∧ bs = args.map fun _ => CV.gone) := by
  constructor
  intro F w vs fp h1 h2 h3 h4
  have hl := h1.len
  have key : ∀ v w', (∃ rs az F' vr f1 f2, R rs az ∧ Left F w vs fp rs az v w' F' vr f1 f2) → ∃ rs az F' vr f1 f2, ((∃ az, R rs az) ∧ az = args.map fun _ => CV.gone) ∧ Left F w vs fp rs az v w' F' vr f1 f2 := by
    rintro v w' ⟨rs, az, F', vr, f1, f2, hr, l⟩
    refine ⟨rs, _, F', vr, f1, [], ⟨⟨az, hr⟩, rfl⟩, l.res, l.rs, CRl_gones args vs hl, ?_, fun b hb => l.sep b (by simp at hb; simp [hb]), l.lt, l.sub, l.keep, fun b hb => l.new b (hb.imp id fun h => by simp at h; simp [h]), l.os, l.tape, l.output, l.size⟩
    rw [List.append_nil]
    exact (List.nodup_append.1 l.nodup).1
  have := h.con F w vs fp h1 h2 h3 h4
  unfold Enters at this ⊢
  split at this
  · exact key _ _ this
  · refine this.mono fun e w' he => ?_
    cases e
    · exact key _ _ he
    · exact he
    · exact he
  · exact this.mono fun v w' he => key _ _ he
  · exact this.elim
mutual
 
def D.norm : D → D
  | .sl z l => .sl (if l.isEmpty then 0 else z) (norms l)
  | .ptr x => .ptr x.norm
  | .agg l => .agg (norms l)
  | .clo fn f c => .clo fn (norms f) (norms c)
  | .int k n => .int k n
  | .bool b => .bool b
  | .str s => .str s
  | .nilp => .nilp
  | .nilm => .nilm
  | .nilf => .nilf
def norms : List D → List D
  | [] => []
  | x :: r => x.norm :: norms r
end
theorem norms_len : ∀ l : List D, (norms l).length = l.length
  | [] => rfl
  | x :: r => by simp only [norms, List.length_cons, norms_len r]
theorem norm_agg : ∀ x : D, x.norm.isAgg = x.isAgg
  | .sl .. => rfl
  | .ptr _ => rfl
  | .agg _ => rfl
  | .clo .. => rfl
  | .int .. => rfl
  | .bool _ => rfl
  | .str _ => rfl
  | .nilp => rfl
  | .nilm => rfl
  | .nilf => rfl
mutual
theorem DRc_norm {w : World} {F : Nat → Prop} : ∀ (x : D) (vs : List Value), DRc w F x.norm vs ↔ DRc w F x vs
  | .sl z [], vs => by
    simp only [D.norm, norms, DRc]
    exact ⟨fun ⟨A, c, h1, h2, h3, _⟩ => ⟨A, c, h1, h2, h3, .inl trivial⟩, fun ⟨A, c, h1, h2, h3, _⟩ => ⟨A, c, h1, h2, h3, .inl trivial⟩⟩
  | .sl z (x :: r), vs => by
    have e := DRr_norm (w := w) (F := F) z (x :: r)
    have hl := norms_len (x :: r)
    simp only [D.norm, DRc, List.isEmpty_cons, Bool.false_eq_true, if_false, hl]
    have hne : norms (x :: r) ≠ [] := by simp [norms]
    constructor
    · rintro ⟨A, c, h1, h2, h3, h4⟩
      refine ⟨A, c, h1, h2, h3, ?_⟩
      rcases h4 with h4 | ⟨ad, cs, k1, k2, k3, k4⟩
      · exact absurd h4 hne
      · exact .inr ⟨ad, cs, k1, k2, k3, (e cs).1 k4⟩
    · rintro ⟨A, c, h1, h2, h3, h4⟩
      refine ⟨A, c, h1, h2, h3, ?_⟩
      rcases h4 with h4 | ⟨ad, cs, k1, k2, k3, k4⟩
      · cases h4
      · exact .inr ⟨ad, cs, k1, k2, k3, (e cs).2 k4⟩
  | .ptr x, vs => by
    simp only [D.norm, DRc]
    exact ⟨fun ⟨ad, cs, h1, h2, h3, h4⟩ => ⟨ad, cs, h1, h2, h3, (DRc_norm x cs).1 h4⟩, fun ⟨ad, cs, h1, h2, h3, h4⟩ => ⟨ad, cs, h1, h2, h3, (DRc_norm x cs).2 h4⟩⟩
  | .agg l, vs => by simp only [D.norm, DRc]; exact DRl_norm l vs
  | .clo fn f c, vs => by
    simp only [D.norm, DRc]
    exact ⟨fun ⟨fv, cv, h1, h2, h3⟩ => ⟨fv, cv, h1, (DRl_norm f _).1 h2, (DRl_norm c _).1 h3⟩, fun ⟨fv, cv, h1, h2, h3⟩ => ⟨fv, cv, h1, (DRl_norm f _).2 h2, (DRl_norm c _).2 h3⟩⟩
  | .int k n, vs => by simp only [D.norm]
  | .bool b, vs => by simp only [D.norm]
  | .str s, vs => by simp only [D.norm]
  | .nilp, vs => by simp only [D.norm]
  | .nilm, vs => by simp only [D.norm]
  | .nilf, vs => by simp only [D.norm]
theorem DRl_norm {w : World} {F : Nat → Prop} : ∀ (l : List D) (vs : List Value), DRl w F (norms l) vs ↔ DRl w F l vs
  | [], vs => by simp only [norms]
  | x :: r, vs => by
    simp only [norms, DRl, norm_agg x]
    exact ⟨fun ⟨v, vs', h1, h2, h3, h4⟩ => ⟨v, vs', h1, h2, (DRc_norm x _).1 h3, (DRl_norm r _).1 h4⟩, fun ⟨v, vs', h1, h2, h3, h4⟩ => ⟨v, vs', h1, h2, (DRc_norm x _).2 h3, (DRl_norm r _).2 h4⟩⟩
theorem DRr_norm {w : World} {F : Nat → Prop} (z : Nat) : ∀ (l : List D) (vs : List Value), DRr w F z (norms l) vs ↔ DRr w F z l vs
  | [], vs => by simp only [norms]
  | x :: r, vs => by
    simp only [norms, DRr]
    exact ⟨fun ⟨a, b, h1, h2, h3, h4⟩ => ⟨a, b, h1, h2, (DRc_norm x _).1 h3, (DRr_norm z r _).1 h4⟩, fun ⟨a, b, h1, h2, h3, h4⟩ => ⟨a, b, h1, h2, (DRc_norm x _).2 h3, (DRr_norm z r _).2 h4⟩⟩
end
theorem DRv_norm {w : World} {F : Nat → Prop} (x : D) (v : Value) : DRv w F x.norm v ↔ DRv w F x v := by
  cases x with
  | agg l =>
    simp only [D.norm, DRv]
    exact ⟨fun ⟨cs, h1, h2⟩ => ⟨cs, h1, (DRl_norm l _).1 h2⟩, fun ⟨cs, h1, h2⟩ => ⟨cs, h1, (DRl_norm l _).2 h2⟩⟩
  | sl z l => exact DRc_norm (w := w) (F := F) (.sl z l) [v]
  | ptr x => exact DRc_norm (w := w) (F := F) (.ptr x) [v]
  | clo fn f c => exact DRc_norm (w := w) (F := F) (.clo fn f c) [v]
  | int k n => exact DRc_norm (w := w) (F := F) (.int k n) [v]
  | bool b => exact DRc_norm (w := w) (F := F) (.bool b) [v]
  | str s => exact DRc_norm (w := w) (F := F) (.str s) [v]
  | nilp => exact DRc_norm (w := w) (F := F) .nilp [v]
  | nilm => exact DRc_norm (w := w) (F := F) .nilm [v]
  | nilf => exact DRc_norm (w := w) (F := F) .nilf [v]
def CV.norm : CV → CV
  | .d x => .d x.norm
  | x => x
theorem CR_norm {w : World} {F : Nat → Prop} (x : CV) (v : Value) (fp : List Nat) : CR w F x.norm v fp ↔ CR w F x v fp := by
  cases x with
  | d x => simp only [CV.norm, CR, DRv_norm x v]
  | _ => rfl
theorem CRl_norm {w : World} {F : Nat → Prop} : ∀ (l : List CV) (vs : List Value) (fp : List Nat), CRl w F (l.map CV.norm) vs fp ↔ CRl w F l vs fp
  | [], vs, fp => by simp only [List.map_nil]
  | x :: r, vs, fp => by
    simp only [List.map_cons, CRl]
    exact ⟨fun ⟨v, vs', f1, f2, h1, h2, h3, h4⟩ => ⟨v, vs', f1, f2, h1, (CR_norm x v f1).1 h2, (CRl_norm r vs' f2).1 h3, h4⟩, fun ⟨v, vs', f1, f2, h1, h2, h3, h4⟩ => ⟨v, vs', f1, f2, h1, (CR_norm x v f1).2 h2, (CRl_norm r vs' f2).2 h3, h4⟩⟩
theorem Has.norm {P : Program} {g : FuncId} {args args' : List CV} {R : List CV → List CV → Prop} (h : Has P g args' R) (e : args.map CV.norm = args'.map CV.norm) : Has P g args R :=
  h.weaken fun w F vs fp hc => (CRl_norm args' vs fp).1 (e ▸ (CRl_norm args vs fp).2 hc)
end Go.Fw
namespace Go.Fw
open Go Go.Sort Go.RowKit Go.Proofs
set_option linter.unusedVariables false
set_option linter.unusedSimpArgs false
theorem int_has {P : Program} {g : FuncId} {fn : Func} (hfn : P.funcs[g]? = some fn) (hname : (fn.name == "runtime.NumGoroutine") = false) (hb : fn.body.isSome = true)
    (k k' : IntKind) (x y : Int) (hI : ∀ (w : World), Calls P g #[.int k x] w fun e w' => e = .returned (.int k' y) ∧ w' = w) : Has P g [.d (.int k x)] (fun rs _ => rs = [.d (.int k' y)]) := by
  constructor
  intro F w vs fp hc hn hs hF
  simp only [CRl, CR, DRv, DRc] at hc
  obtain ⟨v, vs', f1, f2, rfl, ⟨hv, rfl⟩, ⟨rfl, rfl⟩, rfl⟩ := hc
  simp only [List.cons.injEq, and_true] at hv
  subst hv
  refine enters_of_calls hfn hname hb ((hI w).mono fun en w' he => ?_)
  obtain ⟨rfl, rfl⟩ := he
  refine ⟨[.d (.int k' y)], [.gone], F, [.int k' y], [], [], rfl, ⟨by simp [Rv], ?_, by simp [CRl, CR], by simp, by simp, fun x hx => hF x hx, fun _ h => h, fun b hb _ => rfl, fun b hb => .inl (by simpa using hb), rfl, rfl, rfl, Nat.le_refl _⟩⟩
  simp only [CRl, CR, DRv, DRc]
  exact ⟨_, [], [], [], rfl, ⟨rfl, rfl⟩, ⟨rfl, rfl⟩, rfl⟩
end Go.Fw
namespace Go.Fw
open Go
set_option linter.unusedVariables false
set_option linter.unusedSimpArgs false
 
theorem Has.normR {P : Program} {g : FuncId} {args : List CV} {R R' : List CV → List CV → Prop} (h : Has P g args R) (hr : ∀ rs bs, R rs bs → ∃ rs', rs'.map CV.norm = rs.map CV.norm ∧ R' rs' bs) : Has P g args R' := by
  constructor
  intro F w vs fp h1 h2 h3 h4
  have key : ∀ v w', (∃ rs az F' vr f1 f2, R rs az ∧ Left F w vs fp rs az v w' F' vr f1 f2) → ∃ rs az F' vr f1 f2, R' rs az ∧ Left F w vs fp rs az v w' F' vr f1 f2 := by
    rintro v w' ⟨rs, az, F', vr, f1, f2, hR, l⟩
    obtain ⟨rs', he, hR'⟩ := hr rs az hR
    exact ⟨rs', az, F', vr, f1, f2, hR', l.res, (CRl_norm rs' vr f1).1 (he ▸ (CRl_norm rs vr f1).2 l.rs), l.az, l.nodup, l.sep, l.lt, l.sub, l.keep, l.new, l.os, l.tape, l.output, l.size⟩
  have := h.con F w vs fp h1 h2 h3 h4
  unfold Enters at this ⊢
  split at this
  · exact key _ _ this
  · refine this.mono fun e w' he => ?_
    cases e
    · exact key _ _ he
    · exact he
    · exact he
  · exact this.mono fun v w' he => key _ _ he
  · exact this.elim
theorem norm_nil (z z' : Nat) : D.norm (.sl z []) = D.norm (.sl z' []) := rfl
end Go.Fw
namespace Go.Fw
open Go Go.Sort Go.RowKit Go.Proofs
set_option linter.unusedVariables false
set_option linter.unusedSimpArgs false
abbrev encN : Int → Value := Value.int .i64
def intD (n : Int) : D := D.int .i64 n
section
variable {P : Program} {w : World} {F : Nat → Prop}
theorem ints_cells : ∀ {ss : List Int} {vs : List Value}, DRr w F 1 (ss.map intD) vs → vs = ss.map encN
  | [], vs, h => by simpa [DRr] using h
  | s :: r, vs, h => by
    simp only [List.map_cons, intD, DRr, DRc] at h
    obtain ⟨a, b, rfl, _, rfl, h2⟩ := h
    simp [ints_cells h2]
theorem cells_ints : ∀ (ss : List Int), DRr w F 1 (ss.map intD) (ss.map encN)
  | [] => by simp [DRr]
  | s :: r => by
    simp only [List.map_cons, intD, DRr, DRc]
    exact ⟨[.int .i64 s], r.map encN, rfl, rfl, rfl, cells_ints r⟩
theorem row_holdsN {b e : Nat} {cs : Array Value} {fr : Nat × Nat} {ss : List Int} (hh : w.heap[b]? = some (.cells cs e fr)) (hu : Unf cs fr) (hcs : cs.toList.take ss.length = ss.map encN) (hln : ss.length ≤ cs.size) :
    Holds encN w b 0 ss.toArray := by
  intro j hj
  have hj' : j < ss.length := by simpa using hj
  have hv : cs[j]? = some (encN ss[j]) := by
    have := congrArg (fun l => l[j]?) hcs
    simp only [List.getElem?_take, if_pos hj', List.getElem?_map, List.getElem?_eq_getElem hj', Option.map_some] at this
    simpa using this
  refine ⟨?_, ?_⟩
  · rw [cell_at hh, Nat.zero_add, hv]
    have : (ss.toArray)[j]! = ss[j] := by
      rw [getElem!_pos _ j hj]
      simp
    rw [this]
  · have := hu j (by omega)
    simp only [World.frozen?, hh, Nat.zero_add]
    exact this
theorem row_afterN {b e : Nat} {cs : Array Value} {fr : Nat × Nat} {ss : List Int} {q : Nat} {os : Array Obj} (hh : w.heap[b]? = some (.cells cs e fr)) (hln : ss.length ≤ cs.size) :
    ∃ cs', (grow (putRow encN (Sort.ahead w q) b 0 ss.toArray) os).heap[b]? = some (.cells cs' e fr) ∧ cs'.size = cs.size ∧ cs'.toList.take ss.length = ss.map encN ∧
      (∀ k, k < w.heap.size → k ≠ b → (grow (putRow encN (Sort.ahead w q) b 0 ss.toArray) os).heap[k]? = w.heap[k]?) ∧ w.heap.size ≤ (grow (putRow encN (Sort.ahead w q) b 0 ss.toArray) os).heap.size := by
  have hb := lt_heap hh
  have hsz : (w.heap.modify b (onCells (putCells encN 0 ss.toArray))).size = w.heap.size := by simp
  refine ⟨putCells encN 0 ss.toArray cs, ?_, by simp [putCells], ?_, fun k hk hkb => ?_, ?_⟩
  · show ((w.heap.modify b (onCells (putCells encN 0 ss.toArray))) ++ os)[b]? = _
    rw [Array.getElem?_append_left (by rw [hsz]; exact hb), Array.getElem?_modify, if_pos rfl, hh]
    rfl
  · apply List.ext_getElem?
    intro k
    rw [List.getElem?_take]
    by_cases hk : k < ss.length
    · rw [if_pos hk, List.getElem?_map, List.getElem?_eq_getElem hk]
      have hkc : k < cs.size := by omega
      simp only [putCells, Array.getElem?_toList, Array.getElem?_mapIdx, Array.getElem?_eq_getElem hkc, Option.map_some, Nat.zero_le, true_and, Nat.zero_add, Nat.sub_zero]
      rw [if_pos (by simpa using hk), getElem!_pos _ k (by simpa using hk)]
      simp
    · rw [if_neg hk, List.getElem?_eq_none (by simp; omega)]
  · show ((w.heap.modify b (onCells (putCells encN 0 ss.toArray))) ++ os)[k]? = _
    rw [Array.getElem?_append_left (by rw [hsz]; exact hk), Array.getElem?_modify, if_neg (Ne.symm hkb)]
  · show w.heap.size ≤ ((w.heap.modify b (onCells (putCells encN 0 ss.toArray))) ++ os).size
    rw [Array.size_append, hsz]
    omega
end
 
def sortZ (ss : List Int) : List Int := ss.mergeSort fun x y => decide (x ≤ y)
theorem sortZ_len (ss : List Int) : (sortZ ss).length = ss.length := by simp [sortZ]
theorem sortZ_has {P : Program} {g : FuncId} {fn : Func} (hfn : P.funcs[g]? = some fn) (hname : (fn.name == "runtime.NumGoroutine") = false) (hb : fn.body.isSome = true)
    (hS : ∀ (blk off cap : Nat) (ss : List Int) (w : World), Holds (Value.int .i64) w blk off ss.toArray → blk < w.heap.size → ss.length < 4611686018427387904 →
      Calls P g #[.slice (some ⟨blk, off, none⟩) ss.length cap] w fun e w' => e = .returned (.tuple #[]) ∧ ∃ n os, w' = grow (putRow (Value.int .i64) (Sort.ahead w n) blk off (ss.mergeSort fun x y => decide (x ≤ y)).toArray) os)
    (hN : ∀ (p : Option Addr) (cap : Nat) (w : World), Calls P g #[.slice p 0 cap] w fun e w' => e = .returned (.tuple #[]) ∧ w' = w)
    (e : Nat) (ss : List Int) (hlen : ss.length < 4611686018427387904) :
    Has P g [.own e 1 (ss.map intD)] (fun rs bs => rs = [] ∧ bs = [.own e 1 ((sortZ ss).map intD)]) := by
  constructor
  intro F w vs fp hc hn hs hF
  simp only [CRl, CR] at hc
  obtain ⟨v, vs', f1, f2, rfl, hv, ⟨rfl, rfl⟩, rfl⟩ := hc
  rw [List.append_nil] at hn hs
  rcases hv with ⟨rfl, hnil, rfl⟩ | ⟨b, n, cs, fr, rfl, hh, hu, h0, hcs, hln, hm, hd, rfl⟩
  · have hss : ss = [] := by simpa using hnil
    subst hss
    refine enters_of_calls hfn hname hb ((hN none 0 w).mono fun en w' he => ?_)
    obtain ⟨rfl, rfl⟩ := he
    refine ⟨[], [.own e 1 []], F, [], [], [], ⟨rfl, by simp [sortZ]⟩, ⟨by simp [Rv], by simp [CRl], by simp [CRl, CR], by simp, by simp, hF, fun _ h => h, fun _ _ _ => rfl, fun b hb => .inl (by simpa using hb), rfl, rfl, rfl, Nat.le_refl _⟩⟩
  · have hl1 : (ss.map intD).length = ss.length := by simp
    rw [hl1] at hln hd ⊢
    simp only [Nat.mul_one] at hcs hd
    have hcells := ints_cells hd
    have hlc : ss.length ≤ cs.size := by omega
    have hH := row_holdsN hh hu hcells hlc
    have hb' : b < w.heap.size := lt_heap hh
    have hcall := hS b 0 n ss w hH hb' hlen
    refine enters_of_calls hfn hname hb (hcall.mono fun en w' he => ?_)
    obtain ⟨rfl, q, os, rfl⟩ := he
    obtain ⟨cs', k1, k2, k3, k4, k5⟩ := row_afterN (w := w) (b := b) (ss := sortZ ss) (q := q) (os := os) hh (by rw [sortZ_len]; omega)
    rw [sortZ_len] at k3
    have hbF : ¬ F b := (hs b (by simp)).1
    refine ⟨[], [.own e 1 ((sortZ ss).map intD)], F, [], [], [b], ⟨rfl, rfl⟩, ?_⟩
    refine ⟨by simp [Rv], by simp [CRl], ?_, by simp, fun x hx => ?_, fun x hx => Nat.lt_of_lt_of_le (hF x hx) k5, fun _ h => h, fun x hx hnx => k4 x hx (by simpa using hnx), fun x hx => ?_, rfl, rfl, rfl, k5⟩
    · simp only [CRl, CR]
      refine ⟨_, [], [b], [], rfl, .inr ⟨b, n, cs', fr, ?_, k1, fun i hi => hu i (by omega), h0, by omega, ?_, hm, ?_, rfl⟩, ⟨rfl, rfl⟩, rfl⟩
      · simp [sortZ_len]
      · simp [sortZ_len]; omega
      · simp only [List.length_map, sortZ_len, Nat.mul_one]
        rw [k3]
        exact cells_ints _
    · simp at hx
      subst hx
      exact ⟨hbF, Nat.lt_of_lt_of_le hb' k5⟩
    · rcases hx with h | h
      · exact .inl h
      · simp at h
        subst h
        exact .inr (.inl (by simp))
theorem compactZ_has {P : Program} {g : FuncId} {fn : Func} (hfn : P.funcs[g]? = some fn) (hname : (fn.name == "runtime.NumGoroutine") = false) (hb : fn.body.isSome = true)
    (hS : ∀ (blk off cap : Nat) (zs : List Int) (w : World), Holds (Value.int .i64) w blk off zs.toArray → zs.length ≤ 9223372036854775807 → zs.length ≤ cap →
      Calls P g #[.slice (some ⟨blk, off, none⟩) zs.length cap] w fun e w' => e = .returned (.slice (some ⟨blk, off, none⟩) (Lib.compact zs).length cap) ∧ ∃ q, w' = putRow (Value.int .i64) (Sort.ahead w q) blk off (Lib.compact zs ++ List.replicate (zs.length - (Lib.compact zs).length) 0).toArray)
    (hN : ∀ (a : Option Addr) (cap : Nat) (w : World), Calls P g #[.slice a 0 cap] w fun e w' => e = .returned (.slice a 0 cap) ∧ w' = w)
    (e : Nat) (ss : List Int) :
    Has P g [.own e 1 (ss.map intD)] (fun rs bs => rs = [.own e 1 ((Lib.compact ss).map intD)] ∧ bs = [.gone]) := by
  constructor
  intro F w vs fp hc hn hs hF
  simp only [CRl, CR] at hc
  obtain ⟨v, vs', f1, f2, rfl, hv, ⟨rfl, rfl⟩, rfl⟩ := hc
  rw [List.append_nil] at hn hs
  rcases hv with ⟨rfl, hnil, rfl⟩ | ⟨b, n, cs, fr, rfl, hh, hu, h0, hcs, hln, hm, hd, rfl⟩
  · have hss : ss = [] := by simpa using hnil
    subst hss
    refine enters_of_calls hfn hname hb ((hN none 0 w).mono fun en w' he => ?_)
    obtain ⟨rfl, rfl⟩ := he
    refine ⟨[.own e 1 []], [.gone], F, [.slice none 0 0], [], [], ⟨by simp [Lib.compact, Lib.compactUpTo], rfl⟩, ⟨by simp [Rv], by simp [CRl, CR], by simp [CRl, CR], by simp, by simp, hF, fun _ h => h, fun _ _ _ => rfl, fun b hb => .inl (by simpa using hb), rfl, rfl, rfl, Nat.le_refl _⟩⟩
  · have hl1 : (ss.map intD).length = ss.length := by simp
    rw [hl1] at hln hd ⊢
    simp only [Nat.mul_one] at hcs hd
    have hcells := ints_cells hd
    have hlc : ss.length ≤ cs.size := by omega
    have hH := row_holdsN hh hu hcells hlc
    have hb' : b < w.heap.size := lt_heap hh
    have hcl := Lib.compact_length_le ss
    have hmx : n ≤ 9223372036854775807 := by simpa [maxLen] using hm
    have hcall := hS b 0 n ss w hH (by omega) hln
    refine enters_of_calls hfn hname hb (hcall.mono fun en w' he => ?_)
    obtain ⟨rfl, q, rfl⟩ := he
    have hlf : (Lib.compact ss ++ List.replicate (ss.length - (Lib.compact ss).length) 0).length = ss.length := by simp; omega
    obtain ⟨cs', k1, k2, k3, k4, k5⟩ := row_afterN (w := w) (b := b) (ss := Lib.compact ss ++ List.replicate (ss.length - (Lib.compact ss).length) 0) (q := q) (os := #[]) hh (by rw [hlf]; omega)
    rw [grow_empty] at k1 k4 k5
    rw [hlf] at k3
    have hbF : ¬ F b := (hs b (by simp)).1
    refine ⟨[.own e 1 ((Lib.compact ss).map intD)], [.gone], F, [.slice (some ⟨b, 0, none⟩) (Lib.compact ss).length n], [b], [], ⟨rfl, rfl⟩, ?_⟩
    refine ⟨by simp [Rv], ?_, by simp [CRl, CR], by simp, fun x hx => ?_, fun x hx => Nat.lt_of_lt_of_le (hF x hx) k5, fun _ h => h, fun x hx hnx => k4 x hx (by simpa using hnx), fun x hx => ?_, rfl, rfl, rfl, k5⟩
    · simp only [CRl, CR]
      refine ⟨_, [], [b], [], rfl, .inr ⟨b, n, cs', fr, ?_, k1, fun i hi => hu i (by omega), h0, by omega, ?_, hm, ?_, rfl⟩, ⟨rfl, rfl⟩, rfl⟩
      · simp
      · simp; omega
      · simp only [List.length_map, Nat.mul_one]
        have := congrArg (List.take (Lib.compact ss).length) k3
        rw [List.take_take, Nat.min_eq_left hcl, List.map_append, List.take_left' (List.length_map _)] at this
        rw [this]
        exact cells_ints _
    · simp at hx
      subst hx
      exact ⟨hbF, Nat.lt_of_lt_of_le hb' k5⟩
    · rcases hx with h | h
      · exact .inl h
      · simp at h
        subst h
        exact .inr (.inl (by simp))
end Go.Fw
namespace Go.Fw
open Go
set_option linter.unusedVariables false
set_option linter.unusedSimpArgs false
section
variable {P : Program} {N : Nat} {F : Nat → Prop} {B : Blk} {w : World} {S : St} {a : Act}
theorem VRl_set {c : Nat} : ∀ {l : List AV} {vs : List Value} {i : Nat} {x : AV}, VRl w F B c l vs → (∀ v, vs[i]? = some v → VR w F B c x v) → VRl w F B c (l.set i x) vs
  | [], vs, i, x, h, hx => by simpa using h
  | y :: r, vs, 0, x, h, hx => by
    simp only [VRl] at h
    obtain ⟨v, vs', rfl, h1, h2⟩ := h
    simp only [List.set_cons_zero, VRl]
    exact ⟨v, vs', rfl, hx v rfl, h2⟩
  | y :: r, vs, i + 1, x, h, hx => by
    simp only [VRl] at h
    obtain ⟨v, vs', rfl, h1, h2⟩ := h
    simp only [List.set_cons_succ, VRl]
    exact ⟨v, vs', rfl, h1, VRl_set h2 fun u hu => hx u (by simpa using hu)⟩
theorem VRl_at {c : Nat} : ∀ {l : List AV} {vs : List Value} {i : Nat} {x : AV} {v : Value}, VRl w F B c l vs → l[i]? = some x → vs[i]? = some v → VR w F B c x v
  | [], vs, i, x, v, h, h1, h2 => by simp at h1
  | y :: r, vs, 0, x, v, h, h1, h2 => by
    simp only [VRl] at h
    obtain ⟨u, vs', rfl, g1, g2⟩ := h
    simp at h1 h2
    subst h1
    subst h2
    exact g1
  | y :: r, vs, i + 1, x, v, h, h1, h2 => by
    simp only [VRl] at h
    obtain ⟨u, vs', rfl, g1, g2⟩ := h
    exact VRl_at g2 (by simpa using h1) (by simpa using h2)
theorem cellsOK_set : ∀ {l : List AV} {i : Nat} {x : AV}, cellsOK l = true → x.cell = true → cellsOK (l.set i x) = true
  | [], i, x, h, hx => by simpa using h
  | y :: r, 0, x, h, hx => by
    simp only [cellsOK, Bool.and_eq_true] at h
    simp only [List.set_cons_zero, cellsOK, hx, h.2, Bool.and_self]
  | y :: r, i + 1, x, h, hx => by
    simp only [cellsOK, Bool.and_eq_true] at h
    simp only [List.set_cons_succ, cellsOK, h.1, cellsOK_set h.2 hx, Bool.and_self]
 
def nilRow (S : St) (k : Key) (e : Nat) (l : List AV) (i e1 sz : Nat) : St :=
  ⟨S.E, (k ++ [i], S.c, .row e1 sz []) :: setO S.H k (.box e (l.set i (.ref (k ++ [i]) S.c sz 0 0))), S.c + 1⟩
theorem Tr.nilRow (hf : FR F B w S a) (hN : a.tmps.size = N) {k : Key} {g e i : Nat} {l : List AV} (hob : objIn S.H k = some (g, .box e l)) (hi : l[i]? = some .nils) (e1 sz : Nat) :
    Tr N F B w S F (updB B S.c none) w (nilRow S k e l i e1 sz) a := by
  have h1 := FR.add (w' := w) hf (List.Sublist.refl S.H) (Nat.le_refl _) (fun _ _ => rfl) (fun _ _ _ _ => rfl) (bo := none) (fun _ h => by cases h) (k := k ++ [i]) (o := .row e1 sz []) (NewOK.of fun _ _ h => by cases h) (by simp only [OR, updB_new])
  have hne : ¬ k ++ [i] = k := fun h => by
    have := congrArg List.length h
    simp at this
  have hob1 : objIn (({ E := S.E, H := (k ++ [i], S.c, .row e1 sz []) :: S.H, c := S.c + 1 } : St)).H k = some (g, .box e l) := by
    show (if k ++ [i] = k then _ else objIn S.H k) = _
    rw [if_neg hne]
    exact hob
  have hor := h1.objsIn hob1
  have hor' := hor
  simp only [OR] at hor
  obtain ⟨b, n, cs, fr, hB, hh, hu, hc, hl⟩ := hor
  have h2 := FR.upd (w' := w) (o := .box e (l.set i (.ref (k ++ [i]) S.c sz 0 0))) h1 hob1 (blkL_of hB) (Nat.le_refl _) (fun _ _ _ => rfl) (by
    simp only [OR]
    refine ⟨b, n, cs, fr, hB, hh, hu, cellsOK_set hc rfl, VRl_set hl fun v hv => ?_⟩
    have h3 := VRl_at hl hi hv
    simp only [VR] at h3 ⊢
    refine ⟨Nat.lt_succ_self _, ?_⟩
    rw [updB_new]
    exact ⟨h3, trivial, trivial⟩)
  have e3 : setO ((k ++ [i], S.c, AO.row e1 sz []) :: S.H) k (.box e (l.set i (.ref (k ++ [i]) S.c sz 0 0))) = (k ++ [i], S.c, AO.row e1 sz []) :: setO S.H k (.box e (l.set i (.ref (k ++ [i]) S.c sz 0 0))) := by
    simp only [setO]
    rw [if_neg hne]
  have h4 : FR F (updB B S.c none) w (Fw.nilRow S k e l i e1 sz) a := by
    have h5 := h2
    simp only [e3] at h5
    exact h5
  refine ⟨h4, hN, fun _ h => h, fun _ _ _ => rfl, fun x hx => ?_, rfl, rfl, rfl, Nat.le_refl _, fun g' hg => updB_old (by have := hf.pin; omega)⟩
  rcases hx with hx | ⟨k', g', o, hm, hb⟩
  · exact .inl hx
  · rcases List.mem_cons.1 hm with hm | hm
    · simp only [Prod.mk.injEq] at hm
      obtain ⟨rfl, rfl, rfl⟩ := hm
      rw [blkL_new] at hb
      cases hb
    · have ho : Own (setO S.H k (.box e (l.set i (.ref (k ++ [i]) S.c sz 0 0)))) (updB B S.c none) x := ⟨k', g', o, hm, hb⟩
      obtain ⟨k2, g2, o2, hm2, hb2⟩ := own_setO hob ho
      rw [blkL_congr (updB_old (hf.objs _ _ _ hm2).1)] at hb2
      exact .inr (.inl ⟨k2, g2, o2, hm2, hb2⟩)
theorem Loops.nilRow {c : Code} {Q : Exit → St → Prop} (k : Key) (i e1 sz : Nat) {g e : Nat} {l : List AV} (hob : objIn S.H k = some (g, .box e l)) (hi : l[i]? = some .nils) (h : Loops P N c Q (Fw.nilRow S k e l i e1 sz)) : Loops P N c Q S :=
  ⟨fun F B w a hf hn => by
    have ht := Tr.nilRow (N := N) hf hn hob hi e1 sz
    refine wp_mono (h.awp F _ w a ht.fr ht.n) fun en a' w' ⟨S', F', B', q, t⟩ => ⟨S', F', B', q, ht.trans t⟩⟩
 
def nestA (g : Nat) : AV → AV
  | .ref k q sz off len => if q = g ∧ off = 0 ∧ len = 0 then .nref k q 0 else .ref k q sz off len
  | x => x
def nestE (g : Nat) : List (Nat × AV) → List (Nat × AV)
  | [] => []
  | (t, v) :: r => (t, nestA g v) :: nestE g r
theorem getIn_nestE (g : Nat) : ∀ (E : List (Nat × AV)) (t : Nat), getIn (nestE g E) t = nestA g (getIn E t)
  | [], t => rfl
  | (k, v) :: r, t => by
    simp only [nestE, getIn]
    split
    · rfl
    · exact getIn_nestE g r t
def toNest (S : St) (k : Key) (g e : Nat) : St := ⟨nestE g S.E, setO S.H k (.nest e []), S.c⟩
theorem FR.toNest (hf : FR F B w S a) {k : Key} {g e z : Nat} (hob : objIn S.H k = some (g, .row e z [])) (hz : z = 1) : FR F B w (Fw.toNest S k g e) a := by
  subst hz
  have hor := hf.objsIn hob
  have how := hf.own1 _ (mem_of_objIn hob)
  have hslot : ∀ t, VR w F B S.c (nestA g (getIn S.E t)) (a.tmps.getD t undef) := fun t => by
    have h := hf.slots t
    generalize getIn S.E t = x at h
    cases x <;> try exact h
    case ref k' q sz off len =>
      simp only [nestA]
      split
      · rename_i hc
        obtain ⟨rfl, rfl, rfl⟩ := hc
        simp only [VR, OR] at h hor ⊢
        refine ⟨h.1, ?_⟩
        have h2 := h.2
        cases hB : B q with
        | none => rw [hB] at h2; exact ⟨h2.1, trivial⟩
        | some p =>
          obtain ⟨b, n⟩ := p
          rw [hB] at h2 hor
          obtain ⟨cs, fr, h3, h4, h5, h6, h7, h8, h9⟩ := hor
          obtain ⟨ad, hv, hcap, had⟩ := h2
          have had' : ad = ⟨b, 0, none⟩ := by rcases had with h | h; simpa using h; omega
          subst had'
          simp only [decBN_le h8]
          exact hv
      · exact h
  have horN : OR w F B S.c g (.nest e []) := by
    simp only [OR] at hor ⊢
    cases hB : B g with
    | none => trivial
    | some p =>
      obtain ⟨b, n⟩ := p
      rw [hB] at hor
      obtain ⟨cs, fr, h3, h4, h5, h6, h7, h8, h9⟩ := hor
      simp only [decBN_le h8]
      exact ⟨cs, fr, h3, h4, by omega, Nat.zero_le _, h8, rfl, by simp⟩
  have hgens := setO_gens S.H k (.nest e [])
  have hmem : ∀ x ∈ setO S.H k (.nest e []), (x = (k, g, .nest e [])) ∨ x ∈ S.H := fun x hx => by
    rcases mem_setO hob x hx with h | h | h
    · exact .inl h
    · exact .inr h.1
    · exact .inr h.1
  have hown : ∀ b, Own (setO S.H k (.nest e [])) B b → Own S.H B b := by
    rintro b ⟨k', g', o', hm, hb⟩
    rcases hmem _ hm with h | h
    · simp only [Prod.mk.injEq] at h
      obtain ⟨rfl, rfl, rfl⟩ := h
      exact ⟨_, _, _, mem_of_objIn hob, hb⟩
    · exact ⟨k', g', o', h, hb⟩
  exact {
    slots := fun t => by
      show VR w F B S.c (getIn (nestE g S.E) t) _
      rw [getIn_nestE]
      exact hslot t
    objs := fun k' g' o' hm => by
      rcases hmem _ hm with h | h
      · simp only [Prod.mk.injEq] at h
        obtain ⟨rfl, rfl, rfl⟩ := h
        exact ⟨(hf.objs _ _ _ (mem_of_objIn hob)).1, horN⟩
      · exact hf.objs k' g' o' h
    sep := fun b hb => hf.sep b (hown b hb)
    inj := by
      show ((setO S.H k (.nest e [])).map _).Pairwise _
      rw [hgens]
      exact hf.inj
    own1 := fun x hx => by
      rcases hmem _ hx with rfl | h
      · exact ⟨how.1, fun h => by cases h⟩
      · exact hf.own1 x h
    Flt := hf.Flt
    defers := hf.defers
    pin := hf.pin }
theorem Loops.toNest {c : Code} {Q : Exit → St → Prop} (k : Key) {g e z : Nat} (hob : objIn S.H k = some (g, .row e z [])) (hz : z = 1) (h : Loops P N c Q (Fw.toNest S k g e)) : Loops P N c Q S :=
  ⟨fun F B w a hf hn => by
    have hf2 := hf.toNest hob hz
    have hown : ∀ b, Own (setO S.H k (.nest e [])) B b → Own S.H B b := fun b hb => by
      obtain ⟨k2, g2, o2, hm2, hb2⟩ := hb
      rcases mem_setO hob _ hm2 with h | h | h
      · simp only [Prod.mk.injEq] at h
        obtain ⟨rfl, rfl, rfl⟩ := h
        exact ⟨_, _, _, mem_of_objIn hob, hb2⟩
      · exact ⟨k2, g2, o2, h.1, hb2⟩
      · exact ⟨k2, g2, o2, h.1, hb2⟩
    have ht : Tr N F B w S F B w (Fw.toNest S k g e) a := ⟨hf2, hn, fun _ h => h, fun _ _ _ => rfl, fun b hb => hb.elim .inl fun h => .inr (.inl (hown b h)), rfl, rfl, rfl, Nat.le_refl _, fun _ _ => rfl⟩
    refine wp_mono (h.awp F _ w a ht.fr ht.n) fun en a' w' ⟨S', F', B', q, t⟩ => ⟨S', F', B', q, ht.trans t⟩⟩
 
def frzNA (H : List (Key × Nat × AO)) (k : Key) (g : Nat) (d : D) : AV → AV
  | .nref q g' len => if g' = g then .d d else .nref q g' len
  | x => frzAV H [k] x
def frzNE (H : List (Key × Nat × AO)) (k : Key) (g : Nat) (d : D) : List (Nat × AV) → List (Nat × AV)
  | [] => []
  | (t, v) :: r => (t, frzNA H k g d v) :: frzNE H k g d r
def frzNok (g n : Nat) : List (Nat × AV) → Prop
  | [] => True
  | (t, .nref q g' len) :: r => if g' = g then len = n ∧ frzNok g n r else frzNok g n r
  | (t, _) :: r => frzNok g n r
theorem getIn_frzNE (H : List (Key × Nat × AO)) (k : Key) (g : Nat) (d : D) : ∀ (E : List (Nat × AV)) (t : Nat), getIn (frzNE H k g d E) t = frzNA H k g d (getIn E t)
  | [], t => rfl
  | (q, v) :: r, t => by
    simp only [frzNE, getIn]
    split
    · rfl
    · exact getIn_frzNE H k g d r t
theorem frzNok_at {g n : Nat} : ∀ {E : List (Nat × AV)}, frzNok g n E → ∀ {t : Nat} {q : Key} {len : Nat}, getIn E t = .nref q g len → len = n
  | [], _, t, q, len, h => by cases h
  | (t', v) :: r, hok, t, q, len, h => by
    simp only [getIn] at h
    split at h
    · subst h
      simp only [frzNok, if_true] at hok
      exact hok.1
    · refine frzNok_at (E := r) ?_ h
      cases v <;> try exact hok
      case nref q' g' len' =>
        simp only [frzNok] at hok
        split at hok
        · exact hok.2
        · exact hok
def frzNest (S : St) (k : Key) (g : Nat) (l : List NE) : St := ⟨frzNE S.H k g (.sl 1 (l.map NE.toD)) S.E, (S.freeze [k]).H, S.c⟩
theorem FR.frzNest (P : Program) {F : Nat → Prop} {B : Blk} {w : World} {S : St} {a : Act} (hf : FR F B w S a) {k : Key} {g e : Nat} {l : List NE} (hob : objIn S.H k = some (g, .nest e l)) (hn : noHole l = true) (hok : frzNok g l.length S.E) : FR (fun b => F b ∨ FK S.H B [k] b) B w (Fw.frzNest S k g l) a := by
  have h2 := hf.freeze [k]
  have hfz : ∀ t, getIn (S.freeze [k]).E t = frzAV S.H [k] (getIn S.E t) := fun t => by
    show getIn (S.E.map fun p => (p.1, frzAV S.H [k] p.2)) t = _
    generalize S.E = E
    induction E with
    | nil => rfl
    | cons p r ih =>
      obtain ⟨q, v⟩ := p
      simp only [List.map_cons, getIn]
      split
      · rfl
      · exact ih
  exact {
    slots := fun t => by
      show VR w _ B S.c (getIn (frzNE S.H k g (.sl 1 (l.map NE.toD)) S.E) t) _
      rw [getIn_frzNE]
      have h3 : VR w (fun b => F b ∨ FK S.H B [k] b) B S.c (getIn (S.freeze [k]).E t) (a.tmps.getD t undef) := h2.slots t
      rw [hfz] at h3
      have h4 := hf.slots t
      cases hx : getIn S.E t <;> rw [hx] at h3 h4 <;> try exact h3
      case nref q g' len =>
        simp only [frzNA]
        split
        · rename_i hg
          subst hg
          have hl := frzNok_at hok hx
          subst hl
          have hgk : objIn S.H k = some (g', .nest e l) := hob
          have h5 : VR w F B S.c (.nref k g' l.length) (a.tmps.getD t undef) := by simpa only [VR] using h4
          have h6 := toD_DR (P := P) hf 1 (.nref k g' l.length) (.sl 1 (l.map NE.toD)) [k] _ (by simp only [toD, hgk, hn, and_self, if_true]) h5
          simp only [VR]
          exact h6
        · exact h3
    objs := h2.objs
    sep := h2.sep
    inj := h2.inj
    own1 := h2.own1
    Flt := h2.Flt
    defers := h2.defers
    pin := h2.pin }
theorem Loops.frzNest {c : Code} {Q : Exit → St → Prop} (k : Key) {g e : Nat} {l : List NE} (hob : objIn S.H k = some (g, .nest e l)) (hn : noHole l = true) (hok : frzNok g l.length S.E) (h : Loops P N c Q (Fw.frzNest S k g l)) : Loops P N c Q S :=
  ⟨fun F B w a hf hn' => by
    have hf2 := FR.frzNest P hf hob hn hok
    have hown : ∀ b, Own (Fw.frzNest S k g l).H B b → Own S.H B b := fun b hb => by
      obtain ⟨k', g', o', hm, hb'⟩ := hb
      obtain ⟨_, o2, hm2, _⟩ := frzH_mem (H := S.H) (ks := [k]) hm
      exact ⟨k', g', o2, hm2, hb'⟩
    have ht : Tr N F B w S (fun b => F b ∨ FK S.H B [k] b) B w (Fw.frzNest S k g l) a := ⟨hf2, hn', fun _ h => .inl h, fun _ _ _ => rfl, fun b hb => by
      rcases hb with (hb | ⟨k', g', o, _, hm, hb⟩) | hb
      · exact .inl hb
      · exact .inr (.inl ⟨k', g', o, hm, hb⟩)
      · exact .inr (.inl (hown b hb)), rfl, rfl, rfl, Nat.le_refl _, fun _ _ => rfl⟩
    refine wp_mono (h.awp _ _ w a ht.fr ht.n) fun en a' w' ⟨S', F', B', q, t⟩ => ⟨S', F', B', q, ht.trans t⟩⟩
end
end Go.Fw
namespace Go.Fw
open Go
set_option linter.unusedVariables false
set_option linter.unusedSimpArgs false
mutual
def CV.dat : CV → Option D
  | .d x => some x
  | .nils => some (.sl 0 [])
  | .own e z l => some (.sl z l)
  | .nest _ l => bif noHole l then some (.sl 1 (l.map NE.toD)) else none
  | .agg l => match dats l with
    | some xs => some (.agg xs)
    | none => none
  | _ => none
def dats : List CV → Option (List D)
  | [] => some []
  | x :: r => match x.dat, dats r with
    | some y, some ys => some (y :: ys)
    | _, _ => none
end
theorem dat_cell : ∀ {x : CV} {y : D}, x.dat = some y → x.cell = true → y.isAgg = false
  | .d x, y, h, hc => by
    simp only [CV.dat, Option.some.injEq] at h
    subst h
    simpa [CV.cell] using hc
  | .nils, y, h, hc => by
    simp only [CV.dat, Option.some.injEq] at h
    subst h
    rfl
  | .own e z l, y, h, hc => by
    simp only [CV.dat, Option.some.injEq] at h
    subst h
    rfl
  | .nest e l, y, h, hc => by
    simp only [CV.dat] at h
    cases hn : noHole l with
    | false => rw [hn] at h; cases h
    | true =>
      rw [hn] at h
      simp only [cond_true, Option.some.injEq] at h
      subst h
      rfl
  | .agg l, y, h, hc => by simp [CV.cell] at hc
  | .box e l, y, h, hc => by simp [CV.dat] at h
  | .gone, y, h, hc => by simp [CV.dat] at h
section
variable {w : World} {F : Nat → Prop}
theorem DRv_of_DRc {y : D} {v : Value} (hc : y.isAgg = false) (h : DRv w F y v) : DRc w F y [v] := by
  cases y <;> first | exact h | simp [D.isAgg] at hc
mutual
theorem CR_dat : ∀ (x : CV) (v : Value) (fp : List Nat) (y : D), CR w F x v fp → x.dat = some y → DRv w (fun b => F b ∨ b ∈ fp) y v
  | .d x, v, fp, y, h, hy => by
    simp only [CV.dat, Option.some.injEq] at hy
    subst hy
    simp only [CR] at h
    exact h.1.mono (fun _ _ => rfl) fun b => .inl
  | .nils, v, fp, y, h, hy => by
    simp only [CV.dat, Option.some.injEq] at hy
    subst hy
    simp only [CR] at h
    simp only [DRv, DRc]
    exact ⟨none, 0, by simp [h.1], Nat.le_refl _, Nat.zero_le _, .inl trivial⟩
  | .own e z l, v, fp, y, h, hy => by
    simp only [CV.dat, Option.some.injEq] at hy
    subst hy
    simp only [CR] at h
    simp only [DRv, DRc]
    rcases h with ⟨rfl, rfl, rfl⟩ | ⟨b, n, cs, fr, rfl, hh, hu, h0, hcs, hln, hm, hd, rfl⟩
    · exact ⟨none, 0, rfl, Nat.le_refl _, Nat.zero_le _, .inl rfl⟩
    · refine ⟨some ⟨b, 0, none⟩, n, rfl, hln, hm, .inr ⟨⟨b, 0, none⟩, cs.toList.take (l.length * z), rfl, .inr (by simp), ?_, ?_⟩⟩
      · have := Cells_of_block hh 0 (l.length * z)
        rw [List.drop_zero] at this
        exact this
      · exact DRr.mono (fun _ _ => rfl) (fun b => .inl) _ _ _ hd
  | .nest e l, v, fp, y, h, hy => by
    simp only [CV.dat] at hy
    cases hn : noHole l with
    | false => rw [hn] at hy; cases hy
    | true =>
    rw [hn] at hy
    simp only [cond_true, Option.some.injEq] at hy
    subst hy
    simp only [CR] at h
    simp only [DRv, DRc, List.length_map]
    rcases h with ⟨rfl, rfl, rfl⟩ | ⟨b, n, is, cs, fr, rfl, hh, hu, hcs, hln, hm, hd, rfl⟩
    · exact ⟨none, 0, rfl, Nat.le_refl _, Nat.zero_le _, .inl rfl⟩
    · refine ⟨some ⟨b, 0, none⟩, n, rfl, hln, hm, .inr ⟨⟨b, 0, none⟩, cs.toList.take l.length, rfl, .inr (by simp), ?_, ?_⟩⟩
      · have := Cells_of_block hh 0 l.length
        rw [List.drop_zero] at this
        exact this
      · exact NRl_DRr (fun b => .inl) hd hn fun b' n' hm' => .inr (List.mem_cons_of_mem _ (List.mem_filterMap.2 ⟨_, hm', rfl⟩))
  | .agg l, v, fp, y, h, hy => by
    simp only [CV.dat] at hy
    split at hy
    · rename_i xs hxs
      simp only [Option.some.injEq] at hy
      subst hy
      simp only [CR] at h
      obtain ⟨cs, rfl, hc, hl⟩ := h
      simp only [DRv]
      exact ⟨cs, rfl, CRl_dat l cs.toList fp xs hl hc hxs⟩
    · cases hy
  | .box e l, v, fp, y, h, hy => by simp [CV.dat] at hy
  | .gone, v, fp, y, h, hy => by simp [CV.dat] at hy
theorem CRl_dat : ∀ (l : List CV) (vs : List Value) (fp : List Nat) (xs : List D), CRl w F l vs fp → cvCells l = true → dats l = some xs → DRl w (fun b => F b ∨ b ∈ fp) xs vs
  | [], vs, fp, xs, h, hc, hx => by
    simp only [dats, Option.some.injEq] at hx
    subst hx
    simp only [CRl] at h
    simp [DRl, h.1]
  | x :: r, vs, fp, xs, h, hc, hx => by
    simp only [dats] at hx
    split at hx
    · rename_i y ys hy hys
      simp only [Option.some.injEq] at hx
      subst hx
      simp only [cvCells, Bool.and_eq_true] at hc
      simp only [CRl] at h
      obtain ⟨v, vs', f1, f2, rfl, h1, h2, rfl⟩ := h
      have g1 := CR_dat x v f1 y h1 hy
      have g2 := CRl_dat r vs' f2 ys h2 hc.2 hys
      have ha := dat_cell hy hc.1
      simp only [DRl]
      refine ⟨v, vs', rfl, ha, ?_, DRl.mono (fun _ _ => rfl) (fun b hb => hb.imp id fun h => List.mem_append_right _ h) _ _ g2⟩
      exact DRc.mono (fun _ _ => rfl) (fun b hb => hb.imp id fun h => List.mem_append_left _ h) _ _ (DRv_of_DRc ha g1)
    · cases hx
end
theorem CRl_dats : ∀ (l : List CV) (vs : List Value) (fp : List Nat) (xs : List D), CRl w F l vs fp → dats l = some xs → CRl w (fun b => F b ∨ b ∈ fp) (xs.map CV.d) vs []
  | [], vs, fp, xs, h, hx => by
    simp only [dats, Option.some.injEq] at hx
    subst hx
    simp only [CRl] at h
    simp [CRl, h.1]
  | x :: r, vs, fp, xs, h, hx => by
    simp only [dats] at hx
    split at hx
    · rename_i y ys hy hys
      simp only [Option.some.injEq] at hx
      subst hx
      simp only [CRl] at h
      obtain ⟨v, vs', f1, f2, rfl, h1, h2, rfl⟩ := h
      have g1 := CR_dat x v f1 y h1 hy
      have g2 := CRl_dats r vs' f2 ys h2 hys
      simp only [List.map_cons, CRl, CR]
      exact ⟨v, vs', [], [], rfl, ⟨g1.mono (fun _ _ => rfl) (fun b hb => hb.imp id fun h => List.mem_append_left _ h), rfl⟩, CRl.mono (fun b hb => hb.imp id fun h => List.mem_append_right _ h) _ _ _ g2, rfl⟩
    · cases hx
end
 
theorem Has.dat {P : Program} {g : FuncId} {args : List CV} {R : List CV → List CV → Prop} {R' : List CV → List CV → Prop} (h : Has P g args R) (hr : ∀ rs bs, R rs bs → ∃ xs, dats rs = some xs ∧ R' (xs.map CV.d) bs) : Has P g args R' := by
  constructor
  intro F w vs fp h1 h2 h3 h4
  have key : ∀ v w', (∃ rs az F' vr f1 f2, R rs az ∧ Left F w vs fp rs az v w' F' vr f1 f2) → ∃ rs az F' vr f1 f2, R' rs az ∧ Left F w vs fp rs az v w' F' vr f1 f2 := by
    rintro v w' ⟨rs, az, F', vr, f1, f2, hR, l⟩
    obtain ⟨xs, he, hR'⟩ := hr rs az hR
    have hnd := List.nodup_append.1 l.nodup
    refine ⟨xs.map CV.d, az, fun b => F' b ∨ b ∈ f1, vr, [], f2, hR', l.res, CRl_dats rs vr f1 xs l.rs he, CRl.mono (fun b => .inl) _ _ _ l.az, by simpa using hnd.2.1, fun b hb => ?_, fun b hb => ?_, fun b hb => .inl (l.sub b hb), l.keep, fun b hb => ?_, l.os, l.tape, l.output, l.size⟩
    · have hb2 : b ∈ f2 := by simpa using hb
      have := l.sep b (List.mem_append_right _ hb2)
      exact ⟨fun h => h.elim this.1 fun h' => hnd.2.2 b h' b hb2 rfl, this.2⟩
    · exact hb.elim (l.lt b) fun h => (l.sep b (List.mem_append_left _ h)).2
    · rcases hb with (hb | hb) | hb
      · exact l.new b (.inl hb)
      · exact l.new b (.inr (List.mem_append_left _ hb))
      · exact l.new b (.inr (List.mem_append_right _ (by simpa using hb)))
  have := h.con F w vs fp h1 h2 h3 h4
  unfold Enters at this ⊢
  split at this
  · exact key _ _ this
  · refine this.mono fun e w' he => ?_
    cases e
    · exact key _ _ he
    · exact he
    · exact he
  · exact this.mono fun v w' he => key _ _ he
  · exact this.elim
 
theorem Has.datN {P : Program} {g : FuncId} {args : List CV} {r0 : List CV} {xs ys : List D} (h : Has P g args (fun rs _ => rs = r0)) (hd : dats r0 = some xs) (e : ys.map D.norm = xs.map D.norm) : Has P g args (fun rs _ => rs = ys.map CV.d) :=
  (h.dat (R' := fun rs _ => rs = xs.map CV.d) fun rs bs hr => ⟨xs, by subst hr; exact hd, rfl⟩).normR fun rs bs hr => ⟨ys.map CV.d, by
    subst hr
    rw [List.map_map, List.map_map]
    have h1 : ∀ l : List D, l.map (CV.norm ∘ CV.d) = (l.map D.norm).map CV.d := fun l => by
      rw [List.map_map]
      rfl
    rw [h1, h1, e], rfl⟩
end Go.Fw
namespace Go.Fw
open Go Go.Proofs
set_option maxHeartbeats 10000000
set_option maxRecDepth 100000
set_option linter.constructorNameAsVariable false
set_option linter.unusedVariables false
set_option linter.unusedSimpArgs false
theorem of_con (row : Rw) (keys : List Int) (hl : keys.length ≤ 1000) (hk : ∀ c ∈ keys, 0 ≤ c ∧ c < row.length) : Has Tryd.prog 18 [CV.d (encRow row), CV.d (D.sl 1 (keys.map intD))] (fun rs _ => rs = [CV.own 36 2 ((ofS row keys).map encV)] ) := by
  have hb36 : Tryd.prog.bytesOf 36 = 24 := by kernel_rfl
  refine Has_of_run (fn := Tryd.f18) (M := M0) fol (by kernel_rfl) 8 noPlan [.own] [] (by kernel_rfl) (Nat.le_of_ble_eq_true rfl) ?_
  (repeat' ((conv => whnf); first | done | (refine And.intro (fun h => ?_) (fun h => ?_) <;> (try simp only [Bool.or_eq_true, Bool.and_eq_true, Bool.or_eq_false_iff, Bool.and_eq_false_iff, toNat_pred, toNat_succ, toNat_addn, toNat_subn, decide_eq_true_eq, decide_eq_false_iff_not, Bool.not_eq_true', Bool.not_eq_false', List.length_map, Int.toNat_natCast, Int.not_lt, Int.not_le, Bool.not_eq_true, Bool.false_eq_true, Bool.true_eq_false, Bool.not_true, Bool.not_false, reduceCtorEq, beq_iff_eq, Bool.not_eq_eq_eq_not, bne_iff_ne, ne_eq, decide_not, Decidable.not_not, Classical.not_not, ofS_len] at h)) | exact (rfl : (_ : AV) = _) | exact (rfl : (_ : St) = _) | refine Exists.intro (α := AV) AV.dead (And.intro (fun h => Bool.noConfusion h) ?_) | apply ex_av | (refine fun (h : (_ : Bool) = true) => ?_; have h' := h; (try simp only [Bool.or_eq_true, Bool.and_eq_true, Bool.or_eq_false_iff, Bool.and_eq_false_iff, toNat_pred, toNat_succ, toNat_addn, toNat_subn, decide_eq_true_eq, decide_eq_false_iff_not, Bool.not_eq_true', Bool.not_eq_false', List.length_map, Int.toNat_natCast, Int.not_lt, Int.not_le, Bool.not_eq_true, Bool.false_eq_true, Bool.true_eq_false, Bool.not_true, Bool.not_false, reduceCtorEq, beq_iff_eq, Bool.not_eq_eq_eq_not, bne_iff_ne, ne_eq, decide_not, Decidable.not_not, Classical.not_not, ofS_len] at h')) | (refine And.intro (a := Both _ _ _) ?_ ?_; (refine ⟨fun h => ?_, fun h => ?_⟩ <;> first | rfl | exact h | exact Bool.noConfusion h | (rw [h]; rfl) | (rw [h]; simp only [Bool.not_false, Bool.not_true, Bool.and_true]; assumption) | (simp_all; done) | fail); skip) | refine And.intro rfl ?_ | refine Two.mk ?_ ?_ | refine And.intro (allU8_bytes _) ?_ | (refine And.intro (a := (_ : Bool) = true) ?_ ?_; (first | assumption | exact decide_eq_true (by assumption) | (rw [Bool.not_eq_true']; exact decide_eq_false (by assumption)) | (rw [Bool.not_not]; exact decide_eq_true (by assumption)) | (simp_all; done) | fail); skip) | refine And.intro (Or.inr rfl) ?_ | refine And.intro (Nat.le_of_ble_eq_true rfl) ?_ | refine And.intro (decide_eq_false (by omega)) ?_ | refine And.intro (show Program.stoodInHeld _ _ = _ by kernel_rfl) (And.intro (by kernel_rfl) ?_) | refine And.intro (show Nat.beq _ _ = _ from rfl) (And.intro (by decide) ?_) | refine And.intro ⟨rfl, rfl⟩ ?_ | refine And.intro ⟨rfl, rfl, trivial⟩ ?_ | refine And.intro (Int.natCast_nonneg _) ?_ | refine Or.inl (And.intro rfl (And.intro rfl (And.intro rfl (And.intro rfl ?_)))) | refine Or.inl (And.intro rfl (And.intro rfl ?_)) | refine Or.inr (And.intro (Nat.le_of_ble_eq_true rfl) ?_) | refine Or.inl (And.intro (by unfold in64; omega) ?_) | refine And.intro (by first | omega | (simp only [dlen, true_and, and_true, Nat.le_refl, List.length_map, List.length_append, List.length_cons, List.length_nil, List.length_take, List.length_drop, List.length_replicate, Int.toNat_natCast, List.append_nil, hb36, ofS_len] <;> omega) | fail) ?_ | refine And.intro (allU8_bytes _) ?_ | refine And.intro (show elemsP _ _ _ by repeat' (first | exact rfl | exact trivial | constructor)) ?_ | (refine Loops.by (M := M0) 8 noPlan fol (by kernel_rfl) (ι := Nat) (fun i => ⟨[(0, AV.d (encRow row)), (5, AV.ref [5] 16 2 0 ((ofS row (keys.take i)).map encV).length), (8, AV.d (D.sl 1 (keys.map intD))), (9, AV.d (D.int .i64 keys.length)), (10, AV.d (D.int .i64 i))], [([5], 16, AO.row 36 2 ((ofS row (keys.take i)).map encV))], 17⟩) (fun i => i ≤ keys.length) (fun i => keys.length - i) (fun i hI => ?_) (0) (Nat.zero_le _) (Forget.mk' ⟨⟨rfl, rfl⟩, ⟨rfl, rfl⟩, ⟨rfl, rfl⟩, ⟨rfl, rfl⟩, ⟨rfl, rfl⟩, trivial⟩ ⟨⟨rfl, rfl, rfl⟩, trivial⟩ rfl rfl); have hi := hI; have hc : (i : Int) < keys.length → 0 ≤ keys.getD i default ∧ keys.getD i default < row.length := (fun h => hk _ (getD_mem (by omega)))) | (refine fun x hx => ?_; (try simp (disch := omega) only [Int.tdiv_eq_ediv_of_nonneg, Int.tmod_eq_emod_of_nonneg, bx, Bool.true_or, Bool.false_or, Bool.or_false, Bool.or_true, Bool.and_true, Bool.true_and, Bool.false_and, Bool.and_false, cond_true, cond_false, if_true, if_false, Bool.false_eq_true, min_nn, max_nn, min_ln, min_nl, max_ln, max_nl, getD_map, str_of_bytes, take_bytes, take_data, wrap_u64, wrap_u32, wrap_u8, shr_i64, shr_u64, shr_u32, shl_i64, shl_u64, Int.reduceToNat, Int.reducePow, Int.pow_succ, Int.pow_zero, Int.one_mul, Int.reduceMul, wrap_id, wrap_u8_nat, wrap_i64_u8, byteD_mk, map_snoc, map_app, set_map, take_map', drop_map', Nat.sub_zero, List.length_map, List.length_append, List.length_cons, List.length_nil, Int.toNat_natCast, List.drop_zero, List.take_succ_cons, List.take_zero, List.take_length, List.nil_append, List.append_nil, Nat.zero_add, toNat_pred, toNat_succ, toNat_addn, toNat_subn, ofS_len] at hx); subst hx) | rw [List.take_length] | (rw [List.take_of_length_le]; rotate_left; (first | omega | (simp only [dlen, true_and, and_true, Nat.le_refl, List.length_map, List.length_append, List.length_cons, List.length_nil, List.length_take, List.length_drop, List.length_replicate, Int.toNat_natCast, List.append_nil, hb36, ofS_len] <;> omega) | fail)) | refine fun h => ?_ | fail)); all_goals (try exact (AV.dead : AV)); all_goals (try (conv => whnf))
  · refine ⟨i + 1, ⟨by omega, by omega⟩, ?_⟩
    rw [ofS_snoc (by omega)]
    exact (Forget.mk' ⟨⟨rfl, rfl⟩, ⟨rfl, rfl⟩, ⟨rfl, rfl⟩, ⟨rfl, rfl⟩, ⟨rfl, rfl⟩, trivial⟩ ⟨⟨rfl, rfl, rfl⟩, trivial⟩ rfl rfl)
theorem put_con (h : Int) (b : Int) (hb : 0 ≤ b) (hb2 : b < 256) : Has Tryd.prog 29 [CV.d (D.int .u8 b), CV.box 43 [CV.d (D.int .u64 h)]] (fun rs bs => rs = [] ∧ bs = [CV.gone, CV.box 43 [CV.d (D.int .u64 (putH h b))]] ) := by
  refine Has_of_run (fn := Tryd.f29) (M := M0) fol (by kernel_rfl) 3 noPlan [] [false, true] (by kernel_rfl) (Nat.le_of_ble_eq_true rfl) ?_
  (repeat' ((conv => whnf); first | done | (refine And.intro (fun h => ?_) (fun h => ?_) <;> (try simp only [Bool.or_eq_true, Bool.and_eq_true, Bool.or_eq_false_iff, Bool.and_eq_false_iff, toNat_pred, toNat_succ, toNat_addn, toNat_subn, decide_eq_true_eq, decide_eq_false_iff_not, Bool.not_eq_true', Bool.not_eq_false', List.length_map, Int.toNat_natCast, Int.not_lt, Int.not_le, Bool.not_eq_true, Bool.false_eq_true, Bool.true_eq_false, Bool.not_true, Bool.not_false, reduceCtorEq, beq_iff_eq, Bool.not_eq_eq_eq_not, bne_iff_ne, ne_eq, decide_not, Decidable.not_not, Classical.not_not] at h)) | exact (rfl : (_ : AV) = _) | exact (rfl : (_ : St) = _) | refine Exists.intro (α := AV) AV.dead (And.intro (fun h => Bool.noConfusion h) ?_) | apply ex_av | (refine fun (h : (_ : Bool) = true) => ?_; have h' := h; (try simp only [Bool.or_eq_true, Bool.and_eq_true, Bool.or_eq_false_iff, Bool.and_eq_false_iff, toNat_pred, toNat_succ, toNat_addn, toNat_subn, decide_eq_true_eq, decide_eq_false_iff_not, Bool.not_eq_true', Bool.not_eq_false', List.length_map, Int.toNat_natCast, Int.not_lt, Int.not_le, Bool.not_eq_true, Bool.false_eq_true, Bool.true_eq_false, Bool.not_true, Bool.not_false, reduceCtorEq, beq_iff_eq, Bool.not_eq_eq_eq_not, bne_iff_ne, ne_eq, decide_not, Decidable.not_not, Classical.not_not] at h')) | (refine And.intro (a := Both _ _ _) ?_ ?_; (refine ⟨fun h => ?_, fun h => ?_⟩ <;> first | rfl | exact h | exact Bool.noConfusion h | (rw [h]; rfl) | (rw [h]; simp only [Bool.not_false, Bool.not_true, Bool.and_true]; assumption) | (simp_all; done) | fail); skip) | refine And.intro rfl ?_ | refine Two.mk ?_ ?_ | refine And.intro (allU8_bytes _) ?_ | (refine And.intro (a := (_ : Bool) = true) ?_ ?_; (first | assumption | exact decide_eq_true (by assumption) | (rw [Bool.not_eq_true']; exact decide_eq_false (by assumption)) | (rw [Bool.not_not]; exact decide_eq_true (by assumption)) | (simp_all; done) | fail); skip) | refine And.intro (Or.inr rfl) ?_ | refine And.intro (Nat.le_of_ble_eq_true rfl) ?_ | refine And.intro (decide_eq_false (by omega)) ?_ | refine And.intro (show Program.stoodInHeld _ _ = _ by kernel_rfl) (And.intro (by kernel_rfl) ?_) | refine And.intro (show Nat.beq _ _ = _ from rfl) (And.intro (by decide) ?_) | refine And.intro ⟨rfl, rfl⟩ ?_ | refine And.intro ⟨rfl, rfl, trivial⟩ ?_ | refine And.intro (Int.natCast_nonneg _) ?_ | refine Or.inl (And.intro rfl (And.intro rfl (And.intro rfl (And.intro rfl ?_)))) | refine Or.inl (And.intro rfl (And.intro rfl ?_)) | refine Or.inr (And.intro (Nat.le_of_ble_eq_true rfl) ?_) | refine Or.inl (And.intro (by unfold in64; omega) ?_) | refine And.intro (by first | omega | (simp only [dlen, true_and, and_true, Nat.le_refl, List.length_map, List.length_append, List.length_cons, List.length_nil, List.length_take, List.length_drop, List.length_replicate, Int.toNat_natCast, List.append_nil] <;> omega) | fail) ?_ | refine And.intro (allU8_bytes _) ?_ | refine And.intro (show elemsP _ _ _ by repeat' (first | exact rfl | exact trivial | constructor)) ?_ | (refine And.intro (Or.inl rfl) ?_) | (refine fun x hx => ?_; (try simp (disch := omega) only [Int.tdiv_eq_ediv_of_nonneg, Int.tmod_eq_emod_of_nonneg, bx, Bool.true_or, Bool.false_or, Bool.or_false, Bool.or_true, Bool.and_true, Bool.true_and, Bool.false_and, Bool.and_false, cond_true, cond_false, if_true, if_false, Bool.false_eq_true, min_nn, max_nn, min_ln, min_nl, max_ln, max_nl, getD_map, str_of_bytes, take_bytes, take_data, wrap_u64, wrap_u32, wrap_u8, shr_i64, shr_u64, shr_u32, shl_i64, shl_u64, Int.reduceToNat, Int.reducePow, Int.pow_succ, Int.pow_zero, Int.one_mul, Int.reduceMul, wrap_id, wrap_u8_nat, wrap_i64_u8, byteD_mk, map_snoc, map_app, set_map, take_map', drop_map', Nat.sub_zero, List.length_map, List.length_append, List.length_cons, List.length_nil, Int.toNat_natCast, List.drop_zero, List.take_succ_cons, List.take_zero, List.take_length, List.nil_append, List.append_nil, Nat.zero_add, toNat_pred, toNat_succ, toNat_addn, toNat_subn] at hx); subst hx) | rw [List.take_length] | (rw [List.take_of_length_le]; rotate_left; (first | omega | (simp only [dlen, true_and, and_true, Nat.le_refl, List.length_map, List.length_append, List.length_cons, List.length_nil, List.length_take, List.length_drop, List.length_replicate, Int.toNat_natCast, List.append_nil] <;> omega) | fail)) | refine fun h => ?_ | fail)); all_goals (try exact (AV.dead : AV)); all_goals (try (conv => whnf))
  exact rfl
theorem putB_con (h : Int) (b : UInt8) : Has Tryd.prog 29 [CV.d (byteD b), CV.box 43 [CV.d (D.int .u64 h)]] (fun rs bs => rs = [] ∧ bs = [CV.gone, CV.box 43 [CV.d (D.int .u64 (putH h b.toNat))]]) :=
  put_con h b.toNat (Int.natCast_nonneg _) (by have := b.toNat_lt; omega)
def M17 : FuncId → List Mode := fun g => if g = 29 then [.frz, .own] else []
theorem hash_con (l : Rw) (hz : ∀ v ∈ l, v.2.size ≤ 1000000) : Has Tryd.prog 17 [CV.d (encRow l)] (fun rs _ => rs = [CV.d (D.int .u64 (hashV l))]) := by
  refine Has_of_run (fn := Tryd.f17) (M := M17) fol (by kernel_rfl) 3 noPlan [] [] (by kernel_rfl) (Nat.le_of_ble_eq_true rfl) ?_
  (repeat' ((conv => whnf); first | done | (refine And.intro (fun h => ?_) (fun h => ?_) <;> (try simp only [Bool.or_eq_true, Bool.and_eq_true, Bool.or_eq_false_iff, Bool.and_eq_false_iff, toNat_pred, toNat_succ, toNat_addn, toNat_subn, decide_eq_true_eq, decide_eq_false_iff_not, Bool.not_eq_true', Bool.not_eq_false', List.length_map, Int.toNat_natCast, Int.not_lt, Int.not_le, Bool.not_eq_true, Bool.false_eq_true, Bool.true_eq_false, Bool.not_true, Bool.not_false, reduceCtorEq, beq_iff_eq, Bool.not_eq_eq_eq_not, bne_iff_ne, ne_eq, decide_not, Decidable.not_not, Classical.not_not] at h)) | exact (rfl : (_ : AV) = _) | exact (rfl : (_ : St) = _) | refine Exists.intro (α := AV) AV.dead (And.intro (fun h => Bool.noConfusion h) ?_) | apply ex_av | (refine fun (h : (_ : Bool) = true) => ?_; have h' := h; (try simp only [Bool.or_eq_true, Bool.and_eq_true, Bool.or_eq_false_iff, Bool.and_eq_false_iff, toNat_pred, toNat_succ, toNat_addn, toNat_subn, decide_eq_true_eq, decide_eq_false_iff_not, Bool.not_eq_true', Bool.not_eq_false', List.length_map, Int.toNat_natCast, Int.not_lt, Int.not_le, Bool.not_eq_true, Bool.false_eq_true, Bool.true_eq_false, Bool.not_true, Bool.not_false, reduceCtorEq, beq_iff_eq, Bool.not_eq_eq_eq_not, bne_iff_ne, ne_eq, decide_not, Decidable.not_not, Classical.not_not] at h')) | (refine And.intro (a := Both _ _ _) ?_ ?_; (refine ⟨fun h => ?_, fun h => ?_⟩ <;> first | rfl | exact h | exact Bool.noConfusion h | (rw [h]; rfl) | (rw [h]; simp only [Bool.not_false, Bool.not_true, Bool.and_true]; assumption) | (simp_all; done) | fail); skip) | refine And.intro rfl ?_ | refine Two.mk ?_ ?_ | refine And.intro (allU8_bytes _) ?_ | (refine And.intro (a := (_ : Bool) = true) ?_ ?_; (first | assumption | exact decide_eq_true (by assumption) | (rw [Bool.not_eq_true']; exact decide_eq_false (by assumption)) | (rw [Bool.not_not]; exact decide_eq_true (by assumption)) | (simp_all; done) | fail); skip) | refine And.intro (Or.inr rfl) ?_ | refine And.intro (Nat.le_of_ble_eq_true rfl) ?_ | refine And.intro (decide_eq_false (by omega)) ?_ | refine And.intro (show Program.stoodInHeld _ _ = _ by kernel_rfl) (And.intro (by kernel_rfl) ?_) | refine And.intro (show Nat.beq _ _ = _ from rfl) (And.intro (by decide) ?_) | refine And.intro ⟨rfl, rfl⟩ ?_ | refine And.intro ⟨rfl, rfl, trivial⟩ ?_ | refine And.intro (Int.natCast_nonneg _) ?_ | refine Or.inl (And.intro rfl (And.intro rfl (And.intro rfl (And.intro rfl ?_)))) | refine Or.inl (And.intro rfl (And.intro rfl ?_)) | refine Or.inr (And.intro (Nat.le_of_ble_eq_true rfl) ?_) | refine Or.inl (And.intro (by unfold in64; omega) ?_) | refine And.intro (by first | omega | (simp only [dlen, true_and, and_true, Nat.le_refl, List.length_map, List.length_append, List.length_cons, List.length_nil, List.length_take, List.length_drop, List.length_replicate, Int.toNat_natCast, List.append_nil] <;> omega) | fail) ?_ | refine And.intro (allU8_bytes _) ?_ | refine And.intro (show elemsP _ _ _ by repeat' (first | exact rfl | exact trivial | constructor)) ?_ | (refine (put_con _ 255 (by omega) (by omega)).mono fun rs bs hr => ?_; obtain ⟨rfl, rfl⟩ := hr) | (refine (put_con _ 254 (by omega) (by omega)).mono fun rs bs hr => ?_; obtain ⟨rfl, rfl⟩ := hr) | (refine (put_con _ 253 (by omega) (by omega)).mono fun rs bs hr => ?_; obtain ⟨rfl, rfl⟩ := hr) | (refine (putB_con _ _).mono fun rs bs hr => ?_; obtain ⟨rfl, rfl⟩ := hr) | (refine Loops.by (M := M17) 3 noPlan fol (by kernel_rfl) (ι := Nat) (fun i => ⟨[(3, AV.addr [3] 16 0), (4, AV.clo (Fn.func 29) [] [AV.addr [3] 16 0]), (10, AV.d (encRow l)), (11, AV.d (D.int .i64 l.length)), (12, AV.d (D.int .i64 i))], [([3], 16, AO.box 43 [AV.d (D.int .u64 (hashV (l.take i)))])], 17⟩) (fun i => i ≤ l.length) (fun i => l.length - i) (fun i hI => ?_) (0) (Nat.zero_le _) (Forget.mk' ⟨⟨rfl, rfl⟩, ⟨rfl, rfl⟩, ⟨rfl, rfl⟩, ⟨rfl, rfl⟩, ⟨rfl, rfl⟩, trivial⟩ ⟨⟨rfl, rfl, rfl⟩, trivial⟩ rfl rfl); have hi := hI; have hzi : (i : Int) < l.length → (l.getD i default).2.size ≤ 1000000 := (fun h => hz _ (getD_mem (by omega)))) | (refine Loops.by (M := M17) 3 noPlan fol (by kernel_rfl) (ι := Nat) (fun k => ⟨[(3, AV.addr [3] 16 0), (4, AV.clo (Fn.func 29) [] [AV.addr [3] 16 0]), (10, AV.d (encRow l)), (11, AV.d (D.int .i64 l.length)), (12, AV.d (D.int .i64 i)), (24, AV.ref [24] 17 1 0 ((l.getD i default).2.size)), (25, AV.d (D.int .i64 ((l.getD i default).2.size))), (26, AV.d (D.int .i64 k))], [([3], 16, AO.box 43 [AV.d (D.int .u64 (putsH (putH (hashV (l.take i)) 254) ((l.getD i default).2.data.toList.take k)))]), ([24], 17, AO.row 5 1 (((l.getD i default).2.data.toList).map byteD))], 18⟩) (fun k => k ≤ (l.getD i default).2.size) (fun k => (l.getD i default).2.size - k) (fun k hI => ?_) (0) (Nat.zero_le _) (Forget.mk' ⟨⟨rfl, rfl⟩, ⟨rfl, rfl⟩, ⟨rfl, rfl⟩, ⟨rfl, rfl⟩, ⟨rfl, rfl⟩, ⟨rfl, rfl⟩, ⟨rfl, rfl⟩, ⟨rfl, rfl⟩, trivial⟩ ⟨⟨rfl, rfl, rfl⟩, ⟨rfl, rfl, rfl⟩, trivial⟩ rfl rfl); have hk := hI) | ((rw [getD_map]; rotate_left; rw [dlen]; omega)) | (refine fun x hx => ?_; (try simp (disch := omega) only [Int.tdiv_eq_ediv_of_nonneg, Int.tmod_eq_emod_of_nonneg, bx, Bool.true_or, Bool.false_or, Bool.or_false, Bool.or_true, Bool.and_true, Bool.true_and, Bool.false_and, Bool.and_false, cond_true, cond_false, if_true, if_false, Bool.false_eq_true, min_nn, max_nn, min_ln, min_nl, max_ln, max_nl, getD_map, str_of_bytes, take_bytes, take_data, wrap_u64, wrap_u32, wrap_u8, shr_i64, shr_u64, shr_u32, shl_i64, shl_u64, Int.reduceToNat, Int.reducePow, Int.pow_succ, Int.pow_zero, Int.one_mul, Int.reduceMul, wrap_id, wrap_u8_nat, wrap_i64_u8, byteD_mk, map_snoc, map_app, set_map, take_map', drop_map', Nat.sub_zero, List.length_map, List.length_append, List.length_cons, List.length_nil, Int.toNat_natCast, List.drop_zero, List.take_succ_cons, List.take_zero, List.take_length, List.nil_append, List.append_nil, Nat.zero_add, toNat_pred, toNat_succ, toNat_addn, toNat_subn] at hx); subst hx) | rw [List.take_length] | (rw [List.take_of_length_le]; rotate_left; (first | omega | (simp only [dlen, true_and, and_true, Nat.le_refl, List.length_map, List.length_append, List.length_cons, List.length_nil, List.length_take, List.length_drop, List.length_replicate, Int.toNat_natCast, List.append_nil] <;> omega) | fail)) | refine fun h => ?_ | fail)); all_goals (try exact (AV.dead : AV)); all_goals (try (conv => whnf))
  · refine ⟨i + 1, ⟨by omega, by omega⟩, ?_⟩
    rw [hashV_step (by omega)]
    unfold valH
    rw [if_pos (by assumption)]
    exact (Forget.mk' ⟨⟨rfl, rfl⟩, ⟨rfl, rfl⟩, ⟨rfl, rfl⟩, ⟨rfl, rfl⟩, ⟨rfl, rfl⟩, trivial⟩ ⟨⟨rfl, rfl, rfl⟩, trivial⟩ rfl rfl)
  · refine ⟨k + 1, ⟨by omega, by omega⟩, ?_⟩
    rw [putsH_step (by rw [dlen]; omega)]
    exact (Forget.mk' ⟨⟨rfl, rfl⟩, ⟨rfl, rfl⟩, ⟨rfl, rfl⟩, ⟨rfl, rfl⟩, ⟨rfl, rfl⟩, ⟨rfl, rfl⟩, ⟨rfl, rfl⟩, ⟨rfl, rfl⟩, trivial⟩ ⟨⟨rfl, rfl, rfl⟩, ⟨rfl, rfl, rfl⟩, trivial⟩ rfl rfl)
  · refine ⟨i + 1, ⟨by omega, by omega⟩, ?_⟩
    rw [List.take_of_length_le (l := (l.getD i default).2.data.toList) (by rw [dlen]; omega), hashV_step (by omega)]
    unfold valH
    rw [if_neg (by simp_all)]
    exact (Forget.mk' ⟨⟨rfl, rfl⟩, ⟨rfl, rfl⟩, ⟨rfl, rfl⟩, ⟨rfl, rfl⟩, ⟨rfl, rfl⟩, trivial⟩ ⟨⟨rfl, rfl, rfl⟩, trivial⟩ rfl rfl)
def pl45 : Nat → Plan
  | 6 => tks 0 [0, 0, 0, 1, 0, 0, 0, 1, 0] (.done)
  | _ => .done
theorem equal_con (a b : Rw) : Has Tryd.prog 45 [CV.d (encRow a), CV.d (encRow b)] (fun rs _ => rs = [CV.d (D.bool (sameV a b))]) := by
  refine Has_of_run (fn := Tryd.f45) (M := M0) fol (by kernel_rfl) 6 pl45 [] [] (by kernel_rfl) (Nat.le_of_ble_eq_true rfl) ?_
  (repeat' ((conv => whnf); first | done | (refine And.intro (fun h => ?_) (fun h => ?_) <;> (try simp only [Bool.or_eq_true, Bool.and_eq_true, Bool.or_eq_false_iff, Bool.and_eq_false_iff, toNat_pred, toNat_succ, toNat_addn, toNat_subn, decide_eq_true_eq, decide_eq_false_iff_not, Bool.not_eq_true', Bool.not_eq_false', List.length_map, Int.toNat_natCast, Int.not_lt, Int.not_le, Bool.not_eq_true, Bool.false_eq_true, Bool.true_eq_false, Bool.not_true, Bool.not_false, reduceCtorEq, beq_iff_eq, Bool.not_eq_eq_eq_not, bne_iff_ne, ne_eq, decide_not, Decidable.not_not, Classical.not_not] at h)) | exact (rfl : (_ : AV) = _) | exact (rfl : (_ : St) = _) | refine Exists.intro (α := AV) AV.dead (And.intro (fun h => Bool.noConfusion h) ?_) | apply ex_av | (refine fun (h : (_ : Bool) = true) => ?_; have h' := h; (try simp only [Bool.or_eq_true, Bool.and_eq_true, Bool.or_eq_false_iff, Bool.and_eq_false_iff, toNat_pred, toNat_succ, toNat_addn, toNat_subn, decide_eq_true_eq, decide_eq_false_iff_not, Bool.not_eq_true', Bool.not_eq_false', List.length_map, Int.toNat_natCast, Int.not_lt, Int.not_le, Bool.not_eq_true, Bool.false_eq_true, Bool.true_eq_false, Bool.not_true, Bool.not_false, reduceCtorEq, beq_iff_eq, Bool.not_eq_eq_eq_not, bne_iff_ne, ne_eq, decide_not, Decidable.not_not, Classical.not_not] at h')) | (refine And.intro (a := Both _ _ _) ?_ ?_; (refine ⟨fun h => ?_, fun h => ?_⟩ <;> first | rfl | exact h | exact Bool.noConfusion h | (rw [h]; rfl) | (rw [h]; simp only [Bool.not_false, Bool.not_true, Bool.and_true]; assumption) | (simp_all; done) | fail); skip) | refine And.intro rfl ?_ | refine Two.mk ?_ ?_ | refine And.intro (allU8_bytes _) ?_ | (refine And.intro (a := (_ : Bool) = true) ?_ ?_; (first | assumption | exact decide_eq_true (by assumption) | (rw [Bool.not_eq_true']; exact decide_eq_false (by assumption)) | (rw [Bool.not_not]; exact decide_eq_true (by assumption)) | (simp_all; done) | fail); skip) | refine And.intro (Or.inr rfl) ?_ | refine And.intro (Nat.le_of_ble_eq_true rfl) ?_ | refine And.intro (decide_eq_false (by omega)) ?_ | refine And.intro (show Program.stoodInHeld _ _ = _ by kernel_rfl) (And.intro (by kernel_rfl) ?_) | refine And.intro (show Nat.beq _ _ = _ from rfl) (And.intro (by decide) ?_) | refine And.intro ⟨rfl, rfl⟩ ?_ | refine And.intro ⟨rfl, rfl, trivial⟩ ?_ | refine And.intro (Int.natCast_nonneg _) ?_ | refine Or.inl (And.intro rfl (And.intro rfl (And.intro rfl (And.intro rfl ?_)))) | refine Or.inl (And.intro rfl (And.intro rfl ?_)) | refine Or.inr (And.intro (Nat.le_of_ble_eq_true rfl) ?_) | refine Or.inl (And.intro (by unfold in64; omega) ?_) | refine And.intro (by first | omega | (simp only [dlen, true_and, and_true, Nat.le_refl, List.length_map, List.length_append, List.length_cons, List.length_nil, List.length_take, List.length_drop, List.length_replicate, Int.toNat_natCast, List.append_nil] <;> omega) | fail) ?_ | refine And.intro (allU8_bytes _) ?_ | refine And.intro (show elemsP _ _ _ by repeat' (first | exact rfl | exact trivial | constructor)) ?_ | (refine Loops.by (M := M0) 6 pl45 fol (by kernel_rfl) (ι := Nat) (fun i => ⟨[(0, AV.d (encRow a)), (1, AV.d (encRow b)), (12, AV.d (D.int .i64 a.length)), (13, AV.d (D.int .i64 i))], [], 16⟩) (fun i => i ≤ a.length ∧ ∀ j, j < i → a.getD j default = b.getD j default) (fun i => a.length - i) (fun i hI => ?_) (0) ⟨Nat.zero_le _, fun j h => absurd h (Nat.not_lt_zero _)⟩ (Forget.mk' ⟨⟨rfl, rfl⟩, ⟨rfl, rfl⟩, ⟨rfl, rfl⟩, ⟨rfl, rfl⟩, trivial⟩ trivial rfl rfl); obtain ⟨hi, hok⟩ := hI) | (refine fun x hx => ?_; (try simp (disch := omega) only [Int.tdiv_eq_ediv_of_nonneg, Int.tmod_eq_emod_of_nonneg, bx, Bool.true_or, Bool.false_or, Bool.or_false, Bool.or_true, Bool.and_true, Bool.true_and, Bool.false_and, Bool.and_false, cond_true, cond_false, if_true, if_false, Bool.false_eq_true, min_nn, max_nn, min_ln, min_nl, max_ln, max_nl, getD_map, str_of_bytes, take_bytes, take_data, wrap_u64, wrap_u32, wrap_u8, shr_i64, shr_u64, shr_u32, shl_i64, shl_u64, Int.reduceToNat, Int.reducePow, Int.pow_succ, Int.pow_zero, Int.one_mul, Int.reduceMul, wrap_id, wrap_u8_nat, wrap_i64_u8, byteD_mk, map_snoc, map_app, set_map, take_map', drop_map', Nat.sub_zero, List.length_map, List.length_append, List.length_cons, List.length_nil, Int.toNat_natCast, List.drop_zero, List.take_succ_cons, List.take_zero, List.take_length, List.nil_append, List.append_nil, Nat.zero_add, toNat_pred, toNat_succ, toNat_addn, toNat_subn] at hx); subst hx) | rw [List.take_length] | (rw [List.take_of_length_le]; rotate_left; (first | omega | (simp only [dlen, true_and, and_true, Nat.le_refl, List.length_map, List.length_append, List.length_cons, List.length_nil, List.length_take, List.length_drop, List.length_replicate, Int.toNat_natCast, List.append_nil] <;> omega) | fail)) | refine fun h => ?_ | fail)); all_goals (try exact (AV.dead : AV)); all_goals (try (conv => whnf))
  · exact rb (sameV_len (by omega)).symm
  · rename_i h
    exact rb (sameV_at (i := i) (fun e => by rw [e] at h; simp at h)).symm
  · rename_i h
    exact ⟨i + 1, ⟨⟨by omega, all_below hok (Prod.ext h.1 h.2)⟩, by omega⟩, (Forget.mk' ⟨⟨rfl, rfl⟩, ⟨rfl, rfl⟩, ⟨rfl, rfl⟩, ⟨rfl, rfl⟩, trivial⟩ trivial rfl rfl)⟩
  · exact rb (sameV_true (by omega) (fun j hj => hok j (by omega))).symm
def pl22 : Nat → Plan
  | 6 => tks 0 [0, 0, 0, 1, 0, 0, 0, 1, 0] (.done)
  | _ => .done
theorem same17_con (a b : Rw) : Has Tryd.prog 22 [CV.d (encRow a), CV.d (encRow b)] (fun rs _ => rs = [CV.d (D.bool (sameV a b))]) := by
  refine Has_of_run (fn := Tryd.f22) (M := M0) fol (by kernel_rfl) 6 pl22 [] [] (by kernel_rfl) (Nat.le_of_ble_eq_true rfl) ?_
  (repeat' ((conv => whnf); first | done | (refine And.intro (fun h => ?_) (fun h => ?_) <;> (try simp only [Bool.or_eq_true, Bool.and_eq_true, Bool.or_eq_false_iff, Bool.and_eq_false_iff, toNat_pred, toNat_succ, toNat_addn, toNat_subn, decide_eq_true_eq, decide_eq_false_iff_not, Bool.not_eq_true', Bool.not_eq_false', List.length_map, Int.toNat_natCast, Int.not_lt, Int.not_le, Bool.not_eq_true, Bool.false_eq_true, Bool.true_eq_false, Bool.not_true, Bool.not_false, reduceCtorEq, beq_iff_eq, Bool.not_eq_eq_eq_not, bne_iff_ne, ne_eq, decide_not, Decidable.not_not, Classical.not_not] at h)) | exact (rfl : (_ : AV) = _) | exact (rfl : (_ : St) = _) | refine Exists.intro (α := AV) AV.dead (And.intro (fun h => Bool.noConfusion h) ?_) | apply ex_av | (refine fun (h : (_ : Bool) = true) => ?_; have h' := h; (try simp only [Bool.or_eq_true, Bool.and_eq_true, Bool.or_eq_false_iff, Bool.and_eq_false_iff, toNat_pred, toNat_succ, toNat_addn, toNat_subn, decide_eq_true_eq, decide_eq_false_iff_not, Bool.not_eq_true', Bool.not_eq_false', List.length_map, Int.toNat_natCast, Int.not_lt, Int.not_le, Bool.not_eq_true, Bool.false_eq_true, Bool.true_eq_false, Bool.not_true, Bool.not_false, reduceCtorEq, beq_iff_eq, Bool.not_eq_eq_eq_not, bne_iff_ne, ne_eq, decide_not, Decidable.not_not, Classical.not_not] at h')) | (refine And.intro (a := Both _ _ _) ?_ ?_; (refine ⟨fun h => ?_, fun h => ?_⟩ <;> first | rfl | exact h | exact Bool.noConfusion h | (rw [h]; rfl) | (rw [h]; simp only [Bool.not_false, Bool.not_true, Bool.and_true]; assumption) | (simp_all; done) | fail); skip) | refine And.intro rfl ?_ | refine Two.mk ?_ ?_ | refine And.intro (allU8_bytes _) ?_ | (refine And.intro (a := (_ : Bool) = true) ?_ ?_; (first | assumption | exact decide_eq_true (by assumption) | (rw [Bool.not_eq_true']; exact decide_eq_false (by assumption)) | (rw [Bool.not_not]; exact decide_eq_true (by assumption)) | (simp_all; done) | fail); skip) | refine And.intro (Or.inr rfl) ?_ | refine And.intro (Nat.le_of_ble_eq_true rfl) ?_ | refine And.intro (decide_eq_false (by omega)) ?_ | refine And.intro (show Program.stoodInHeld _ _ = _ by kernel_rfl) (And.intro (by kernel_rfl) ?_) | refine And.intro (show Nat.beq _ _ = _ from rfl) (And.intro (by decide) ?_) | refine And.intro ⟨rfl, rfl⟩ ?_ | refine And.intro ⟨rfl, rfl, trivial⟩ ?_ | refine And.intro (Int.natCast_nonneg _) ?_ | refine Or.inl (And.intro rfl (And.intro rfl (And.intro rfl (And.intro rfl ?_)))) | refine Or.inl (And.intro rfl (And.intro rfl ?_)) | refine Or.inr (And.intro (Nat.le_of_ble_eq_true rfl) ?_) | refine Or.inl (And.intro (by unfold in64; omega) ?_) | refine And.intro (by first | omega | (simp only [dlen, true_and, and_true, Nat.le_refl, List.length_map, List.length_append, List.length_cons, List.length_nil, List.length_take, List.length_drop, List.length_replicate, Int.toNat_natCast, List.append_nil] <;> omega) | fail) ?_ | refine And.intro (allU8_bytes _) ?_ | refine And.intro (show elemsP _ _ _ by repeat' (first | exact rfl | exact trivial | constructor)) ?_ | (refine Loops.by (M := M0) 6 pl22 fol (by kernel_rfl) (ι := Nat) (fun i => ⟨[(0, AV.d (encRow a)), (1, AV.d (encRow b)), (5, AV.d (D.int .i64 i))], [], 16⟩) (fun i => i ≤ a.length ∧ ∀ j, j < i → a.getD j default = b.getD j default) (fun i => a.length - i) (fun i hI => ?_) (0) ⟨Nat.zero_le _, fun j h => absurd h (Nat.not_lt_zero _)⟩ (Forget.mk' ⟨⟨rfl, rfl⟩, ⟨rfl, rfl⟩, ⟨rfl, rfl⟩, trivial⟩ trivial rfl rfl); obtain ⟨hi, hok⟩ := hI) | (refine fun x hx => ?_; (try simp (disch := omega) only [Int.tdiv_eq_ediv_of_nonneg, Int.tmod_eq_emod_of_nonneg, bx, Bool.true_or, Bool.false_or, Bool.or_false, Bool.or_true, Bool.and_true, Bool.true_and, Bool.false_and, Bool.and_false, cond_true, cond_false, if_true, if_false, Bool.false_eq_true, min_nn, max_nn, min_ln, min_nl, max_ln, max_nl, getD_map, str_of_bytes, take_bytes, take_data, wrap_u64, wrap_u32, wrap_u8, shr_i64, shr_u64, shr_u32, shl_i64, shl_u64, Int.reduceToNat, Int.reducePow, Int.pow_succ, Int.pow_zero, Int.one_mul, Int.reduceMul, wrap_id, wrap_u8_nat, wrap_i64_u8, byteD_mk, map_snoc, map_app, set_map, take_map', drop_map', Nat.sub_zero, List.length_map, List.length_append, List.length_cons, List.length_nil, Int.toNat_natCast, List.drop_zero, List.take_succ_cons, List.take_zero, List.take_length, List.nil_append, List.append_nil, Nat.zero_add, toNat_pred, toNat_succ, toNat_addn, toNat_subn] at hx); subst hx) | rw [List.take_length] | (rw [List.take_of_length_le]; rotate_left; (first | omega | (simp only [dlen, true_and, and_true, Nat.le_refl, List.length_map, List.length_append, List.length_cons, List.length_nil, List.length_take, List.length_drop, List.length_replicate, Int.toNat_natCast, List.append_nil] <;> omega) | fail)) | refine fun h => ?_ | fail)); all_goals (try exact (AV.dead : AV)); all_goals (try (conv => whnf))
  · exact rb (sameV_len (by omega)).symm
  · rename_i h
    exact rb (sameV_at (i := i) (fun e => by rw [e] at h; simp at h)).symm
  · rename_i h
    exact ⟨i + 1, ⟨⟨by omega, all_below hok (Prod.ext h.1 h.2)⟩, by omega⟩, (Forget.mk' ⟨⟨rfl, rfl⟩, ⟨rfl, rfl⟩, ⟨rfl, rfl⟩, trivial⟩ trivial rfl rfl)⟩
  · exact rb (sameV_true (by omega) (fun j hj => hok j (by omega))).symm
def pl12 : Nat → Plan
  | 6 => tks 0 [0, 0, 0, 1, 0, 0, 0, 1] (.one 8 (tks 9 [0] (.done)))
  | _ => .done
theorem same18_con (a b : List Rw) : Has Tryd.prog 12 [CV.d (D.sl 1 (a.map encRow)), CV.d (D.sl 1 (b.map encRow))] (fun rs _ => rs = [CV.d (D.bool (decide (a = b)))]) := by
  refine Has_of_run (fn := Tryd.f12) (M := M0) fol (by kernel_rfl) 6 pl12 [] [] (by kernel_rfl) (Nat.le_of_ble_eq_true rfl) ?_
  (repeat' ((conv => whnf); first | done | (refine And.intro (fun h => ?_) (fun h => ?_) <;> (try simp only [Bool.or_eq_true, Bool.and_eq_true, Bool.or_eq_false_iff, Bool.and_eq_false_iff, toNat_pred, toNat_succ, toNat_addn, toNat_subn, decide_eq_true_eq, decide_eq_false_iff_not, Bool.not_eq_true', Bool.not_eq_false', List.length_map, Int.toNat_natCast, Int.not_lt, Int.not_le, Bool.not_eq_true, Bool.false_eq_true, Bool.true_eq_false, Bool.not_true, Bool.not_false, reduceCtorEq, beq_iff_eq, Bool.not_eq_eq_eq_not, bne_iff_ne, ne_eq, decide_not, Decidable.not_not, Classical.not_not] at h)) | exact (rfl : (_ : AV) = _) | exact (rfl : (_ : St) = _) | refine Exists.intro (α := AV) AV.dead (And.intro (fun h => Bool.noConfusion h) ?_) | apply ex_av | (refine fun (h : (_ : Bool) = true) => ?_; have h' := h; (try simp only [Bool.or_eq_true, Bool.and_eq_true, Bool.or_eq_false_iff, Bool.and_eq_false_iff, toNat_pred, toNat_succ, toNat_addn, toNat_subn, decide_eq_true_eq, decide_eq_false_iff_not, Bool.not_eq_true', Bool.not_eq_false', List.length_map, Int.toNat_natCast, Int.not_lt, Int.not_le, Bool.not_eq_true, Bool.false_eq_true, Bool.true_eq_false, Bool.not_true, Bool.not_false, reduceCtorEq, beq_iff_eq, Bool.not_eq_eq_eq_not, bne_iff_ne, ne_eq, decide_not, Decidable.not_not, Classical.not_not] at h')) | (refine And.intro (a := Both _ _ _) ?_ ?_; (refine ⟨fun h => ?_, fun h => ?_⟩ <;> first | rfl | exact h | exact Bool.noConfusion h | (rw [h]; rfl) | (rw [h]; simp only [Bool.not_false, Bool.not_true, Bool.and_true]; assumption) | (simp_all; done) | fail); skip) | refine And.intro rfl ?_ | refine Two.mk ?_ ?_ | refine And.intro (allU8_bytes _) ?_ | (refine And.intro (a := (_ : Bool) = true) ?_ ?_; (first | assumption | exact decide_eq_true (by assumption) | (rw [Bool.not_eq_true']; exact decide_eq_false (by assumption)) | (rw [Bool.not_not]; exact decide_eq_true (by assumption)) | (simp_all; done) | fail); skip) | refine And.intro (Or.inr rfl) ?_ | refine And.intro (Nat.le_of_ble_eq_true rfl) ?_ | refine And.intro (decide_eq_false (by omega)) ?_ | refine And.intro (show Program.stoodInHeld _ _ = _ by kernel_rfl) (And.intro (by kernel_rfl) ?_) | refine And.intro (show Nat.beq _ _ = _ from rfl) (And.intro (by decide) ?_) | refine And.intro ⟨rfl, rfl⟩ ?_ | refine And.intro ⟨rfl, rfl, trivial⟩ ?_ | refine And.intro (Int.natCast_nonneg _) ?_ | refine Or.inl (And.intro rfl (And.intro rfl (And.intro rfl (And.intro rfl ?_)))) | refine Or.inl (And.intro rfl (And.intro rfl ?_)) | refine Or.inr (And.intro (Nat.le_of_ble_eq_true rfl) ?_) | refine Or.inl (And.intro (by unfold in64; omega) ?_) | refine And.intro (by first | omega | (simp only [dlen, true_and, and_true, Nat.le_refl, List.length_map, List.length_append, List.length_cons, List.length_nil, List.length_take, List.length_drop, List.length_replicate, Int.toNat_natCast, List.append_nil] <;> omega) | fail) ?_ | refine And.intro (allU8_bytes _) ?_ | refine And.intro (show elemsP _ _ _ by repeat' (first | exact rfl | exact trivial | constructor)) ?_ | (refine (same17_con _ _).mono fun rs bs hr => ?_; subst hr) | (refine Loops.by (M := M0) 6 pl12 fol (by kernel_rfl) (ι := Nat) (fun i => ⟨[(0, AV.d (D.sl 1 (a.map encRow))), (1, AV.d (D.sl 1 (b.map encRow))), (5, AV.d (D.int .i64 i))], [], 16⟩) (fun i => i ≤ a.length ∧ ∀ j, j < i → a.getD j default = b.getD j default) (fun i => a.length - i) (fun i hI => ?_) (0) ⟨Nat.zero_le _, fun j h => absurd h (Nat.not_lt_zero _)⟩ (Forget.mk' ⟨⟨rfl, rfl⟩, ⟨rfl, rfl⟩, ⟨rfl, rfl⟩, trivial⟩ trivial rfl rfl); obtain ⟨hi, hok⟩ := hI) | (refine fun x hx => ?_; (try simp (disch := omega) only [Int.tdiv_eq_ediv_of_nonneg, Int.tmod_eq_emod_of_nonneg, bx, Bool.true_or, Bool.false_or, Bool.or_false, Bool.or_true, Bool.and_true, Bool.true_and, Bool.false_and, Bool.and_false, cond_true, cond_false, if_true, if_false, Bool.false_eq_true, min_nn, max_nn, min_ln, min_nl, max_ln, max_nl, getD_map, str_of_bytes, take_bytes, take_data, wrap_u64, wrap_u32, wrap_u8, shr_i64, shr_u64, shr_u32, shl_i64, shl_u64, Int.reduceToNat, Int.reducePow, Int.pow_succ, Int.pow_zero, Int.one_mul, Int.reduceMul, wrap_id, wrap_u8_nat, wrap_i64_u8, byteD_mk, map_snoc, map_app, set_map, take_map', drop_map', Nat.sub_zero, List.length_map, List.length_append, List.length_cons, List.length_nil, Int.toNat_natCast, List.drop_zero, List.take_succ_cons, List.take_zero, List.take_length, List.nil_append, List.append_nil, Nat.zero_add, toNat_pred, toNat_succ, toNat_addn, toNat_subn] at hx); subst hx) | rw [List.take_length] | (rw [List.take_of_length_le]; rotate_left; (first | omega | (simp only [dlen, true_and, and_true, Nat.le_refl, List.length_map, List.length_append, List.length_cons, List.length_nil, List.length_take, List.length_drop, List.length_replicate, Int.toNat_natCast, List.append_nil] <;> omega) | fail)) | refine fun h => ?_ | fail)); all_goals (try exact (AV.dead : AV)); all_goals (try (conv => whnf))
  · exact rb (decide_eq_false fun e => by subst e; simp_all).symm
  · exact rb (decide_eq_false fun e => by subst e; simp_all [sameV]).symm
  · exact ⟨i + 1, ⟨⟨by omega, all_below hok (of_decide_eq_true (by assumption))⟩, by omega⟩, (Forget.mk' ⟨⟨rfl, rfl⟩, ⟨rfl, rfl⟩, ⟨rfl, rfl⟩, trivial⟩ trivial rfl rfl)⟩
  · exact rb (decide_eq_true (ext_getD (by omega) (fun j hj => hok j (by omega)))).symm
def pl15 : Nat → Plan
  | 6 => tks 0 [0, 0, 0, 1, 0, 0, 0, 1, 0] (.done)
  | _ => .done
theorem ints_con (a b : List Int) : Has Tryd.prog 15 [CV.d (D.sl 1 (a.map intD)), CV.d (D.sl 1 (b.map intD))] (fun rs _ => rs = [CV.d (D.bool (decide (a = b)))]) := by
  refine Has_of_run (fn := Tryd.f15) (M := M0) fol (by kernel_rfl) 6 pl15 [] [] (by kernel_rfl) (Nat.le_of_ble_eq_true rfl) ?_
  (repeat' ((conv => whnf); first | done | (refine And.intro (fun h => ?_) (fun h => ?_) <;> (try simp only [Bool.or_eq_true, Bool.and_eq_true, Bool.or_eq_false_iff, Bool.and_eq_false_iff, toNat_pred, toNat_succ, toNat_addn, toNat_subn, decide_eq_true_eq, decide_eq_false_iff_not, Bool.not_eq_true', Bool.not_eq_false', List.length_map, Int.toNat_natCast, Int.not_lt, Int.not_le, Bool.not_eq_true, Bool.false_eq_true, Bool.true_eq_false, Bool.not_true, Bool.not_false, reduceCtorEq, beq_iff_eq, Bool.not_eq_eq_eq_not, bne_iff_ne, ne_eq, decide_not, Decidable.not_not, Classical.not_not] at h)) | exact (rfl : (_ : AV) = _) | exact (rfl : (_ : St) = _) | refine Exists.intro (α := AV) AV.dead (And.intro (fun h => Bool.noConfusion h) ?_) | apply ex_av | (refine fun (h : (_ : Bool) = true) => ?_; have h' := h; (try simp only [Bool.or_eq_true, Bool.and_eq_true, Bool.or_eq_false_iff, Bool.and_eq_false_iff, toNat_pred, toNat_succ, toNat_addn, toNat_subn, decide_eq_true_eq, decide_eq_false_iff_not, Bool.not_eq_true', Bool.not_eq_false', List.length_map, Int.toNat_natCast, Int.not_lt, Int.not_le, Bool.not_eq_true, Bool.false_eq_true, Bool.true_eq_false, Bool.not_true, Bool.not_false, reduceCtorEq, beq_iff_eq, Bool.not_eq_eq_eq_not, bne_iff_ne, ne_eq, decide_not, Decidable.not_not, Classical.not_not] at h')) | (refine And.intro (a := Both _ _ _) ?_ ?_; (refine ⟨fun h => ?_, fun h => ?_⟩ <;> first | rfl | exact h | exact Bool.noConfusion h | (rw [h]; rfl) | (rw [h]; simp only [Bool.not_false, Bool.not_true, Bool.and_true]; assumption) | (simp_all; done) | fail); skip) | refine And.intro rfl ?_ | refine Two.mk ?_ ?_ | refine And.intro (allU8_bytes _) ?_ | (refine And.intro (a := (_ : Bool) = true) ?_ ?_; (first | assumption | exact decide_eq_true (by assumption) | (rw [Bool.not_eq_true']; exact decide_eq_false (by assumption)) | (rw [Bool.not_not]; exact decide_eq_true (by assumption)) | (simp_all; done) | fail); skip) | refine And.intro (Or.inr rfl) ?_ | refine And.intro (Nat.le_of_ble_eq_true rfl) ?_ | refine And.intro (decide_eq_false (by omega)) ?_ | refine And.intro (show Program.stoodInHeld _ _ = _ by kernel_rfl) (And.intro (by kernel_rfl) ?_) | refine And.intro (show Nat.beq _ _ = _ from rfl) (And.intro (by decide) ?_) | refine And.intro ⟨rfl, rfl⟩ ?_ | refine And.intro ⟨rfl, rfl, trivial⟩ ?_ | refine And.intro (Int.natCast_nonneg _) ?_ | refine Or.inl (And.intro rfl (And.intro rfl (And.intro rfl (And.intro rfl ?_)))) | refine Or.inl (And.intro rfl (And.intro rfl ?_)) | refine Or.inr (And.intro (Nat.le_of_ble_eq_true rfl) ?_) | refine Or.inl (And.intro (by unfold in64; omega) ?_) | refine And.intro (by first | omega | (simp only [dlen, true_and, and_true, Nat.le_refl, List.length_map, List.length_append, List.length_cons, List.length_nil, List.length_take, List.length_drop, List.length_replicate, Int.toNat_natCast, List.append_nil] <;> omega) | fail) ?_ | refine And.intro (allU8_bytes _) ?_ | refine And.intro (show elemsP _ _ _ by repeat' (first | exact rfl | exact trivial | constructor)) ?_ | (refine Loops.by (M := M0) 6 pl15 fol (by kernel_rfl) (ι := Nat) (fun i => ⟨[(0, AV.d (D.sl 1 (a.map intD))), (1, AV.d (D.sl 1 (b.map intD))), (5, AV.d (D.int .i64 i))], [], 16⟩) (fun i => i ≤ a.length ∧ ∀ j, j < i → a.getD j default = b.getD j default) (fun i => a.length - i) (fun i hI => ?_) (0) ⟨Nat.zero_le _, fun j h => absurd h (Nat.not_lt_zero _)⟩ (Forget.mk' ⟨⟨rfl, rfl⟩, ⟨rfl, rfl⟩, ⟨rfl, rfl⟩, trivial⟩ trivial rfl rfl); obtain ⟨hi, hok⟩ := hI) | (refine fun x hx => ?_; (try simp (disch := omega) only [Int.tdiv_eq_ediv_of_nonneg, Int.tmod_eq_emod_of_nonneg, bx, Bool.true_or, Bool.false_or, Bool.or_false, Bool.or_true, Bool.and_true, Bool.true_and, Bool.false_and, Bool.and_false, cond_true, cond_false, if_true, if_false, Bool.false_eq_true, min_nn, max_nn, min_ln, min_nl, max_ln, max_nl, getD_map, str_of_bytes, take_bytes, take_data, wrap_u64, wrap_u32, wrap_u8, shr_i64, shr_u64, shr_u32, shl_i64, shl_u64, Int.reduceToNat, Int.reducePow, Int.pow_succ, Int.pow_zero, Int.one_mul, Int.reduceMul, wrap_id, wrap_u8_nat, wrap_i64_u8, byteD_mk, map_snoc, map_app, set_map, take_map', drop_map', Nat.sub_zero, List.length_map, List.length_append, List.length_cons, List.length_nil, Int.toNat_natCast, List.drop_zero, List.take_succ_cons, List.take_zero, List.take_length, List.nil_append, List.append_nil, Nat.zero_add, toNat_pred, toNat_succ, toNat_addn, toNat_subn] at hx); subst hx) | rw [List.take_length] | (rw [List.take_of_length_le]; rotate_left; (first | omega | (simp only [dlen, true_and, and_true, Nat.le_refl, List.length_map, List.length_append, List.length_cons, List.length_nil, List.length_take, List.length_drop, List.length_replicate, Int.toNat_natCast, List.append_nil] <;> omega) | fail)) | refine fun h => ?_ | fail)); all_goals (try exact (AV.dead : AV)); all_goals (try (conv => whnf))
  · exact rb (by rw [decide_eq_false]; rintro rfl; simp_all)
  · exact rb (by rw [decide_eq_false]; rintro rfl; simp_all)
  · exact ⟨i + 1, ⟨⟨by omega, all_below hok (by assumption)⟩, by omega⟩, (Forget.mk' ⟨⟨rfl, rfl⟩, ⟨rfl, rfl⟩, ⟨rfl, rfl⟩, trivial⟩ trivial rfl rfl)⟩
  · exact rb (by rw [decide_eq_true]; exact ext_getD (by omega) (fun j hj => hok j (by omega)))
end Go.Fw
namespace Go.Fw
open Go
set_option linter.unusedVariables false
set_option linter.unusedSimpArgs false
def stK (key : Rw) (m : Nat) : Nat := (hashV key).toNat % m
def stopAt (pl : List Int) (ks : List Rw) (key : Rw) (q : Nat) : Bool := !(decide (0 < pl.getD q default) && !sameV (ks.getD (pl.getD q default - 1).toNat default) key)
def probeF (pl : List Int) (ks : List Rw) (key : Rw) : Nat → Nat → Nat
  | 0, q => q
  | f + 1, q => bif stopAt pl ks key q then q else probeF pl ks key f ((q + 1) % pl.length)
def probeS (pl : List Int) (ks : List Rw) (key : Rw) : Nat := probeF pl ks key pl.length (stK key pl.length)
 
def FreeIn (pl : List Int) (f q : Nat) : Prop := ∃ s, s < f ∧ pl.getD ((q + s) % pl.length) default = 0
theorem FreeIn.pos {pl : List Int} {f q : Nat} (h : FreeIn pl f q) : 0 < f := by obtain ⟨s, h, _⟩ := h; omega
theorem mod_step {m q s : Nat} : ((q + 1) % m + s) % m = (q + (s + 1)) % m := by
  rw [Nat.add_mod, Nat.mod_mod, ← Nat.add_mod]
  congr 1
  omega
theorem FreeIn.step {pl : List Int} {f q : Nat} (h : FreeIn pl (f + 1) q) (hq : q < pl.length) (h0 : ¬ pl.getD q default = 0) : FreeIn pl f ((q + 1) % pl.length) := by
  obtain ⟨s, h1, h2⟩ := h
  cases s with
  | zero =>
    rw [Nat.add_zero, Nat.mod_eq_of_lt hq] at h2
    exact absurd h2 h0
  | succ s => exact ⟨s, by omega, by rw [mod_step]; exact h2⟩
theorem FreeIn.start {pl : List Int} {p q : Nat} (hp : p < pl.length) (hq : q < pl.length) (h0 : pl.getD p default = 0) : FreeIn pl pl.length q := by
  refine ⟨(p + (pl.length - q)) % pl.length, Nat.mod_lt _ (by omega), ?_⟩
  have e : (q + (p + (pl.length - q)) % pl.length) % pl.length = p := by
    rw [Nat.add_mod, Nat.mod_mod, ← Nat.add_mod]
    rw [show q + (p + (pl.length - q)) = p + pl.length by omega, Nat.add_mod_right, Nat.mod_eq_of_lt hp]
  rw [e]
  exact h0
 
theorem probeF_spec {pl : List Int} {ks : List Rw} {key : Rw} : ∀ (f q : Nat), q < pl.length → FreeIn pl f q → (∀ j, j < pl.length → 0 ≤ pl.getD j default) →
    probeF pl ks key f q < pl.length ∧ stopAt pl ks key (probeF pl ks key f q) = true ∧ ∃ t, t < f ∧ probeF pl ks key f q = (q + t) % pl.length ∧ ∀ s, s < t → stopAt pl ks key ((q + s) % pl.length) = false
  | 0, q, hq, h, hr => by have := h.pos; omega
  | f + 1, q, hq, h, hr => by
    simp only [probeF]
    cases hs : stopAt pl ks key q with
    | true => exact ⟨hq, hs, 0, by omega, by show q = _; rw [Nat.add_zero, Nat.mod_eq_of_lt hq], fun s h => by omega⟩
    | false =>
      rw [cond_false]
      have h0 : ¬ pl.getD q default = 0 := fun e => by
        simp only [stopAt, e] at hs
        simp at hs
      obtain ⟨h1, h2, t, h3, h4, h5⟩ := probeF_spec (ks := ks) (key := key) f ((q + 1) % pl.length) (Nat.mod_lt _ (by omega)) (h.step hq h0) hr
      refine ⟨h1, h2, t + 1, by omega, by rw [h4, mod_step], fun s hst => ?_⟩
      cases s with
      | zero => rw [Nat.add_zero, Nat.mod_eq_of_lt hq]; exact hs
      | succ s => rw [← mod_step]; exact h5 s (by omega)
 
structure TabOK (pl : List Int) (ks : List Rw) (n : Nat) : Prop where
  nd : ks.Nodup
  nk : n ≤ ks.length
  room : n < pl.length
  cnt : pl.countP (fun p => decide (p ≠ 0)) ≤ n
  rng : ∀ j, j < pl.length → 0 ≤ pl.getD j default ∧ pl.getD j default ≤ n
  at' : ∀ i, i < n → ∃ t, t < pl.length ∧ pl.getD ((stK (ks.getD i default) pl.length + t) % pl.length) default = i + 1 ∧ ∀ s, s < t → ¬ pl.getD ((stK (ks.getD i default) pl.length + s) % pl.length) default = 0
theorem TabOK.free {pl : List Int} {ks : List Rw} {n : Nat} (h : TabOK pl ks n) : ∃ q, q < pl.length ∧ pl.getD q default = 0 := by
  refine Classical.byContradiction fun hn => ?_
  have hall : ∀ p ∈ pl, decide (p ≠ 0) = true := fun p hp => by
    obtain ⟨j, hj, e⟩ := List.getElem_of_mem hp
    refine decide_eq_true fun h0 => hn ⟨j, hj, ?_⟩
    rw [List.getD_eq_getElem?_getD, List.getElem?_eq_getElem hj, Option.getD_some, e, h0]
  have := List.countP_eq_length.2 hall
  have h1 := h.cnt
  have h2 := h.room
  omega
theorem stK_lt {key : Rw} {m : Nat} (h : 0 < m) : stK key m < m := Nat.mod_lt _ h
theorem TabOK.probe {pl : List Int} {ks : List Rw} {n : Nat} (h : TabOK pl ks n) (key : Rw) :
    probeS pl ks key < pl.length ∧ stopAt pl ks key (probeS pl ks key) = true ∧ ∃ t, t < pl.length ∧ probeS pl ks key = (stK key pl.length + t) % pl.length ∧ ∀ s, s < t → stopAt pl ks key ((stK key pl.length + s) % pl.length) = false := by
  have hr := h.room
  obtain ⟨q, hq, h0⟩ := h.free
  exact probeF_spec _ _ (stK_lt (by omega)) (FreeIn.start hq (stK_lt (by omega)) h0) fun j hj => (h.rng j hj).1
theorem not_stop {pl : List Int} {ks : List Rw} {key : Rw} {q : Nat} (h : stopAt pl ks key q = false) : ¬ pl.getD q default = 0 ∧ ¬ ks.getD (pl.getD q default - 1).toNat default = key := by
  simp only [stopAt, Bool.not_eq_false', Bool.and_eq_true, decide_eq_true_eq, Bool.not_eq_true', sameV, decide_eq_false_iff_not] at h
  exact ⟨by omega, h.2⟩
theorem is_stop {pl : List Int} {ks : List Rw} {key : Rw} {q : Nat} (h : stopAt pl ks key q = true) (hr : 0 ≤ pl.getD q default) : pl.getD q default = 0 ∨ ks.getD (pl.getD q default - 1).toNat default = key := by
  by_cases h0 : pl.getD q default = 0
  · exact .inl h0
  · right
    simp only [stopAt, Bool.not_eq_true', Bool.and_eq_false_iff, decide_eq_false_iff_not, Bool.not_eq_false', sameV, decide_eq_true_eq] at h
    rcases h with h | h
    · omega
    · exact h
theorem getD_lt {α : Type} [Inhabited α] {l : List α} {j : Nat} (h : j < l.length) : l.getD j default = l[j] := by simp [List.getD_eq_getElem?_getD, h]
theorem nodup_getD {ks : List Rw} (h : ks.Nodup) {i j : Nat} (hi : i < ks.length) (hj : j < ks.length) (e : ks.getD i default = ks.getD j default) : i = j := by
  rw [getD_lt hi, getD_lt hj] at e
  exact (List.getElem_inj h).1 e
 
theorem TabOK.found {pl : List Int} {ks : List Rw} {n i : Nat} (h : TabOK pl ks n) (hi : i < n) : pl.getD (probeS pl ks (ks.getD i default)) default = i + 1 := by
  have hnk := h.nk
  obtain ⟨h1, h2, t, h3, h4, h5⟩ := h.probe (ks.getD i default)
  obtain ⟨t', k1, k2, k3⟩ := h.at' i hi
  have hr := h.rng _ h1
  have hle : t ≤ t' := by
    refine Classical.byContradiction fun hlt => ?_
    have := not_stop (h5 t' (by omega))
    rw [k2] at this
    exact this.2 (by rw [show ((i : Int) + 1 - 1).toNat = i by omega])
  rcases is_stop h2 hr.1 with h0 | hk
  · rcases Nat.lt_or_eq_of_le hle with hlt | he
    · exact absurd (h4 ▸ h0) (k3 t hlt)
    · rw [h4, he] at h0
      rw [k2] at h0
      omega
  · by_cases h0 : pl.getD (probeS pl ks (ks.getD i default)) default = 0
    · rcases Nat.lt_or_eq_of_le hle with hlt | he
      · exact absurd (h4 ▸ h0) (k3 t hlt)
      · rw [h4, he] at h0
        rw [k2] at h0
        omega
    · have := nodup_getD h.nd (i := (pl.getD (probeS pl ks (ks.getD i default)) default - 1).toNat) (j := i) (by omega) (by omega) hk
      omega
 
theorem TabOK.free_at {pl : List Int} {ks : List Rw} {n : Nat} (h : TabOK pl ks n) {key : Rw} (hk : ∀ j, j < n → ¬ ks.getD j default = key) : pl.getD (probeS pl ks key) default = 0 := by
  obtain ⟨h1, h2, t, h3, h4, h5⟩ := h.probe key
  have hr := h.rng _ h1
  rcases is_stop h2 hr.1 with h0 | hk'
  · exact h0
  · refine Classical.byContradiction fun h0 => hk _ ?_ hk'
    omega
theorem getD_set {l : List Int} {a j : Nat} {v : Int} (ha : a < l.length) : (l.set a v).getD j default = if j = a then v else l.getD j default := by
  rw [List.getD_eq_getElem?_getD, List.getElem?_set]
  split
  · rename_i h
    subst h
    simp [ha]
  · rename_i h
    rw [if_neg (fun e => h e.symm), List.getD_eq_getElem?_getD]
theorem countP_set_le {l : List Int} {a : Nat} {v : Int} (p : Int → Bool) : (l.set a v).countP p ≤ l.countP p + 1 := by
  induction l generalizing a with
  | nil => simp
  | cons x r ih =>
    cases a with
    | zero =>
      simp only [List.set_cons_zero, List.countP_cons]
      split <;> split <;> omega
    | succ a =>
      simp only [List.set_cons_succ, List.countP_cons]
      have := ih (a := a)
      omega
 
theorem TabOK.put {pl : List Int} {ks ks' : List Rw} {n : Nat} (h : TabOK pl ks n) {key : Rw} (hk : ∀ j, j < n → ¬ ks.getD j default = key) (hnd : ks'.Nodup) (hn : n < ks'.length) (hkn : ks'.getD n default = key)
    (hpre : ∀ j, j < n → ks'.getD j default = ks.getD j default) (hroom : n + 1 < pl.length) : TabOK (pl.set (probeS pl ks key) ((n : Int) + 1)) ks' (n + 1) := by
  have hf := h.free_at hk
  obtain ⟨h1, h2, t, h3, h4, h5⟩ := h.probe key
  have hlen : (pl.set (probeS pl ks key) ((n : Int) + 1)).length = pl.length := by simp
  generalize hP : probeS pl ks key = P at *
  refine ⟨hnd, by omega, by omega, ?_, fun j hj => ?_, fun i hi => ?_⟩
  · have := countP_set_le (l := pl) (a := P) (v := (n : Int) + 1) (fun p => decide (p ≠ 0))
    have := h.cnt
    omega
  · rw [hlen] at hj
    rw [getD_set h1]
    have := h.rng j hj
    split <;> omega
  · rw [hlen]
    by_cases hin : i = n
    · subst hin
      refine ⟨t, h3, ?_, fun s hs => ?_⟩
      · rw [hkn, ← h4, getD_set h1, if_pos rfl]
      · rw [hkn, getD_set h1]
        have := (not_stop (h5 s hs)).1
        split
        · omega
        · exact this
    · obtain ⟨t', k1, k2, k3⟩ := h.at' i (by omega)
      rw [← hpre i (by omega)] at k2 k3
      refine ⟨t', k1, ?_, fun s hs => ?_⟩
      · rw [getD_set h1, if_neg (fun e => by rw [e, hf] at k2; omega)]
        exact k2
      · rw [getD_set h1]
        split
        · omega
        · exact k3 s hs
 
theorem TabOK.nil {ks : List Rw} (hn : ks.Nodup) {m : Nat} (hm : 0 < m) : TabOK (List.replicate m 0) ks 0 := by
  refine ⟨hn, Nat.zero_le _, by simp [hm], ?_, fun j hj => ?_, fun i hi => by omega⟩
  · rw [List.countP_replicate]
    simp
  · have : (List.replicate m (0 : Int)).getD j default = 0 := by
      rw [List.length_replicate] at hj
      simp [List.getD_eq_getElem?_getD, hj]
    omega
 
def fillS (ks : List Rw) (m : Nat) : Nat → List Int
  | 0 => List.replicate m 0
  | i + 1 => (fillS ks m i).set (probeS (fillS ks m i) ks (ks.getD i default)) ((i : Int) + 1)
theorem fillS_len (ks : List Rw) (m : Nat) : ∀ n, (fillS ks m n).length = m
  | 0 => by simp [fillS]
  | n + 1 => by simp [fillS, fillS_len ks m n]
theorem fillS_ok {ks : List Rw} {m : Nat} (hn : ks.Nodup) (hm : ks.length < m) : ∀ n, n ≤ ks.length → TabOK (fillS ks m n) ks n
  | 0, _ => TabOK.nil hn (by omega)
  | n + 1, h => by
    have ih := fillS_ok hn hm n (by omega)
    have hl := fillS_len ks m n
    exact ih.put (fun j hj e => by have := nodup_getD hn (by omega) (by omega) e; omega) hn (by omega) rfl (fun _ _ => rfl) (by omega)
def growS (pl : List Int) (ks : List Rw) : List Int := if 2 * (ks.length + 1) ≤ pl.length then pl else fillS ks (max 4 (2 * pl.length)) ks.length
 
def TabG (pl : List Int) (ks : List Rw) : Prop := (pl = [] ∧ ks = []) ∨ (TabOK pl ks ks.length ∧ 2 * ks.length ≤ pl.length ∧ ∃ k, 2 ≤ k ∧ k ≤ 40 ∧ pl.length = 2 ^ k)
theorem pow_lt_of {k a : Nat} (h : 2 ^ k ≤ 2 ^ a) : k ≤ a := (Nat.pow_le_pow_iff_right (by omega)).1 h
theorem TabG.grow {pl : List Int} {ks : List Rw} (h : TabG pl ks) (hl : ks.length ≤ 100000) : TabOK (growS pl ks) ks ks.length ∧ 2 * (ks.length + 1) ≤ (growS pl ks).length ∧ ∃ k, 2 ≤ k ∧ k ≤ 40 ∧ (growS pl ks).length = 2 ^ k := by
  unfold growS
  split
  · rename_i hc
    rcases h with ⟨rfl, rfl⟩ | ⟨h1, h2, h3⟩
    · simp at hc
    · exact ⟨h1, hc, h3⟩
  · rename_i hc
    rcases h with ⟨rfl, rfl⟩ | ⟨h1, h2, k, hk1, hk2, hk3⟩
    · exact ⟨fillS_ok (by simp) (by simp) _ (Nat.le_refl _), by rw [fillS_len]; simp, 2, by omega, by omega, by rw [fillS_len]; rfl⟩
    · have h4 : 4 ≤ pl.length := by
        rw [hk3]
        calc 4 = 2 ^ 2 := rfl
          _ ≤ 2 ^ k := Nat.pow_le_pow_right (by omega) hk1
      have hm : max 4 (2 * pl.length) = 2 * pl.length := by omega
      rw [hm]
      refine ⟨fillS_ok h1.nd (by omega) _ (Nat.le_refl _), by rw [fillS_len]; omega, k + 1, by omega, ?_, by rw [fillS_len, hk3, Nat.pow_succ]; omega⟩
      have hk : k ≤ 18 := pow_lt_of (by rw [← hk3]; omega)
      omega
end Go.Fw
namespace Go.Fw
open Go
set_option linter.unusedVariables false
set_option linter.unusedSimpArgs false
theorem ofInt_nat {w n : Nat} (h : n < 2 ^ w) : (BitVec.ofInt w (n : Int)).toNat = n := by
  rw [BitVec.toNat_ofInt]
  have : ((n : Int) % ((2 ^ w : Nat) : Int)) = n := Int.emod_eq_of_lt (by omega) (by omega)
  rw [this]
  rfl
theorem mask_i64 {a k : Nat} (ha : a < 2 ^ 62) (hk : k ≤ 60) : bitI .and .i64 (a : Int) (((2 ^ k : Nat) : Int) - 1) = ((a % 2 ^ k : Nat) : Int) := by
  have hp : 2 ^ k ≤ 2 ^ 60 := Nat.pow_le_pow_right (by omega) hk
  have h1 : 1 ≤ 2 ^ k := Nat.one_le_two_pow
  have e : (((2 ^ k : Nat) : Int) - 1) = ((2 ^ k - 1 : Nat) : Int) := by omega
  rw [e]
  show IntKind.i64.wrap ((BitVec.ofInt 64 (a : Int) &&& BitVec.ofInt 64 ((2 ^ k - 1 : Nat) : Int) : BitVec 64).toNat : Int) = _
  rw [BitVec.toNat_and, ofInt_nat (by omega), ofInt_nat (by omega), Nat.and_two_pow_sub_one_eq_mod]
  have : a % 2 ^ k < 2 ^ k := Nat.mod_lt _ (by omega)
  exact wrap_id (by omega) (by omega)
theorem mask_u64 {h : Int} {k : Nat} (h0 : 0 ≤ h) (h1 : h < 18446744073709551616) (hk : k ≤ 60) : bitI .and .u64 h (((2 ^ k : Nat) : Int) - 1) = ((h.toNat % 2 ^ k : Nat) : Int) := by
  have hp : 2 ^ k ≤ 2 ^ 60 := Nat.pow_le_pow_right (by omega) hk
  have h2 : 1 ≤ 2 ^ k := Nat.one_le_two_pow
  have e : (((2 ^ k : Nat) : Int) - 1) = ((2 ^ k - 1 : Nat) : Int) := by omega
  rw [e]
  have eh : h = (h.toNat : Int) := by omega
  conv => lhs; rw [eh]
  show IntKind.u64.wrap ((BitVec.ofInt 64 (h.toNat : Int) &&& BitVec.ofInt 64 ((2 ^ k - 1 : Nat) : Int) : BitVec 64).toNat : Int) = _
  rw [BitVec.toNat_and, ofInt_nat (by omega), ofInt_nat (by omega), Nat.and_two_pow_sub_one_eq_mod]
  have : h.toNat % 2 ^ k < 2 ^ k := Nat.mod_lt _ (by omega)
  generalize h.toNat % 2 ^ k = z at this ⊢
  simp only [IntKind.wrap, IntKind.bits, IntKind.signed]
  simp
  omega
theorem pow_bnd {n k : Nat} (h : n = 2 ^ k) (h1 : 2 ≤ k) (h2 : k ≤ 40) : 4 ≤ n ∧ n ≤ 1099511627776 := by
  subst h
  exact ⟨Nat.pow_le_pow_right (n := 2) (by omega) h1, Nat.pow_le_pow_right (n := 2) (by omega) h2⟩
theorem start_mask {m k : Nat} {key : Rw} (h : m = 2 ^ k) (h1 : 2 ≤ k) (h2 : k ≤ 40) : IntKind.i64.wrap (bitI .and .u64 (hashV key) ((m : Int) - 1)) = ((stK key m : Nat) : Int) := by
  have hb := pow_bnd h h1 h2
  have hr := hashV_range key
  have e : (m : Int) = ((2 ^ k : Nat) : Int) := by rw [h]
  rw [e, mask_u64 hr.1 hr.2 (by omega)]
  unfold stK
  rw [h]
  have : (hashV key).toNat % 2 ^ k < 2 ^ k := Nat.mod_lt _ (by omega)
  exact wrap_id (by omega) (by omega)
theorem step_mask {m k q : Nat} (h : m = 2 ^ k) (h1 : 2 ≤ k) (h2 : k ≤ 40) (hq : q < m) : bitI .and .i64 ((q : Int) + 1) ((m : Int) - 1) = (((q + 1) % m : Nat) : Int) := by
  have hb := pow_bnd h h1 h2
  have e : (m : Int) = ((2 ^ k : Nat) : Int) := by rw [h]
  have e2 : (q : Int) + 1 = ((q + 1 : Nat) : Int) := by omega
  rw [e, e2, mask_i64 (by omega) (by omega), h]
theorem stop_end {pl : List Int} {ks : List Rw} {key : Rw} {f q : Nat} (hf : FreeIn pl f q) (h : pl.getD q default ≤ 0 ∨ sameV (ks.getD (pl.getD q default - 1).toNat default) key = true) : probeF pl ks key f q = q := by
  cases f with
  | zero => exact absurd hf.pos (Nat.lt_irrefl _)
  | succ f =>
    have : stopAt pl ks key q = true := by
      simp only [stopAt, Bool.not_eq_true', Bool.and_eq_false_iff, decide_eq_false_iff_not, Bool.not_eq_false']
      exact h.imp (fun h => by omega) id
    simp only [probeF, this, cond_true]
theorem stop_next {pl : List Int} {ks : List Rw} {key : Rw} {f q : Nat} (hf : FreeIn pl f q) (hq : q < pl.length) (h : 0 < pl.getD q default ∧ sameV (ks.getD (pl.getD q default - 1).toNat default) key = false) : (q + 1) % pl.length < pl.length ∧ FreeIn pl (f - 1) ((q + 1) % pl.length) ∧ probeF pl ks key (f - 1) ((q + 1) % pl.length) = probeF pl ks key f q ∧ f - 1 < f := by
  cases f with
  | zero => exact absurd hf.pos (Nat.lt_irrefl _)
  | succ f =>
    have : stopAt pl ks key q = false := by
      simp only [stopAt, Bool.not_eq_false', Bool.and_eq_true, decide_eq_true_eq, Bool.not_eq_true']
      exact h
    refine ⟨Nat.mod_lt _ (by omega), hf.step hq (by omega), ?_, by omega⟩
    simp only [probeF, this, cond_false]
    rfl
theorem TabG.len {pl : List Int} {ks : List Rw} (h : TabG pl ks) (hl : ks.length ≤ 100000) : pl.length ≤ 1099511627776 := by
  rcases h with ⟨rfl, rfl⟩ | ⟨h1, h2, k, hk1, hk2, hk3⟩
  · simp
  · exact (pow_bnd hk3 hk1 hk2).2
theorem TabG.fill {pl : List Int} {ks : List Rw} (h : TabG pl ks) (hl : ks.length ≤ 100000) (hc : ¬ 2 * (ks.length + 1) ≤ pl.length) (i : Nat) (hi : i ≤ ks.length) : TabOK (fillS ks (max 4 (2 * pl.length)) i) ks i ∧ ∃ k, 2 ≤ k ∧ k ≤ 40 ∧ (fillS ks (max 4 (2 * pl.length)) i).length = 2 ^ k := by
  have hg := h.grow hl
  unfold growS at hg
  rw [if_neg hc] at hg
  obtain ⟨h1, h2, k, h3, h4, h5⟩ := hg
  rw [fillS_len] at h2 h5
  exact ⟨fillS_ok h1.nd (by omega) i hi, k, h3, h4, by rw [fillS_len]; exact h5⟩
theorem fill_nil (ks : List Rw) (m : Nat) : List.replicate (max 4 (2 * (m : Int))).toNat (D.int .i64 0) = (fillS ks (max 4 (2 * m)) 0).map intD := by
  rw [show (max 4 (2 * (m : Int))).toNat = max 4 (2 * m) by omega]
  simp [fillS, intD]
theorem fill_max (m : Nat) : (max 4 (2 * (m : Int))).toNat = max 4 (2 * m) := by omega
theorem growS_yes {pl : List Int} {ks : List Rw} (h : 2 * ((ks.length : Int) + 1) ≤ (pl.length : Int)) : growS pl ks = pl := if_pos (by omega)
theorem growS_no {pl : List Int} {ks : List Rw} (h : (pl.length : Int) < 2 * ((ks.length : Int) + 1)) : growS pl ks = fillS ks (max 4 (2 * pl.length)) ks.length := if_neg (by omega)
theorem fillS_step (ks : List Rw) (m i : Nat) : ((fillS ks m i).map intD).set (probeS (fillS ks m i) ks (ks.getD i default)) (intD ((i : Int) + 1)) = (fillS ks m (i + 1)).map intD := by
  rw [fillS, List.map_set]
theorem ex_bnd {n : Nat} (h : ∃ k, 2 ≤ k ∧ k ≤ 40 ∧ n = 2 ^ k) : 4 ≤ n ∧ n ≤ 1099511627776 := by
  obtain ⟨k, h1, h2, h3⟩ := h
  exact pow_bnd h3 h1 h2
theorem setD_map {α : Type} (f : α → D) {l : List α} {j : Nat} {x : D} (h : j < l.length) : ((l.map f).set j x).getD j default = x := by
  rw [List.getD_eq_getElem?_getD, List.getElem?_set_self (by simpa using h)]
  rfl
theorem snoc_ind {α : Type} {motive : List α → Prop} (h0 : motive []) (h1 : ∀ l x, motive l → motive (l ++ [x])) (l : List α) : motive l := by
  have key : ∀ l : List α, motive l.reverse := fun l => by
    induction l with
    | nil => exact h0
    | cons x r ih => rw [List.reverse_cons]; exact h1 _ _ ih
  have := key l.reverse
  rwa [List.reverse_reverse] at this
def inK : List Rw → Rw → Bool
  | [], _ => false
  | x :: r, k => sameV x k || inK r k
def idxK : List Rw → Rw → Nat
  | [], _ => 0
  | x :: r, k => if x = k then 0 else idxK r k + 1
theorem inK_iff : ∀ {l : List Rw} {k : Rw}, inK l k = true ↔ k ∈ l
  | [], k => by simp [inK]
  | x :: r, k => by
    simp only [inK, Bool.or_eq_true, sameV, decide_eq_true_eq, List.mem_cons, inK_iff (l := r)]
    exact ⟨fun h => h.imp Eq.symm id, fun h => h.imp Eq.symm id⟩
theorem idxK_mem : ∀ {s t : List Rw} {k : Rw}, k ∈ s → idxK (s ++ t) k = idxK s k ∧ idxK s k < s.length ∧ s.getD (idxK s k) default = k
  | [], t, k, h => by simp at h
  | x :: r, t, k, h => by
    simp only [List.cons_append, idxK]
    by_cases e : x = k
    · rw [if_pos e, if_pos e]
      exact ⟨rfl, by simp, by simpa using e⟩
    · rw [if_neg e, if_neg e]
      have hk : k ∈ r := by rcases List.mem_cons.1 h with h | h; exact absurd h.symm e; exact h
      obtain ⟨h1, h2, h3⟩ := idxK_mem (t := t) hk
      exact ⟨by rw [h1], by simp; omega, by simpa using h3⟩
theorem idxK_new : ∀ {s : List Rw} {k : Rw}, ¬ k ∈ s → idxK (s ++ [k]) k = s.length
  | [], k, h => by simp [idxK]
  | x :: r, k, h => by
    simp only [List.cons_append, idxK]
    rw [if_neg (fun e => h (by simp [e])), idxK_new (fun hk => h (List.mem_cons_of_mem _ hk))]
    simp
theorem idxK_at {s : List Rw} (hn : s.Nodup) {i : Nat} (hi : i < s.length) : idxK s (s.getD i default) = i := by
  have hm : s.getD i default ∈ s := by rw [getD_lt hi]; exact List.getElem_mem hi
  obtain ⟨_, h2, h3⟩ := idxK_mem (t := []) hm
  exact nodup_getD hn h2 hi h3
 
def distK (l : List Rw) : List Rw := l.foldl (fun s k => if inK s k = true then s else s ++ [k]) []
theorem distK_snoc (l : List Rw) (k : Rw) : distK (l ++ [k]) = if inK (distK l) k = true then distK l else distK l ++ [k] := by unfold distK; rw [List.foldl_append]; rfl
theorem distK_spec (l : List Rw) : (distK l).Nodup ∧ (∀ k, k ∈ distK l ↔ k ∈ l) ∧ (distK l).length ≤ l.length := by
  refine snoc_ind (motive := fun l => (distK l).Nodup ∧ (∀ k, k ∈ distK l ↔ k ∈ l) ∧ (distK l).length ≤ l.length) ⟨by simp [distK], by simp [distK], by simp [distK]⟩ (fun l x ih => ?_) l
  rw [distK_snoc]
  split
  · rename_i h
    rw [inK_iff] at h
    refine ⟨ih.1, fun k => ?_, by have := ih.2.2; simp; omega⟩
    rw [ih.2.1, List.mem_append, List.mem_singleton]
    exact ⟨.inl, fun h' => h'.elim id fun e => e ▸ (ih.2.1 x).1 h⟩
  · rename_i h
    rw [inK_iff] at h
    refine ⟨List.nodup_append.2 ⟨ih.1, by simp, fun a ha b hb e => ?_⟩, fun k => ?_, by have := ih.2.2; simp; omega⟩
    · rw [List.mem_singleton] at hb
      exact h (hb ▸ e ▸ ha)
    · rw [List.mem_append, List.mem_append, ih.2.1]
 
def numsK (l : List Rw) : List Int := l.map fun k => (idxK (distK l) k : Int)
def numK (s : List Rw) (k : Rw) : Int := if inK s k = true then (idxK s k : Int) else (s.length : Int)
def addK (s : List Rw) (k : Rw) : List Rw := if inK s k = true then s else s ++ [k]
theorem numsK_snoc (l : List Rw) (x : Rw) : numsK (l ++ [x]) = numsK l ++ [numK (distK l) x] ∧ distK (l ++ [x]) = addK (distK l) x := by
  have hm := (distK_spec l).2.1
  refine ⟨?_, distK_snoc l x⟩
  unfold numsK numK
  rw [List.map_append, distK_snoc]
  split
  · rfl
  · rename_i h
    rw [inK_iff] at h
    congr 1
    · exact List.map_congr_left fun k hk => by rw [(idxK_mem ((hm k).2 hk)).1]
    · simp only [List.map_cons, List.map_nil]
      rw [idxK_new h]
theorem numsK_len (l : List Rw) : (numsK l).length = l.length := by simp [numsK]
theorem numsK_at {l : List Rw} {i : Nat} (hi : i < l.length) : (numsK l).getD i default = (idxK (distK l) (l.getD i default) : Int) := by
  unfold numsK
  simp [List.getD_eq_getElem?_getD, hi]
theorem numsK_step {l : List Rw} {i : Nat} (hi : i < l.length) : numsK (l.take (i + 1)) = numsK (l.take i) ++ [numK (distK (l.take i)) (l.getD i default)] ∧ distK (l.take (i + 1)) = addK (distK (l.take i)) (l.getD i default) := by
  have e : l.take (i + 1) = l.take i ++ [l.getD i default] := by
    rw [List.take_add_one]
    simp [List.getD_eq_getElem?_getD, hi]
  rw [e]
  exact numsK_snoc _ _
 
theorem TabG.number {pl : List Int} {ks : List Rw} (h : TabG pl ks) (hl : ks.length ≤ 100000) (key : Rw) :
    let pg := growS pl ks
    let q := probeS pg ks key
    (pg.getD q default = 0 → inK ks key = false ∧ TabG (pg.set q ((ks.length : Int) + 1)) (ks ++ [key])) ∧ (¬ pg.getD q default = 0 → inK ks key = true ∧ pg.getD q default - 1 = (idxK ks key : Int) ∧ TabG pg ks) := by
  intro pg q
  obtain ⟨h1, h2, k, hk1, hk2, hk3⟩ := h.grow hl
  have hin : inK ks key = true → pg.getD q default = (idxK ks key : Int) + 1 := fun hi => by
    rw [inK_iff] at hi
    obtain ⟨_, h3, h4⟩ := idxK_mem (t := []) hi
    have := h1.found h3
    rw [h4] at this
    exact this
  have hnot : inK ks key = false → pg.getD q default = 0 := fun hi => h1.free_at fun j hj e => by
    have : key ∈ ks := by rw [← e, getD_lt hj]; exact List.getElem_mem hj
    rw [inK_iff.2 this] at hi
    cases hi
  refine ⟨fun h0 => ?_, fun h0 => ?_⟩
  · have hi : inK ks key = false := by
      cases hi : inK ks key with
      | false => rfl
      | true => have := hin hi; omega
    have hk' : ∀ j, j < ks.length → ¬ ks.getD j default = key := fun j hj e => by
      have : key ∈ ks := by rw [← e, getD_lt hj]; exact List.getElem_mem hj
      rw [inK_iff.2 this] at hi
      cases hi
    have hnd : (ks ++ [key]).Nodup := List.nodup_append.2 ⟨h1.nd, by simp, fun a ha b hb e => by
      rw [List.mem_singleton] at hb
      have : key ∈ ks := hb ▸ e ▸ ha
      rw [inK_iff.2 this] at hi
      cases hi⟩
    have hp := h1.put hk' hnd (by simp) (by simp [List.getD_eq_getElem?_getD]) (fun j hj => by simp [List.getD_eq_getElem?_getD, List.getElem?_append_left hj]) (by show ks.length + 1 < pg.length; have : 2 * (ks.length + 1) ≤ pg.length := h2; omega)
    refine ⟨hi, .inr ⟨?_, ?_, k, hk1, hk2, ?_⟩⟩
    · have e : (ks ++ [key]).length = ks.length + 1 := by simp
      rw [e]
      exact hp
    · have : 2 * (ks.length + 1) ≤ pg.length := h2
      simp
      omega
    · rw [List.length_set]
      exact hk3
  · have hi : inK ks key = true := by
      cases hi : inK ks key with
      | true => rfl
      | false => exact absurd (hnot hi) h0
    have := hin hi
    refine ⟨hi, by omega, .inr ⟨h1, ?_, k, hk1, hk2, hk3⟩⟩
    have : 2 * (ks.length + 1) ≤ pg.length := h2
    omega
theorem distK_le (l : List Rw) (i : Nat) : (distK (l.take i)).length ≤ i := by
  have := (distK_spec (l.take i)).2.2
  have h := List.length_take_le i l
  omega
theorem ofS_sizes {row : Rw} {keys : List Int} (h : ∀ v ∈ row, v.2.size ≤ 1000000) : ∀ v ∈ ofS row keys, v.2.size ≤ 1000000 := fun v hv => by
  obtain ⟨c, _, rfl⟩ := List.mem_map.1 hv
  rw [List.getD_eq_getElem?_getD]
  cases hc : row[c.toNat]? with
  | none => exact Nat.zero_le _
  | some v => exact h v (List.mem_of_getElem? hc)
theorem distK_sizes {rows : List Rw} {keys : List Int} {i : Nat} (h : ∀ r ∈ rows, ∀ v ∈ r, v.2.size ≤ 1000000) : ∀ key ∈ distK ((rows.map (ofS · keys)).take i), ∀ v ∈ key, v.2.size ≤ 1000000 := fun key hk => by
  have h2 := List.mem_of_mem_take (((distK_spec _).2.1 key).1 hk)
  obtain ⟨r, hr, rfl⟩ := List.mem_map.1 h2
  exact ofS_sizes (h r hr)
theorem keys_step {rows : List Rw} {keys : List Int} {i : Nat} (h : i < rows.length) :
    (numsK ((rows.map (ofS · keys)).take i)).map intD ++ [D.int .i64 (numK (distK ((rows.map (ofS · keys)).take i)) (ofS (rows.getD i default) keys))] = (numsK ((rows.map (ofS · keys)).take (i + 1))).map intD ∧
    distK ((rows.map (ofS · keys)).take (i + 1)) = addK (distK ((rows.map (ofS · keys)).take i)) (ofS (rows.getD i default) keys) := by
  have hl : i < (rows.map (ofS · keys)).length := by rw [List.length_map]; exact h
  obtain ⟨e1, e2⟩ := numsK_step hl
  have e3 : (rows.map (ofS · keys)).getD i default = ofS (rows.getD i default) keys := by simp [List.getD_eq_getElem?_getD, h]
  rw [e3] at e1 e2
  refine ⟨?_, e2⟩
  rw [e1, List.map_append]
  rfl
end Go.Fw
namespace Go.Fw
open Go Go.Proofs
set_option maxHeartbeats 10000000
set_option maxRecDepth 100000
set_option linter.constructorNameAsVariable false
set_option linter.unusedVariables false
set_option linter.unusedSimpArgs false
def pl39 : Nat → Plan
  | 3 => tks 0 [0, 0, 0] (tks 4 [0] (.tak 3 .rd [5, 6, 7, 8, 9, 10, 11, 12, 13, 14, 15, 16, 17, 18, 19, 20, 21, 22, 23, 24, 25, 26] (tks 5 [0] (.tak 6 .rd [7, 8, 9, 10, 11, 12, 13, 14, 15, 16, 17, 18, 19, 20, 21, 22, 23, 24, 25, 26] (tks 7 [0, 0, 0, 0, 0] (tks 13 [0, 0, 0] (tks 17 [0] (tks 23 [0] (.tak 12 .rd [21, 22, 24, 25, 26] (.tak 16 .rd [18, 19, 20, 21, 22, 24, 25, 26] (tks 18 [0] (.tak 19 .rd [20, 21, 22, 24, 25, 26] (tks 20 [0, 0, 1] (.one 24 (tks 25 [0, 0] (.done))))))))))))))))
  | _ => .done
theorem probe_con (pl : List Int) (ks : List Rw) (key : Rw) (k : Nat) (hk : pl.length = 2 ^ k) (hk1 : 2 ≤ k) (hk2 : k ≤ 40) (hf : ∃ q, q < pl.length ∧ pl.getD q default = 0) (hr : ∀ j, j < pl.length → 0 ≤ pl.getD j default ∧ pl.getD j default ≤ ks.length) (hz : ∀ v ∈ key, v.2.size ≤ 1000000) (hkl : ks.length ≤ 1000000) : Has Tryd.prog 39 [CV.d (D.ptr (D.agg [D.sl 1 (pl.map intD), D.sl 1 (ks.map encRow)])), CV.d (encRow key)] (fun rs _ => rs = [CV.d (D.int .i64 (probeS pl ks key))] ) := by
  have hp := pow_bnd hk hk1 hk2; have hst := start_mask (key := key) hk hk1 hk2
  refine Has_of_run (fn := Tryd.f39) (M := M0) fol (by kernel_rfl) 7 pl39 [] [] (by kernel_rfl) (Nat.le_of_ble_eq_true rfl) ?_
  (repeat' ((conv => whnf); first | done | (refine And.intro (fun h => ?_) (fun h => ?_) <;> (try simp only [Bool.or_eq_true, Bool.and_eq_true, Bool.or_eq_false_iff, Bool.and_eq_false_iff, toNat_pred, toNat_succ, toNat_addn, toNat_subn, decide_eq_true_eq, decide_eq_false_iff_not, Bool.not_eq_true', Bool.not_eq_false', List.length_map, Int.toNat_natCast, Int.not_lt, Int.not_le, Bool.not_eq_true, Bool.false_eq_true, Bool.true_eq_false, Bool.not_true, Bool.not_false, reduceCtorEq, beq_iff_eq, Bool.not_eq_eq_eq_not, bne_iff_ne, ne_eq, decide_not, Decidable.not_not, Classical.not_not] at h)) | exact (rfl : (_ : AV) = _) | exact (rfl : (_ : St) = _) | refine Exists.intro (α := AV) AV.dead (And.intro (fun h => Bool.noConfusion h) ?_) | apply ex_av | (refine fun (h : (_ : Bool) = true) => ?_; have h' := h; (try simp only [Bool.or_eq_true, Bool.and_eq_true, Bool.or_eq_false_iff, Bool.and_eq_false_iff, toNat_pred, toNat_succ, toNat_addn, toNat_subn, decide_eq_true_eq, decide_eq_false_iff_not, Bool.not_eq_true', Bool.not_eq_false', List.length_map, Int.toNat_natCast, Int.not_lt, Int.not_le, Bool.not_eq_true, Bool.false_eq_true, Bool.true_eq_false, Bool.not_true, Bool.not_false, reduceCtorEq, beq_iff_eq, Bool.not_eq_eq_eq_not, bne_iff_ne, ne_eq, decide_not, Decidable.not_not, Classical.not_not] at h')) | (refine And.intro (a := Both _ _ _) ?_ ?_; (refine ⟨fun h => ?_, fun h => ?_⟩ <;> first | rfl | exact h | exact Bool.noConfusion h | (rw [h]; rfl) | (rw [h]; simp only [Bool.not_false, Bool.not_true, Bool.and_true]; assumption) | (simp_all; done) | fail); skip) | refine And.intro rfl ?_ | refine Two.mk ?_ ?_ | refine And.intro (allU8_bytes _) ?_ | (refine And.intro (a := (_ : Bool) = true) ?_ ?_; (first | assumption | exact decide_eq_true (by assumption) | (rw [Bool.not_eq_true']; exact decide_eq_false (by assumption)) | (rw [Bool.not_not]; exact decide_eq_true (by assumption)) | (simp_all; done) | fail); skip) | refine And.intro (Or.inr rfl) ?_ | refine And.intro (Nat.le_of_ble_eq_true rfl) ?_ | refine And.intro (decide_eq_false (by omega)) ?_ | refine And.intro (show Program.stoodInHeld _ _ = _ by kernel_rfl) (And.intro (by kernel_rfl) ?_) | refine And.intro (show Nat.beq _ _ = _ from rfl) (And.intro (by decide) ?_) | refine And.intro ⟨rfl, rfl⟩ ?_ | refine And.intro ⟨rfl, rfl, trivial⟩ ?_ | refine And.intro (Int.natCast_nonneg _) ?_ | refine Or.inl (And.intro rfl (And.intro rfl (And.intro rfl (And.intro rfl ?_)))) | refine Or.inl (And.intro rfl (And.intro rfl ?_)) | refine Or.inr (And.intro (Nat.le_of_ble_eq_true rfl) ?_) | refine Or.inl (And.intro (by unfold in64; omega) ?_) | refine And.intro (by first | omega | (simp only [dlen, true_and, and_true, Nat.le_refl, List.length_map, List.length_append, List.length_cons, List.length_nil, List.length_take, List.length_drop, List.length_replicate, Int.toNat_natCast, List.append_nil] <;> omega) | fail) ?_ | refine And.intro (allU8_bytes _) ?_ | refine And.intro (show elemsP _ _ _ by repeat' (first | exact rfl | exact trivial | constructor)) ?_ | (refine (hash_con key hz).mono fun rs bs hr => ?_; subst hr) | (refine (equal_con _ _).mono fun rs bs hr => ?_; subst hr) | (rw [hst]) | (refine Loops.by (M := M0) 7 pl39 fol (by kernel_rfl) (ι := Nat × Nat) (fun ⟨f, q⟩ => ⟨[(0, AV.d (D.ptr (D.agg [D.sl 1 (pl.map intD), D.sl 1 (ks.map encRow)]))), (1, AV.d (encRow key)), (5, AV.d (D.int .i64 ((pl.length : Int) - 1))), (6, AV.d (D.int .i64 q))], [], 16⟩) (fun ⟨f, q⟩ => q < pl.length ∧ FreeIn pl f q ∧ probeF pl ks key f q = probeS pl ks key) (fun ⟨f, q⟩ => f) (fun p hI => ?_) ((pl.length, stK key pl.length)) ⟨stK_lt (by omega), FreeIn.start hf.choose_spec.1 (stK_lt (by omega)) hf.choose_spec.2, rfl⟩ (Forget.mk' ⟨⟨rfl, rfl⟩, ⟨rfl, rfl⟩, ⟨rfl, rfl⟩, ⟨rfl, rfl⟩, trivial⟩ trivial rfl rfl); obtain ⟨f, q⟩ := p; obtain ⟨hq, hfr, hpr⟩ := hI; have hrq := hr q hq; have hm1 := step_mask (q := q) hk hk1 hk2 hq) | (rw [hm1]) | (refine fun x hx => ?_; (try simp (disch := omega) only [Int.tdiv_eq_ediv_of_nonneg, Int.tmod_eq_emod_of_nonneg, bx, Bool.true_or, Bool.false_or, Bool.or_false, Bool.or_true, Bool.and_true, Bool.true_and, Bool.false_and, Bool.and_false, cond_true, cond_false, if_true, if_false, Bool.false_eq_true, min_nn, max_nn, min_ln, min_nl, max_ln, max_nl, getD_map, str_of_bytes, take_bytes, take_data, wrap_u64, wrap_u32, wrap_u8, shr_i64, shr_u64, shr_u32, shl_i64, shl_u64, Int.reduceToNat, Int.reducePow, Int.pow_succ, Int.pow_zero, Int.one_mul, Int.reduceMul, wrap_id, wrap_u8_nat, wrap_i64_u8, byteD_mk, map_snoc, map_app, set_map, take_map', drop_map', Nat.sub_zero, List.length_map, List.length_append, List.length_cons, List.length_nil, Int.toNat_natCast, List.drop_zero, List.take_succ_cons, List.take_zero, List.take_length, List.nil_append, List.append_nil, Nat.zero_add, toNat_pred, toNat_succ, toNat_addn, toNat_subn] at hx); subst hx) | rw [List.take_length] | (rw [List.take_of_length_le]; rotate_left; (first | omega | (simp only [dlen, true_and, and_true, Nat.le_refl, List.length_map, List.length_append, List.length_cons, List.length_nil, List.length_take, List.length_drop, List.length_replicate, Int.toNat_natCast, List.append_nil] <;> omega) | fail)) | refine fun h => ?_ | fail)); all_goals (try exact (AV.dead : AV)); all_goals (try (conv => whnf))
  all_goals first
    | exact ri (congrArg Nat.cast (hpr ▸ stop_end hfr h).symm)
    | (obtain ⟨k1, k2, k3, k4⟩ := stop_next hfr hq h; exact ⟨(f - 1, (q + 1) % pl.length), ⟨⟨k1, k2, k3.trans hpr⟩, k4⟩, (Forget.mk' ⟨⟨rfl, rfl⟩, ⟨rfl, rfl⟩, ⟨rfl, rfl⟩, ⟨rfl, rfl⟩, trivial⟩ trivial rfl rfl)⟩)
    | fail
theorem probeT_con (pl : List Int) (ks : List Rw) (key : Rw) {n : Nat} (ht : TabOK pl ks n) (hp : ∃ k, 2 ≤ k ∧ k ≤ 40 ∧ pl.length = 2 ^ k) (hkl : ks.length ≤ 1000000) (hz : ∀ v ∈ key, v.2.size ≤ 1000000) : Has Tryd.prog 39 [CV.d (D.ptr (D.agg [D.sl 1 (pl.map intD), D.sl 1 (ks.map encRow)])), CV.d (encRow key)] (fun rs bs => rs = [CV.d (D.int .i64 (probeS pl ks key))] ∧ bs = [.gone, .gone]) := by
  obtain ⟨k, h1, h2, h3⟩ := hp
  have hn := ht.nk
  exact (probe_con pl ks key k h3 h1 h2 ht.free (fun j hj => ⟨(ht.rng j hj).1, by have := (ht.rng j hj).2; omega⟩) hz hkl).gone.mono fun rs bs h => by obtain ⟨⟨_, h1⟩, h2⟩ := h; exact ⟨h1, h2⟩
def M38 : FuncId → List Mode := fun g => if g = 39 then [.ro, .ro] else []
def pl38 : Nat → Plan
  | 0 => tks 0 [0, 0, 0, 1, 0, 0, 0, 0, 0, 0, 1, 0, 0] (.done)
  | 5 => tks 0 [0, 0, 0] (tks 4 [0, 0] (tks 7 [0, 0] (.two 3 (.one 6 (tks 9 [0] (.one 10 (.done)))) 6 (tks 3 [1] (tks 9 [0] (.one 10 (.done)))))))
  | _ => .done
theorem grow_con (pl : List Int) (ks : List Rw) (ht : TabG pl ks) (hl : ks.length ≤ 100000) (hz : ∀ key ∈ ks, ∀ v ∈ key, v.2.size ≤ 1000000) : Has Tryd.prog 38 [CV.box 51 [CV.own 3 1 (pl.map intD), CV.own 37 1 (ks.map encRow)]] (fun rs bs => rs = [] ∧ bs = [CV.box 51 [CV.own 3 1 ((growS pl ks).map intD), CV.own 37 1 (ks.map encRow)]] ) := by
  have hpl := ht.len hl
  have hb3 : Tryd.prog.bytesOf 3 = 8 := by kernel_rfl
  refine Has_of_run (fn := Tryd.f38) (M := M38) fol (by kernel_rfl) 4 pl38 [] [true] (by kernel_rfl) (Nat.le_of_ble_eq_true rfl) ?_
  (repeat' ((conv => whnf); first | done | (refine And.intro (fun h => ?_) (fun h => ?_) <;> (try simp only [Bool.or_eq_true, Bool.and_eq_true, Bool.or_eq_false_iff, Bool.and_eq_false_iff, toNat_pred, toNat_succ, toNat_addn, toNat_subn, decide_eq_true_eq, decide_eq_false_iff_not, Bool.not_eq_true', Bool.not_eq_false', List.length_map, Int.toNat_natCast, Int.not_lt, Int.not_le, Bool.not_eq_true, Bool.false_eq_true, Bool.true_eq_false, Bool.not_true, Bool.not_false, reduceCtorEq, beq_iff_eq, Bool.not_eq_eq_eq_not, bne_iff_ne, ne_eq, decide_not, Decidable.not_not, Classical.not_not, fillS_len] at h)) | exact (rfl : (_ : AV) = _) | exact (rfl : (_ : St) = _) | refine Exists.intro (α := AV) AV.dead (And.intro (fun h => Bool.noConfusion h) ?_) | apply ex_av | (refine fun (h : (_ : Bool) = true) => ?_; have h' := h; (try simp only [Bool.or_eq_true, Bool.and_eq_true, Bool.or_eq_false_iff, Bool.and_eq_false_iff, toNat_pred, toNat_succ, toNat_addn, toNat_subn, decide_eq_true_eq, decide_eq_false_iff_not, Bool.not_eq_true', Bool.not_eq_false', List.length_map, Int.toNat_natCast, Int.not_lt, Int.not_le, Bool.not_eq_true, Bool.false_eq_true, Bool.true_eq_false, Bool.not_true, Bool.not_false, reduceCtorEq, beq_iff_eq, Bool.not_eq_eq_eq_not, bne_iff_ne, ne_eq, decide_not, Decidable.not_not, Classical.not_not, fillS_len] at h')) | (refine And.intro (a := Both _ _ _) ?_ ?_; (refine ⟨fun h => ?_, fun h => ?_⟩ <;> first | rfl | exact h | exact Bool.noConfusion h | (rw [h]; rfl) | (rw [h]; simp only [Bool.not_false, Bool.not_true, Bool.and_true]; assumption) | (simp_all; done) | fail); skip) | refine And.intro rfl ?_ | refine Two.mk ?_ ?_ | refine And.intro (allU8_bytes _) ?_ | (refine And.intro (a := (_ : Bool) = true) ?_ ?_; (first | assumption | exact decide_eq_true (by assumption) | (rw [Bool.not_eq_true']; exact decide_eq_false (by assumption)) | (rw [Bool.not_not]; exact decide_eq_true (by assumption)) | (simp_all; done) | fail); skip) | refine And.intro (Or.inr rfl) ?_ | refine And.intro (Nat.le_of_ble_eq_true rfl) ?_ | refine And.intro (decide_eq_false (by omega)) ?_ | refine And.intro (show Program.stoodInHeld _ _ = _ by kernel_rfl) (And.intro (by kernel_rfl) ?_) | refine And.intro (show Nat.beq _ _ = _ from rfl) (And.intro (by decide) ?_) | refine And.intro ⟨rfl, rfl⟩ ?_ | refine And.intro ⟨rfl, rfl, trivial⟩ ?_ | refine And.intro (Int.natCast_nonneg _) ?_ | refine Or.inl (And.intro rfl (And.intro rfl (And.intro rfl (And.intro rfl ?_)))) | refine Or.inl (And.intro rfl (And.intro rfl ?_)) | refine Or.inr (And.intro (Nat.le_of_ble_eq_true rfl) ?_) | refine Or.inl (And.intro (by unfold in64; omega) ?_) | refine And.intro (by first | omega | (simp only [dlen, true_and, and_true, Nat.le_refl, List.length_map, List.length_append, List.length_cons, List.length_nil, List.length_take, List.length_drop, List.length_replicate, Int.toNat_natCast, List.append_nil, hb3, fillS_len] <;> omega) | fail) ?_ | refine And.intro (allU8_bytes _) ?_ | refine And.intro (show elemsP _ _ _ by repeat' (first | exact rfl | exact trivial | constructor)) ?_ | (refine And.intro (Or.inl rfl) ?_) | (refine (probeT_con _ _ _ hok hpw (by omega) (hz _ (getD_mem (by omega)))).mono fun rs bs hr => ?_; obtain ⟨rfl, rfl⟩ := hr) | (refine Loops.by (M := M38) 4 pl38 fol (by kernel_rfl) (ι := Nat × List D × Nat) (fun ⟨i, a, n⟩ => ⟨[(0, AV.addr [0] 0 0), (31, AV.ref [0,1] 2 1 0 (ks.map encRow).length), (32, AV.d (D.int .i64 ks.length)), (33, AV.d (D.int .i64 i))], [([0,0], 16, AO.row 3 1 a), ([0], 0, AO.box 51 [AV.ref [0,0] 16 1 0 n, AV.ref [0,1] 2 1 0 ((ks.map encRow).length)]), ([0,1], 2, AO.row 37 1 (ks.map encRow))], 17⟩) (fun ⟨i, a, n⟩ => i ≤ ks.length ∧ a = (fillS ks (max 4 (2 * pl.length)) i).map intD ∧ n = max 4 (2 * pl.length)) (fun ⟨i, a, n⟩ => ks.length - i) (fun p hI => ?_) ((0, List.replicate (max 4 (2 * (pl.length : Int))).toNat (D.int .i64 0), (max 4 (2 * (pl.length : Int))).toNat)) ⟨Nat.zero_le _, fill_nil _ _, fill_max _⟩ (Forget.mk' ⟨⟨rfl, rfl⟩, ⟨rfl, rfl⟩, ⟨rfl, rfl⟩, ⟨rfl, rfl⟩, trivial⟩ ⟨⟨rfl, rfl, rfl⟩, ⟨rfl, rfl, rfl⟩, ⟨rfl, rfl, rfl⟩, trivial⟩ rfl rfl); obtain ⟨i, a, n⟩ := p; obtain ⟨hi, rfl, rfl⟩ := hI; obtain ⟨hok, hpw⟩ := ht.fill hl (by omega) i hi; have hprb := (hok.probe (ks.getD i default)).1; rw [fillS_len] at hprb) | (refine fun x hx => ?_; (try simp (disch := omega) only [Int.tdiv_eq_ediv_of_nonneg, Int.tmod_eq_emod_of_nonneg, bx, Bool.true_or, Bool.false_or, Bool.or_false, Bool.or_true, Bool.and_true, Bool.true_and, Bool.false_and, Bool.and_false, cond_true, cond_false, if_true, if_false, Bool.false_eq_true, min_nn, max_nn, min_ln, min_nl, max_ln, max_nl, getD_map, str_of_bytes, take_bytes, take_data, wrap_u64, wrap_u32, wrap_u8, shr_i64, shr_u64, shr_u32, shl_i64, shl_u64, Int.reduceToNat, Int.reducePow, Int.pow_succ, Int.pow_zero, Int.one_mul, Int.reduceMul, wrap_id, wrap_u8_nat, wrap_i64_u8, byteD_mk, map_snoc, map_app, set_map, take_map', drop_map', Nat.sub_zero, List.length_map, List.length_append, List.length_cons, List.length_nil, Int.toNat_natCast, List.drop_zero, List.take_succ_cons, List.take_zero, List.take_length, List.nil_append, List.append_nil, Nat.zero_add, toNat_pred, toNat_succ, toNat_addn, toNat_subn, fillS_len] at hx); subst hx) | rw [List.take_length] | (rw [List.take_of_length_le]; rotate_left; (first | omega | (simp only [dlen, true_and, and_true, Nat.le_refl, List.length_map, List.length_append, List.length_cons, List.length_nil, List.length_take, List.length_drop, List.length_replicate, Int.toNat_natCast, List.append_nil, hb3, fillS_len] <;> omega) | fail)) | refine fun h => ?_ | fail)); all_goals (try exact (AV.dead : AV)); all_goals (try (conv => whnf))
  all_goals first
    | (rw [growS_yes (by assumption)]; done)
    | (refine ⟨(i + 1, _, _), ⟨⟨by omega, fillS_step ks _ i, rfl⟩, by show ks.length - (i + 1) < ks.length - i; omega⟩, (Forget.mk' ⟨⟨rfl, rfl⟩, ⟨rfl, rfl⟩, ⟨rfl, rfl⟩, ⟨rfl, rfl⟩, trivial⟩ ⟨⟨rfl, rfl, rfl⟩, ⟨rfl, rfl, rfl⟩, ⟨rfl, rfl, rfl⟩, trivial⟩ rfl rfl)⟩; done)
    | (rw [growS_no (by omega), show ks.length = i by omega]; done)
    | (rw [growS_no (by omega), show ks.length = i by omega]; trace_state; fail)
def M23 : FuncId → List Mode := fun g => if g = 38 then [.own] else if g = 39 then [.ro, .ro] else []
def pl23 : Nat → Plan
  | 5 => tks 0 [0, 0, 0, 1, 0, 0, 0, 0, 1, 0, 0] (.one 11 (.done))
  | _ => .done
theorem number_con (pl : List Int) (ks : List Rw) (key : Rw) (ht : TabG pl ks) (hl : ks.length ≤ 100000) (hz : ∀ key ∈ ks, ∀ v ∈ key, v.2.size ≤ 1000000) (hzk : ∀ v ∈ key, v.2.size ≤ 1000000) : Has Tryd.prog 23 [CV.box 51 [CV.own 3 1 (pl.map intD), CV.own 37 1 (ks.map encRow)], CV.d (encRow key)] (fun rs bs => ∃ pl' : List Int, TabG pl' (addK ks key) ∧ rs = [CV.d (D.int .i64 (numK ks key))] ∧ bs = [CV.box 51 [CV.own 3 1 (pl'.map intD), CV.own 37 1 ((addK ks key).map encRow)], CV.gone] ) := by
  obtain ⟨hok, hrm, hpw⟩ := ht.grow hl; have hprb := (hok.probe key).1; have hpr := hok.rng _ hprb; have hpb := ex_bnd hpw; have hnum := ht.number hl key
  have hb37 : Tryd.prog.bytesOf 37 = 24 := by kernel_rfl
  refine Has_of_run (fn := Tryd.f23) (M := M23) fol (by kernel_rfl) 6 pl23 [] [true, false] (by kernel_rfl) (Nat.le_of_ble_eq_true rfl) ?_
  (repeat' ((conv => whnf); first | done | (refine And.intro (fun h => ?_) (fun h => ?_) <;> (try simp only [Bool.or_eq_true, Bool.and_eq_true, Bool.or_eq_false_iff, Bool.and_eq_false_iff, toNat_pred, toNat_succ, toNat_addn, toNat_subn, decide_eq_true_eq, decide_eq_false_iff_not, Bool.not_eq_true', Bool.not_eq_false', List.length_map, Int.toNat_natCast, Int.not_lt, Int.not_le, Bool.not_eq_true, Bool.false_eq_true, Bool.true_eq_false, Bool.not_true, Bool.not_false, reduceCtorEq, beq_iff_eq, Bool.not_eq_eq_eq_not, bne_iff_ne, ne_eq, decide_not, Decidable.not_not, Classical.not_not, List.length_set] at h)) | exact (rfl : (_ : AV) = _) | exact (rfl : (_ : St) = _) | refine Exists.intro (α := AV) AV.dead (And.intro (fun h => Bool.noConfusion h) ?_) | apply ex_av | (refine fun (h : (_ : Bool) = true) => ?_; have h' := h; (try simp only [Bool.or_eq_true, Bool.and_eq_true, Bool.or_eq_false_iff, Bool.and_eq_false_iff, toNat_pred, toNat_succ, toNat_addn, toNat_subn, decide_eq_true_eq, decide_eq_false_iff_not, Bool.not_eq_true', Bool.not_eq_false', List.length_map, Int.toNat_natCast, Int.not_lt, Int.not_le, Bool.not_eq_true, Bool.false_eq_true, Bool.true_eq_false, Bool.not_true, Bool.not_false, reduceCtorEq, beq_iff_eq, Bool.not_eq_eq_eq_not, bne_iff_ne, ne_eq, decide_not, Decidable.not_not, Classical.not_not, List.length_set] at h')) | (refine And.intro (a := Both _ _ _) ?_ ?_; (refine ⟨fun h => ?_, fun h => ?_⟩ <;> first | rfl | exact h | exact Bool.noConfusion h | (rw [h]; rfl) | (rw [h]; simp only [Bool.not_false, Bool.not_true, Bool.and_true]; assumption) | (simp_all; done) | fail); skip) | refine And.intro rfl ?_ | refine Two.mk ?_ ?_ | refine And.intro (allU8_bytes _) ?_ | (refine And.intro (a := (_ : Bool) = true) ?_ ?_; (first | assumption | exact decide_eq_true (by assumption) | (rw [Bool.not_eq_true']; exact decide_eq_false (by assumption)) | (rw [Bool.not_not]; exact decide_eq_true (by assumption)) | (simp_all; done) | fail); skip) | refine And.intro (Or.inr rfl) ?_ | refine And.intro (Nat.le_of_ble_eq_true rfl) ?_ | refine And.intro (decide_eq_false (by omega)) ?_ | refine And.intro (show Program.stoodInHeld _ _ = _ by kernel_rfl) (And.intro (by kernel_rfl) ?_) | refine And.intro (show Nat.beq _ _ = _ from rfl) (And.intro (by decide) ?_) | refine And.intro ⟨rfl, rfl⟩ ?_ | refine And.intro ⟨rfl, rfl, trivial⟩ ?_ | refine And.intro (Int.natCast_nonneg _) ?_ | refine Or.inl (And.intro rfl (And.intro rfl (And.intro rfl (And.intro rfl ?_)))) | refine Or.inl (And.intro rfl (And.intro rfl ?_)) | refine Or.inr (And.intro (Nat.le_of_ble_eq_true rfl) ?_) | refine Or.inl (And.intro (by unfold in64; omega) ?_) | refine And.intro (by first | omega | (simp only [dlen, true_and, and_true, Nat.le_refl, List.length_map, List.length_append, List.length_cons, List.length_nil, List.length_take, List.length_drop, List.length_replicate, Int.toNat_natCast, List.append_nil, hb37, List.length_set] <;> omega) | fail) ?_ | refine And.intro (allU8_bytes _) ?_ | refine And.intro (show elemsP _ _ _ by repeat' (first | exact rfl | exact trivial | constructor)) ?_ | (refine (grow_con pl ks ht hl hz).mono fun rs bs hr => ?_; obtain ⟨rfl, rfl⟩ := hr) | (refine (probeT_con _ _ _ hok hpw (by omega) hzk).mono fun rs bs hr => ?_; obtain ⟨rfl, rfl⟩ := hr) | (refine fun x hx => ?_; (try simp (disch := omega) only [Int.tdiv_eq_ediv_of_nonneg, Int.tmod_eq_emod_of_nonneg, bx, Bool.true_or, Bool.false_or, Bool.or_false, Bool.or_true, Bool.and_true, Bool.true_and, Bool.false_and, Bool.and_false, cond_true, cond_false, if_true, if_false, Bool.false_eq_true, min_nn, max_nn, min_ln, min_nl, max_ln, max_nl, getD_map, str_of_bytes, take_bytes, take_data, wrap_u64, wrap_u32, wrap_u8, shr_i64, shr_u64, shr_u32, shl_i64, shl_u64, Int.reduceToNat, Int.reducePow, Int.pow_succ, Int.pow_zero, Int.one_mul, Int.reduceMul, wrap_id, wrap_u8_nat, wrap_i64_u8, byteD_mk, map_snoc, map_app, set_map, take_map', drop_map', Nat.sub_zero, List.length_map, List.length_append, List.length_cons, List.length_nil, Int.toNat_natCast, List.drop_zero, List.take_succ_cons, List.take_zero, List.take_length, List.nil_append, List.append_nil, Nat.zero_add, toNat_pred, toNat_succ, toNat_addn, toNat_subn, List.length_set, setD_map] at hx); subst hx) | rw [List.take_length] | (rw [List.take_of_length_le]; rotate_left; (first | omega | (simp only [dlen, true_and, and_true, Nat.le_refl, List.length_map, List.length_append, List.length_cons, List.length_nil, List.length_take, List.length_drop, List.length_replicate, Int.toNat_natCast, List.append_nil, hb37, List.length_set] <;> omega) | fail)) | refine fun h => ?_ | fail)); all_goals (try exact (AV.dead : AV)); all_goals (try (conv => whnf))
  · obtain ⟨h1, h2⟩ := hnum.1 h
    refine ⟨(growS pl ks).set (probeS (growS pl ks) ks key) ((ks.length : Int) + 1), ?_, ?_, ?_⟩
    rotate_left
    · unfold numK
      rw [if_neg (by simp [h1])]
      exact ri (by omega)
    · unfold addK
      rw [if_neg (by simp [h1])]
      rw [show D.int IntKind.i64 ((ks.length + 1 : Nat) : Int) = intD ((ks.length : Int) + 1) from rfl, ← List.map_set]
    · unfold addK
      rw [if_neg (by simp [h1])]
      exact h2
  · obtain ⟨h1, h2, h3⟩ := hnum.2 h
    refine ⟨growS pl ks, ?_, ?_, ?_⟩
    rotate_left
    · unfold numK
      rw [if_pos h1]
      exact ri h2
    · unfold addK
      rw [if_pos h1]
    · unfold addK
      rw [if_pos h1]
      exact h3
def M13 : FuncId → List Mode := fun g => if g = 23 then [.own] else []
theorem numbers_con (rows : List Rw) (keys : List Int) (hl : keys.length ≤ 1000) (hrl : rows.length ≤ 10000) (hr : ∀ r ∈ rows, (∀ c ∈ keys, 0 ≤ c ∧ c < r.length) ∧ ∀ v ∈ r, v.2.size ≤ 1000000) : Has Tryd.prog 13 [CV.d (D.sl 1 (rows.map encRow)), CV.d (D.sl 1 (keys.map intD))] (fun rs _ => rs = [CV.own 3 1 ((numsK (rows.map (ofS · keys))).map intD)] ) := by
  have hb3 : Tryd.prog.bytesOf 3 = 8 := by kernel_rfl
  refine Has_of_run (fn := Tryd.f13) (M := M13) fol (by kernel_rfl) 9 noPlan [.own] [] (by kernel_rfl) (Nat.le_of_ble_eq_true rfl) ?_
  (repeat' ((conv => whnf); first | done | (refine And.intro (fun h => ?_) (fun h => ?_) <;> (try simp only [Bool.or_eq_true, Bool.and_eq_true, Bool.or_eq_false_iff, Bool.and_eq_false_iff, toNat_pred, toNat_succ, toNat_addn, toNat_subn, decide_eq_true_eq, decide_eq_false_iff_not, Bool.not_eq_true', Bool.not_eq_false', List.length_map, Int.toNat_natCast, Int.not_lt, Int.not_le, Bool.not_eq_true, Bool.false_eq_true, Bool.true_eq_false, Bool.not_true, Bool.not_false, reduceCtorEq, beq_iff_eq, Bool.not_eq_eq_eq_not, bne_iff_ne, ne_eq, decide_not, Decidable.not_not, Classical.not_not, numsK_len] at h)) | exact (rfl : (_ : AV) = _) | exact (rfl : (_ : St) = _) | refine Exists.intro (α := AV) AV.dead (And.intro (fun h => Bool.noConfusion h) ?_) | apply ex_av | (refine fun (h : (_ : Bool) = true) => ?_; have h' := h; (try simp only [Bool.or_eq_true, Bool.and_eq_true, Bool.or_eq_false_iff, Bool.and_eq_false_iff, toNat_pred, toNat_succ, toNat_addn, toNat_subn, decide_eq_true_eq, decide_eq_false_iff_not, Bool.not_eq_true', Bool.not_eq_false', List.length_map, Int.toNat_natCast, Int.not_lt, Int.not_le, Bool.not_eq_true, Bool.false_eq_true, Bool.true_eq_false, Bool.not_true, Bool.not_false, reduceCtorEq, beq_iff_eq, Bool.not_eq_eq_eq_not, bne_iff_ne, ne_eq, decide_not, Decidable.not_not, Classical.not_not, numsK_len] at h')) | (refine And.intro (a := Both _ _ _) ?_ ?_; (refine ⟨fun h => ?_, fun h => ?_⟩ <;> first | rfl | exact h | exact Bool.noConfusion h | (rw [h]; rfl) | (rw [h]; simp only [Bool.not_false, Bool.not_true, Bool.and_true]; assumption) | (simp_all; done) | fail); skip) | refine And.intro rfl ?_ | refine Two.mk ?_ ?_ | refine And.intro (allU8_bytes _) ?_ | (refine And.intro (a := (_ : Bool) = true) ?_ ?_; (first | assumption | exact decide_eq_true (by assumption) | (rw [Bool.not_eq_true']; exact decide_eq_false (by assumption)) | (rw [Bool.not_not]; exact decide_eq_true (by assumption)) | (simp_all; done) | fail); skip) | refine And.intro (Or.inr rfl) ?_ | refine And.intro (Nat.le_of_ble_eq_true rfl) ?_ | refine And.intro (decide_eq_false (by omega)) ?_ | refine And.intro (show Program.stoodInHeld _ _ = _ by kernel_rfl) (And.intro (by kernel_rfl) ?_) | refine And.intro (show Nat.beq _ _ = _ from rfl) (And.intro (by decide) ?_) | refine And.intro ⟨rfl, rfl⟩ ?_ | refine And.intro ⟨rfl, rfl, trivial⟩ ?_ | refine And.intro (Int.natCast_nonneg _) ?_ | refine Or.inl (And.intro rfl (And.intro rfl (And.intro rfl (And.intro rfl ?_)))) | refine Or.inl (And.intro rfl (And.intro rfl ?_)) | refine Or.inr (And.intro (Nat.le_of_ble_eq_true rfl) ?_) | refine Or.inl (And.intro (by unfold in64; omega) ?_) | refine And.intro (by first | omega | (simp only [dlen, true_and, and_true, Nat.le_refl, List.length_map, List.length_append, List.length_cons, List.length_nil, List.length_take, List.length_drop, List.length_replicate, Int.toNat_natCast, List.append_nil, hb3, numsK_len] <;> omega) | fail) ?_ | refine And.intro (allU8_bytes _) ?_ | refine And.intro (show elemsP _ _ _ by repeat' (first | exact rfl | exact trivial | constructor)) ?_ | (rw [List.drop_zero, List.take_length]) | (refine (of_con _ _ hl (hri (by omega)).1).mono fun rs bs hr => ?_; subst hr) | (refine (number_con pl _ (ofS (rows.getD i default) keys) ht (by have := distK_le (rows.map (ofS · keys)) i; omega) (distK_sizes (fun r h => (hr r h).2)) (ofS_sizes (hri (by omega)).2)).mono fun rs bs hr => ?_; obtain ⟨pl2, ht2, rfl, rfl⟩ := hr) | (refine Loops.nilRow [5] 0 3 1 rfl rfl ?_; refine Loops.nilRow [5] 1 37 1 rfl rfl ?_; refine Loops.by (M := M13) 9 noPlan fol (by kernel_rfl) (ι := Nat × List Int) (fun ⟨i, pl⟩ => ⟨[(1, AV.d (D.sl 1 (keys.map intD))), (5, AV.addr [5] 17 0), (6, AV.ref [6] 16 1 0 ((numsK ((rows.map (ofS · keys)).take i)).map intD).length), (11, AV.d (D.sl 1 (rows.map encRow))), (12, AV.d (D.int .i64 rows.length)), (13, AV.d (D.int .i64 i))], [([6], 16, AO.row 3 1 ((numsK ((rows.map (ofS · keys)).take i)).map intD)), ([5], 17, AO.box 51 [AV.ref [5,0] 18 1 0 (pl.map intD).length, AV.ref [5,1] 19 1 0 ((distK ((rows.map (ofS · keys)).take i)).map encRow).length]), ([5,0], 18, AO.row 3 1 (pl.map intD)), ([5,1], 19, AO.row 37 1 ((distK ((rows.map (ofS · keys)).take i)).map encRow))], 20⟩) (fun ⟨i, pl⟩ => i ≤ rows.length ∧ TabG pl (distK ((rows.map (ofS · keys)).take i))) (fun ⟨i, pl⟩ => rows.length - i) (fun p hI => ?_) ((0, [])) ⟨Nat.zero_le _, .inl ⟨rfl, rfl⟩⟩ (Forget.mk' ⟨⟨rfl, rfl⟩, ⟨rfl, rfl⟩, ⟨rfl, rfl⟩, ⟨rfl, rfl⟩, ⟨rfl, rfl⟩, ⟨rfl, rfl⟩, trivial⟩ ⟨⟨rfl, rfl, rfl⟩, ⟨rfl, rfl, rfl⟩, ⟨rfl, rfl, rfl⟩, ⟨rfl, rfl, rfl⟩, trivial⟩ rfl rfl); obtain ⟨i, pl⟩ := p; obtain ⟨hi, ht⟩ := hI; have hri := fun h => hr (rows.getD i default) (getD_mem h)) | (refine fun x hx => ?_; (try simp (disch := omega) only [Int.tdiv_eq_ediv_of_nonneg, Int.tmod_eq_emod_of_nonneg, bx, Bool.true_or, Bool.false_or, Bool.or_false, Bool.or_true, Bool.and_true, Bool.true_and, Bool.false_and, Bool.and_false, cond_true, cond_false, if_true, if_false, Bool.false_eq_true, min_nn, max_nn, min_ln, min_nl, max_ln, max_nl, getD_map, str_of_bytes, take_bytes, take_data, wrap_u64, wrap_u32, wrap_u8, shr_i64, shr_u64, shr_u32, shl_i64, shl_u64, Int.reduceToNat, Int.reducePow, Int.pow_succ, Int.pow_zero, Int.one_mul, Int.reduceMul, wrap_id, wrap_u8_nat, wrap_i64_u8, byteD_mk, map_snoc, map_app, set_map, take_map', drop_map', Nat.sub_zero, List.length_map, List.length_append, List.length_cons, List.length_nil, Int.toNat_natCast, List.drop_zero, List.take_succ_cons, List.take_zero, List.take_length, List.nil_append, List.append_nil, Nat.zero_add, toNat_pred, toNat_succ, toNat_addn, toNat_subn, numsK_len] at hx); subst hx) | rw [List.take_length] | (rw [List.take_of_length_le]; rotate_left; (first | omega | (simp only [dlen, true_and, and_true, Nat.le_refl, List.length_map, List.length_append, List.length_cons, List.length_nil, List.length_take, List.length_drop, List.length_replicate, Int.toNat_natCast, List.append_nil, hb3, numsK_len] <;> omega) | fail)) | refine fun h => ?_ | fail)); all_goals (try exact (AV.dead : AV)); all_goals (try (conv => whnf))
  · obtain ⟨e1, e2⟩ := keys_step (keys := keys) (rows := rows) (i := i) (by omega)
    refine ⟨(i + 1, pl2), ⟨⟨by show i + 1 ≤ _; omega, by rw [e2]; exact ht2⟩, by show rows.length - (i + 1) < rows.length - i; omega⟩, ?_⟩
    rw [e1, ← e2]
    exact (Forget.mk' ⟨⟨rfl, rfl⟩, ⟨rfl, rfl⟩, ⟨rfl, rfl⟩, ⟨rfl, rfl⟩, ⟨rfl, rfl⟩, ⟨rfl, rfl⟩, trivial⟩ ⟨⟨rfl, rfl, rfl⟩, ⟨rfl, rfl, rfl⟩, ⟨rfl, rfl, rfl⟩, ⟨rfl, rfl, rfl⟩, trivial⟩ rfl rfl)
end Go.Fw
