/- What the proofs of this seat lean on, part 15: a symbolic machine that is shown sound, walks through functions, plain laws. -/
import Derived.Test.YtcnlanaahhkhfabY14
import Derived.Shelf.Slices.CompactS
import Derived.Lib.RowBridge
import Derived.Test.YtcnlanaahhkhfabY13
namespace Go.Fw
open Go Go.Sort Go.RowKit Go.Proofs
set_option linter.unusedVariables false
set_option linter.unusedSimpArgs false
 
def compactS (ss : List ByteArray) : List ByteArray := (Lib.compact (ss.map bytesOf)).map unB
theorem compactS_len (ss : List ByteArray) : (compactS ss).length = (Lib.compact (ss.map bytesOf)).length := by simp [compactS]
theorem compactS_cells (ss : List ByteArray) : (Lib.compact (ss.map bytesOf)).map encStr = (compactS ss).map Value.string := by
  simp only [compactS, List.map_map]
  rfl
theorem compact_has {P : Program} {g : FuncId} {fn : Func} (hfn : P.funcs[g]? = some fn) (hname : (fn.name == "runtime.NumGoroutine") = false) (hb : fn.body.isSome = true)
    (hS : ∀ (blk off cap : Nat) (zs : List (List UInt8)) (w : World), Holds encStr w blk off zs.toArray → zs.length ≤ 9223372036854775807 → zs.length ≤ cap →
      Calls P g #[.slice (some ⟨blk, off, none⟩) zs.length cap] w fun e w' => e = .returned (.slice (some ⟨blk, off, none⟩) (Lib.compact zs).length cap) ∧ ∃ q, w' = putRow encStr (Sort.ahead w q) blk off (Lib.compact zs ++ List.replicate (zs.length - (Lib.compact zs).length) []).toArray)
    (hN : ∀ (a : Option Addr) (cap : Nat) (w : World), Calls P g #[.slice a 0 cap] w fun e w' => e = .returned (.slice a 0 cap) ∧ w' = w)
    (e : Nat) (ss : List ByteArray) :
    Has P g [.own e 1 (ss.map D.str)] (fun rs bs => rs = [.own e 1 ((compactS ss).map D.str)] ∧ bs = [.gone]) := by
  constructor
  intro F w vs fp hc hn hs hF
  simp only [CRl, CR] at hc
  obtain ⟨v, vs', f1, f2, rfl, hv, ⟨rfl, rfl⟩, rfl⟩ := hc
  rw [List.append_nil] at hn hs
  rcases hv with ⟨rfl, hnil, rfl⟩ | ⟨b, n, cs, fr, rfl, hh, hu, h0, hcs, hln, hm, hd, rfl⟩
  · have hss : ss = [] := by simpa using hnil
    subst hss
    refine enters_of_calls hfn hname hb ((hN none 0 w).mono fun en w' he => ?_)
    obtain ⟨rfl, rfl⟩ := he
    refine ⟨[.own e 1 []], [.gone], F, [.slice none 0 0], [], [], ⟨by simp [compactS, Lib.compact, Lib.compactUpTo], rfl⟩, ⟨by simp [Rv], by simp [CRl, CR], by simp [CRl, CR], by simp, by simp, hF, fun _ h => h, fun _ _ _ => rfl, fun b hb => .inl (by simpa using hb), rfl, rfl, rfl, Nat.le_refl _⟩⟩
  · have hl1 : (ss.map D.str).length = ss.length := by simp
    rw [hl1] at hln hd ⊢
    simp only [Nat.mul_one] at hcs hd
    have hcells := strs_cells hd
    have hlc : ss.length ≤ cs.size := by omega
    have hH := row_holds hh hu hcells hlc
    have hb' : b < w.heap.size := lt_heap hh
    have hl2 : (ss.map bytesOf).length = ss.length := by simp
    have hcl := Lib.compact_length_le (ss.map bytesOf)
    rw [hl2] at hcl
    have hmx : n ≤ 9223372036854775807 := by simpa [maxLen] using hm
    have hcall := hS b 0 n (ss.map bytesOf) w hH (by rw [hl2]; omega) (by rw [hl2]; exact hln)
    rw [hl2] at hcall
    refine enters_of_calls hfn hname hb (hcall.mono fun en w' he => ?_)
    obtain ⟨rfl, q, rfl⟩ := he
    have hlf : (Lib.compact (ss.map bytesOf) ++ List.replicate (ss.length - (Lib.compact (ss.map bytesOf)).length) []).length = ss.length := by simp; omega
    obtain ⟨cs', k1, k2, k3, k4, k5⟩ := row_after (w := w) (b := b) (ss := Lib.compact (ss.map bytesOf) ++ List.replicate (ss.length - (Lib.compact (ss.map bytesOf)).length) []) (q := q) (os := #[]) hh (by rw [hlf]; omega)
    rw [grow_empty] at k1 k4 k5
    rw [hlf] at k3
    have hbF : ¬ F b := (hs b (by simp)).1
    refine ⟨[.own e 1 ((compactS ss).map D.str)], [.gone], F, [.slice (some ⟨b, 0, none⟩) (Lib.compact (ss.map bytesOf)).length n], [b], [], ⟨rfl, rfl⟩, ?_⟩
    refine ⟨by simp [Rv], ?_, by simp [CRl, CR], by simp, fun x hx => ?_, fun x hx => Nat.lt_of_lt_of_le (hF x hx) k5, fun _ h => h, fun x hx hnx => k4 x hx (by simpa using hnx), fun x hx => ?_, rfl, rfl, rfl, k5⟩
    · simp only [CRl, CR]
      refine ⟨_, [], [b], [], rfl, .inr ⟨b, n, cs', fr, ?_, k1, fun i hi => hu i (by omega), h0, by omega, ?_, hm, ?_, rfl⟩, ⟨rfl, rfl⟩, rfl⟩
      · simp [compactS_len]
      · simp [compactS_len]; omega
      · simp only [List.length_map, compactS_len, Nat.mul_one]
        have := congrArg (List.take (Lib.compact (ss.map bytesOf)).length) k3
        rw [List.take_take, Nat.min_eq_left hcl, List.map_append, List.take_left' (List.length_map _), compactS_cells] at this
        rw [this]
        exact cells_strs _
    · simp at hx
      subst hx
      exact ⟨hbF, Nat.lt_of_lt_of_le hb' k5⟩
    · rcases hx with h | h
      · exact .inl h
      · simp at h
        subst h
        exact .inr (.inl (by simp))
end Go.Fw
namespace Go.Fw
open Go Go.Proofs
set_option linter.unusedVariables false
set_option linter.unusedSimpArgs false
theorem less_iff : ∀ a b : List UInt8, Op.bytesLess a b = true ↔ a < b
  | [], [] => by simp [Op.bytesLess]
  | [], y :: b => by simp [Op.bytesLess]
  | x :: a, [] => by simp [Op.bytesLess]
  | x :: a, y :: b => by
    simp only [Op.bytesLess, Bool.or_eq_true, Bool.and_eq_true, decide_eq_true_eq, beq_iff_eq, less_iff a b, List.cons_lt_cons_iff]
theorem le_iff (a b : List UInt8) : a ≤ b ↔ Op.bytesLess b a = false := by
  rw [← Bool.not_eq_true, less_iff]
  exact List.not_lt.symm
theorem rises_iff {t : List ByteArray} : Rises t ↔ t.Pairwise (fun a b => slt a b = true) := by
  rw [List.pairwise_iff_getElem]
  constructor
  · intro h i j hi hj hij
    have := h i j hij hj
    simpa [List.getD_eq_getElem?_getD, hi, hj] using this
  · intro h i j hij hj
    have := h i j (by omega) hj hij
    simpa [List.getD_eq_getElem?_getD, (show i < t.length by omega), hj] using this
theorem pair_unique : ∀ {t u : List ByteArray}, t.Pairwise (fun a b => slt a b = true) → u.Pairwise (fun a b => slt a b = true) → (∀ s, s ∈ t ↔ s ∈ u) → t = u
  | [], [], _, _, _ => rfl
  | [], b :: u, _, _, h => by have := (h b).2 (by simp); simp at this
  | a :: t, [], _, _, h => by have := (h a).1 (by simp); simp at this
  | a :: t, b :: u, h1, h2, h => by
    rw [List.pairwise_cons] at h1 h2
    have hab : a = b := by
      rcases List.mem_cons.1 ((h a).1 (by simp)) with e | e
      · exact e
      · rcases List.mem_cons.1 ((h b).2 (by simp)) with e' | e'
        · exact e'.symm
        · have := slt_trans (h1.1 b e') (h2.1 a e)
          rw [slt_irrefl] at this
          cases this
    subst hab
    have hn : ∀ {l : List ByteArray}, (∀ x ∈ l, slt a x = true) → a ∉ l := fun hl hm => by
      have := hl a hm
      rw [slt_irrefl] at this
      cases this
    rw [pair_unique h1.2 h2.2 fun s => ⟨fun hs => by
      rcases List.mem_cons.1 ((h s).1 (by simp [hs])) with e | e
      · exact absurd (e ▸ hs) (hn h1.1)
      · exact e, fun hs => by
      rcases List.mem_cons.1 ((h s).2 (by simp [hs])) with e | e
      · exact absurd (e ▸ hs) (hn h2.1)
      · exact e⟩]
theorem rises_unique {t u : List ByteArray} (h1 : Rises t) (h2 : Rises u) (h : ∀ s, s ∈ t ↔ s ∈ u) : t = u := pair_unique (rises_iff.1 h1) (rises_iff.1 h2) h
 
theorem upTo_spec (d : Array (List UInt8)) (hs : ∀ i, i + 1 < d.size → Op.bytesLess d[i + 1]! d[i]! = false) : ∀ m, m ≤ d.size →
    (Lib.compactUpTo d m).Pairwise (fun a b => Op.bytesLess a b = true) ∧ (∀ x, x ∈ Lib.compactUpTo d m ↔ ∃ j, j < m ∧ d[j]! = x) ∧ ∀ x ∈ Lib.compactUpTo d m, 0 < m ∧ (x = d[m - 1]! ∨ Op.bytesLess x d[m - 1]! = true)
  | 0, _ => by simp [Lib.compactUpTo]
  | m + 1, hm => by
    obtain ⟨h1, h2, h3⟩ := upTo_spec d hs m (by omega)
    rw [Lib.compactUpTo_succ]
    by_cases hk : Lib.keeps d m = true
    · rw [if_pos hk]
      have hlt : ∀ x ∈ Lib.compactUpTo d m, Op.bytesLess x d[m]! = true := fun x hx => by
        obtain ⟨h0, hx'⟩ := h3 x hx
        have hle : Op.bytesLess d[m]! d[m - 1]! = false := by
          have := hs (m - 1) (by omega)
          rwa [show m - 1 + 1 = m by omega] at this
        have hne : d[m]! ≠ d[m - 1]! := by
          intro e
          have := Lib.keeps_neg h0 e
          rw [hk] at this
          cases this
        have hl : Op.bytesLess d[m - 1]! d[m]! = true := by
          refine (Bool.eq_false_or_eq_true _).resolve_right fun e => hne ?_
          exact less_total _ _ hle e
        rcases hx' with rfl | hx'
        · exact hl
        · exact less_trans _ _ _ hx' hl
      refine ⟨?_, fun x => ?_, fun x hx => ⟨by omega, ?_⟩⟩
      · rw [List.pairwise_append]
        refine ⟨h1, by simp, fun a ha b hb => ?_⟩
        simp only [List.mem_singleton] at hb
        subst hb
        exact hlt a ha
      · rw [List.mem_append, h2, List.mem_singleton]
        constructor
        · rintro (⟨j, hj, e⟩ | rfl)
          · exact ⟨j, by omega, e⟩
          · exact ⟨m, by omega, rfl⟩
        · rintro ⟨j, hj, e⟩
          by_cases hjm : j = m
          · subst hjm; exact .inr e.symm
          · exact .inl ⟨j, by omega, e⟩
      · rcases List.mem_append.1 hx with hx | hx
        · exact .inr (hlt x hx)
        · simp only [List.mem_singleton] at hx
          exact .inl hx
    · rw [if_neg hk, List.append_nil]
      have h0 : 0 < m := by
        refine Nat.pos_of_ne_zero fun e => hk ?_
        subst e
        exact Lib.keeps_lt_one d 0 (by omega)
      have he : d[m]! = d[m - 1]! := by
        refine Classical.byContradiction fun h => hk ?_
        exact Lib.keeps_pos h
      refine ⟨h1, fun x => ?_, fun x hx => ⟨by omega, ?_⟩⟩
      · rw [h2]
        constructor
        · rintro ⟨j, hj, e⟩
          exact ⟨j, by omega, e⟩
        · rintro ⟨j, hj, e⟩
          by_cases hjm : j = m
          · subst hjm; exact ⟨j - 1, by omega, by rw [← he]; exact e⟩
          · exact ⟨j, by omega, e⟩
      · rw [Nat.add_sub_cancel, he]
        exact (h3 x hx).2
 
def tidy (l : List ByteArray) : List ByteArray := compactS (sortS l)
theorem unB_of (s : ByteArray) : unB (bytesOf s) = s := by cases s; simp [unB, bytesOf]
theorem of_unB (l : List UInt8) : bytesOf (unB l) = l := by simp [unB, bytesOf]
theorem map_unB (l : List (List UInt8)) : (l.map unB).map bytesOf = l := by
  rw [List.map_map]
  conv => rhs; rw [← List.map_id l]
  exact List.map_congr_left fun x _ => of_unB x
theorem tidy_spec (l : List ByteArray) : Rises (tidy l) ∧ ∀ s, s ∈ tidy l ↔ s ∈ l := by
  have e1 : tidy l = (Lib.compact ((l.map bytesOf).mergeSort fun x y => decide (x ≤ y))).map unB := by
    simp only [tidy, compactS, sortS, map_unB]
  have hsort : ((l.map bytesOf).mergeSort fun x y => decide (x ≤ y)).Pairwise fun x y => decide (x ≤ y) = true :=
    List.pairwise_mergeSort (fun a b c h1 h2 => by
      simp only [decide_eq_true_eq] at h1 h2 ⊢
      exact List.le_trans h1 h2) (fun a b => by
      simp only [Bool.or_eq_true, decide_eq_true_eq]
      exact List.le_total a b) _
  generalize hz : ((l.map bytesOf).mergeSort fun x y => decide (x ≤ y)) = zs at *
  have hmem : ∀ x, x ∈ zs ↔ x ∈ l.map bytesOf := fun x => by rw [← hz]; exact List.mem_mergeSort
  obtain ⟨h1, h2, _⟩ := upTo_spec zs.toArray (fun i hi => by
    have := List.pairwise_iff_getElem.1 hsort i (i + 1) (by simp at hi; omega) (by simpa using hi) (by omega)
    simp only [decide_eq_true_eq, le_iff] at this
    have hi' : i + 1 < zs.length := by simpa using hi
    simpa [hi', (show i < zs.length by omega)] using this) zs.length (by simp)
  rw [e1]
  refine ⟨rises_iff.2 ?_, fun s => ?_⟩
  · rw [List.pairwise_map]
    refine h1.imp fun {a b} h => ?_
    simp only [slt]
    have e : ∀ l : List UInt8, (unB l).data.toList = l := of_unB
    rw [e, e]
    exact h
  · rw [List.mem_map]
    constructor
    · rintro ⟨x, hx, rfl⟩
      obtain ⟨j, hj, rfl⟩ := (h2 x).1 hx
      have hm : zs.toArray[j]! ∈ zs := by simp [hj]
      obtain ⟨y, hy, e⟩ := List.mem_map.1 ((hmem _).1 hm)
      rw [← e, unB_of]
      exact hy
    · intro hs
      have hm := (hmem (bytesOf s)).2 (List.mem_map_of_mem hs)
      obtain ⟨j, hj, e⟩ := List.mem_iff_getElem.1 hm
      exact ⟨bytesOf s, (h2 _).2 ⟨j, hj, by simp [hj, e]⟩, unB_of s⟩
def orderS (l : List ByteArray) : List ByteArray := (tidy (l.filter mayD)).take 255
theorem rises_take {t : List ByteArray} (h : Rises t) (n : Nat) : Rises (t.take n) := rises_iff.2 ((rises_iff.1 h).sublist (List.take_sublist _ _))
theorem orderS_rises (l : List ByteArray) : Rises (orderS l) := rises_take (tidy_spec _).1 _
theorem order_eq (l : List ByteArray) : [CV.own 9 1 (List.take (min (compactS (sortS (l.filter mayD))).length 255) (List.map D.str (compactS (sortS (l.filter mayD)))))] = [CV.own 9 1 (List.map D.str (orderS l))] := by
  rw [orderS, tidy, ← List.map_take, Nat.min_comm, ← List.take_eq_take_min]
def sA : ByteArray := ⟨#[97]⟩
def sB : ByteArray := ⟨#[98]⟩
def sAB : ByteArray := ⟨#[97, 98]⟩
theorem rises_ab : Rises [⟨#[97]⟩, ⟨#[97, 98]⟩] := rises_iff.2 (by simp [slt, Op.bytesLess])
theorem rises_inj {t : List ByteArray} (hr : Rises t) {i j : Nat} (hi : i < t.length) (hj : j < t.length) (h : t.getD i default = t.getD j default) : i = j := by
  rcases Nat.lt_trichotomy i j with hlt | heq | hgt
  · have := hr i j hlt hj
    rw [h, slt_irrefl] at this
    cases this
  · exact heq
  · have := hr j i hgt hi
    rw [h, slt_irrefl] at this
    cases this
theorem found_unique {t : List ByteArray} {x : ByteArray} {rs rs' : List CV} (hr : Rises t) (h : Found t x rs) (h' : Found t x rs') : rs = rs' := by
  have key : ∀ {i n j m : Nat}, 0 < n → n ≤ 8 → n ≤ x.size → i < t.length → t.getD i default = x.extract 0 n → (∀ k, m < k → k ≤ 8 → k ≤ x.size → NoBeg t x k) → n ≤ m := fun h0 h8 hx hi he hno =>
    Nat.le_of_not_lt fun hlt => hno _ hlt h8 hx _ hi he
  rcases h with ⟨i, n, rfl, a0, a8, ax, ai, ae, an⟩ | ⟨rfl, an⟩
  · rcases h' with ⟨j, m, rfl, b0, b8, bx, bj, be, bn⟩ | ⟨rfl, bn⟩
    · have h1 := key (j := j) a0 a8 ax ai ae bn
      have h2 := key (j := i) b0 b8 bx bj be an
      have e : n = m := by omega
      subst e
      rw [rises_inj hr ai bj (ae.trans be.symm)]
    · exact absurd ae (bn n a0 a8 ax i ai)
  · rcases h' with ⟨j, m, rfl, b0, b8, bx, bj, be, bn⟩ | ⟨rfl, bn⟩
    · exact absurd be (an m b0 b8 bx j bj)
    · rfl
theorem found_ab : Found [⟨#[97]⟩, ⟨#[97, 98]⟩] ⟨#[97, 98, 99]⟩ [.d (.int .i64 1), .d (.int .i64 2)] :=
  .inl ⟨1, 2, rfl, by decide, by decide, by decide, by decide, by decide +kernel, fun m h1 h2 h3 => by
    have h3' : m ≤ 3 := h3
    have e : m = 3 := by omega
    subst e
    intro k hk
    have hk' : k < 2 := hk
    rcases (show k = 0 ∨ k = 1 by omega) with rfl | rfl <;> decide +kernel⟩
theorem tidy_bab : tidy [⟨#[98]⟩, ⟨#[97]⟩, ⟨#[98]⟩] = [⟨#[97]⟩, ⟨#[98]⟩] :=
  rises_unique (tidy_spec _).1 (rises_iff.2 (by simp [slt, Op.bytesLess])) fun s => by
    rw [(tidy_spec _).2]
    simp only [List.mem_cons, List.not_mem_nil, or_false]
    constructor
    · rintro (h | h | h)
      · exact .inr h
      · exact .inl h
      · exact .inr h
    · rintro (h | h)
      · exact .inr (.inl h)
      · exact .inl h
theorem order_bab : orderS [⟨#[98]⟩, ⟨#[97]⟩, ⟨#[98]⟩] = [⟨#[97]⟩, ⟨#[98]⟩] := by
  rw [orderS, show List.filter mayD [⟨#[98]⟩, ⟨#[97]⟩, ⟨#[98]⟩] = [⟨#[98]⟩, ⟨#[97]⟩, ⟨#[98]⟩] by rfl, tidy_bab]
  rfl
theorem awake_str : strB (putB [⟨#[97]⟩, ⟨#[97, 98]⟩]) = ⟨#[2, 1, 97, 2, 97, 98]⟩ := by decide +kernel
end Go.Fw
