/- What the proofs of this seat lean on, part 17: a symbolic machine that is shown sound, walks through functions, plain laws. -/
import Derived.Test.YtcmbobdkilcjeaaDoorZ16
import Derived.Test.YtcmbobdkilcjeaaDoorZ14
import Derived.Shelf.Sort.Plain
namespace Go.Fw
open Go Go.Sort Go.RowKit Go.Proofs
set_option linter.unusedVariables false
set_option linter.unusedSimpArgs false
def bytesOf (s : ByteArray) : List UInt8 := s.data.toList
theorem enc_bytes (s : ByteArray) : encStr (bytesOf s) = .string s := by simp [encStr, bytesOf]
section
variable {P : Program} {w : World} {F : Nat → Prop}
theorem strs_cells : ∀ {ss : List ByteArray} {vs : List Value}, DRr w F 1 (ss.map D.str) vs → vs = ss.map Value.string
  | [], vs, h => by simpa [DRr] using h
  | s :: r, vs, h => by
    simp only [List.map_cons, DRr, DRc] at h
    obtain ⟨a, b, rfl, _, rfl, h2⟩ := h
    simp [strs_cells h2]
theorem cells_strs : ∀ (ss : List ByteArray), DRr w F 1 (ss.map D.str) (ss.map Value.string)
  | [] => by simp [DRr]
  | s :: r => by
    simp only [List.map_cons, DRr, DRc]
    exact ⟨[.string s], r.map Value.string, rfl, rfl, rfl, cells_strs r⟩
theorem enters_of_calls {g : FuncId} {fn : Func} (hfn : P.funcs[g]? = some fn) (hname : (fn.name == "runtime.NumGoroutine") = false) (hb : fn.body.isSome = true) {vs : List Value} {R : Value → World → Prop}
    (h : Calls P g vs.toArray w fun
      | .returned v, w' => R v w'
      | _, _ => False) : Enters P g vs.toArray w R := by
  have hrun : (callFunc g vs.toArray).run P w = .ok (.enter g vs.toArray) w := by
    unfold callFunc
    have hprog : (program : Sem Program).run P w = .ok P w := rfl
    obtain ⟨c, hc'⟩ := Option.isSome_iff_exists.1 hb
    simp only [Sem.run_bind, hprog, Result.andThen_ok, hfn, hname, Bool.false_eq_true, if_false, hc', Option.isNone_some, Sem.run_pure]
  unfold Enters
  rw [hrun]
  exact h
 
theorem row_holds {b e : Nat} {cs : Array Value} {fr : Nat × Nat} {ss : List ByteArray} (hh : w.heap[b]? = some (.cells cs e fr)) (hu : Unf cs fr) (hcs : cs.toList.take ss.length = ss.map Value.string) (hln : ss.length ≤ cs.size) :
    Holds encStr w b 0 (ss.map bytesOf).toArray := by
  intro j hj
  have hj' : j < ss.length := by simpa using hj
  have hv : cs[j]? = some (.string ss[j]) := by
    have := congrArg (fun l => l[j]?) hcs
    simp only [List.getElem?_take, if_pos hj', List.getElem?_map, List.getElem?_eq_getElem hj', Option.map_some] at this
    simpa using this
  refine ⟨?_, ?_⟩
  · rw [cell_at hh, Nat.zero_add, hv]
    have : ((ss.map bytesOf).toArray)[j]! = bytesOf ss[j] := by
      rw [getElem!_pos _ j hj]
      simp
    rw [this, enc_bytes]
  · have := hu j (by omega)
    simp only [World.frozen?, hh, Nat.zero_add]
    exact this
 
theorem row_after {b e : Nat} {cs : Array Value} {fr : Nat × Nat} {ss : List (List UInt8)} {q : Nat} {os : Array Obj} (hh : w.heap[b]? = some (.cells cs e fr)) (hln : ss.length ≤ cs.size) :
    ∃ cs', (grow (putRow encStr (Sort.ahead w q) b 0 ss.toArray) os).heap[b]? = some (.cells cs' e fr) ∧ cs'.size = cs.size ∧ cs'.toList.take ss.length = ss.map encStr ∧
      (∀ k, k < w.heap.size → k ≠ b → (grow (putRow encStr (Sort.ahead w q) b 0 ss.toArray) os).heap[k]? = w.heap[k]?) ∧ w.heap.size ≤ (grow (putRow encStr (Sort.ahead w q) b 0 ss.toArray) os).heap.size := by
  have hb := lt_heap hh
  have hsz : (w.heap.modify b (onCells (putCells encStr 0 ss.toArray))).size = w.heap.size := by simp
  refine ⟨putCells encStr 0 ss.toArray cs, ?_, by simp [putCells], ?_, fun k hk hkb => ?_, ?_⟩
  · show ((w.heap.modify b (onCells (putCells encStr 0 ss.toArray))) ++ os)[b]? = _
    rw [Array.getElem?_append_left (by rw [hsz]; exact hb), Array.getElem?_modify, if_pos rfl, hh]
    rfl
  · apply List.ext_getElem?
    intro k
    rw [List.getElem?_take]
    by_cases hk : k < ss.length
    · rw [if_pos hk, List.getElem?_map, List.getElem?_eq_getElem hk]
      have hkc : k < cs.size := by omega
      simp only [putCells, Array.getElem?_toList, Array.getElem?_mapIdx, Array.getElem?_eq_getElem hkc, Option.map_some, Nat.zero_le, true_and, Nat.zero_add, Nat.sub_zero]
      rw [if_pos (by simpa using hk), getElem!_pos _ k (by simpa using hk)]
      simp
    · rw [if_neg hk, List.getElem?_eq_none (by simp; omega)]
  · show ((w.heap.modify b (onCells (putCells encStr 0 ss.toArray))) ++ os)[k]? = _
    rw [Array.getElem?_append_left (by rw [hsz]; exact hk), Array.getElem?_modify, if_neg (Ne.symm hkb)]
  · show w.heap.size ≤ ((w.heap.modify b (onCells (putCells encStr 0 ss.toArray))) ++ os).size
    rw [Array.size_append, hsz]
    omega
end
end Go.Fw
namespace Go.Fw
open Go Go.Sort Go.RowKit Go.Proofs
set_option linter.unusedVariables false
set_option linter.unusedSimpArgs false
def unB (l : List UInt8) : ByteArray := ⟨l.toArray⟩
 
def sortS (ss : List ByteArray) : List ByteArray := ((ss.map bytesOf).mergeSort fun x y => decide (x ≤ y)).map unB
theorem sortS_len (ss : List ByteArray) : (sortS ss).length = ss.length := by simp [sortS]
theorem sortS_cells (ss : List ByteArray) : ((ss.map bytesOf).mergeSort fun x y => decide (x ≤ y)).map encStr = (sortS ss).map Value.string := by
  simp only [sortS, List.map_map]
  rfl
theorem sort_has {P : Program} {g : FuncId} {fn : Func} (hfn : P.funcs[g]? = some fn) (hname : (fn.name == "runtime.NumGoroutine") = false) (hb : fn.body.isSome = true)
    (hS : ∀ (blk off cap : Nat) (ss : List (List UInt8)) (w : World), Holds encStr w blk off ss.toArray → blk < w.heap.size → ss.length < 4611686018427387904 →
      Calls P g #[.slice (some ⟨blk, off, none⟩) ss.length cap] w fun e w' => e = .returned (.tuple #[]) ∧ ∃ n os, w' = grow (putRow encStr (Sort.ahead w n) blk off (ss.mergeSort fun x y => decide (x ≤ y)).toArray) os)
    (hN : ∀ (p : Option Addr) (cap : Nat) (w : World), Calls P g #[.slice p 0 cap] w fun e w' => e = .returned (.tuple #[]) ∧ w' = w)
    (e : Nat) (ss : List ByteArray) (hlen : ss.length < 4611686018427387904) :
    Has P g [.own e 1 (ss.map D.str)] (fun rs bs => rs = [] ∧ bs = [.own e 1 ((sortS ss).map D.str)]) := by
  constructor
  intro F w vs fp hc hn hs hF
  simp only [CRl, CR] at hc
  obtain ⟨v, vs', f1, f2, rfl, hv, ⟨rfl, rfl⟩, rfl⟩ := hc
  rw [List.append_nil] at hn hs
  rcases hv with ⟨rfl, hnil, rfl⟩ | ⟨b, n, cs, fr, rfl, hh, hu, h0, hcs, hln, hm, hd, rfl⟩
  · have hss : ss = [] := by simpa using hnil
    subst hss
    refine enters_of_calls hfn hname hb ((hN none 0 w).mono fun en w' he => ?_)
    obtain ⟨rfl, rfl⟩ := he
    refine ⟨[], [.own e 1 []], F, [], [], [], ⟨rfl, by simp [sortS]⟩, ⟨by simp [Rv], by simp [CRl], by simp [CRl, CR], by simp, by simp, hF, fun _ h => h, fun _ _ _ => rfl, fun b hb => .inl (by simpa using hb), rfl, rfl, rfl, Nat.le_refl _⟩⟩
  · have hl1 : (ss.map D.str).length = ss.length := by simp
    rw [hl1] at hln hd ⊢
    simp only [Nat.mul_one] at hcs hd
    have hcells := strs_cells hd
    have hlc : ss.length ≤ cs.size := by omega
    have hH := row_holds hh hu hcells hlc
    have hb' : b < w.heap.size := lt_heap hh
    have hl2 : (ss.map bytesOf).length = ss.length := by simp
    have hcall := hS b 0 n (ss.map bytesOf) w hH hb' (by rw [hl2]; exact hlen)
    rw [hl2] at hcall
    refine enters_of_calls hfn hname hb (hcall.mono fun en w' he => ?_)
    obtain ⟨rfl, q, os, rfl⟩ := he
    obtain ⟨cs', k1, k2, k3, k4, k5⟩ := row_after (w := w) (b := b) (ss := (ss.map bytesOf).mergeSort fun x y => decide (x ≤ y)) (q := q) (os := os) hh (by simp; omega)
    rw [sortS_cells] at k3
    have hl3 : ((ss.map bytesOf).mergeSort fun x y => decide (x ≤ y)).length = ss.length := by simp
    rw [hl3] at k3
    have hbF : ¬ F b := (hs b (by simp)).1
    refine ⟨[], [.own e 1 ((sortS ss).map D.str)], F, [], [], [b], ⟨rfl, rfl⟩, ?_⟩
    refine ⟨by simp [Rv], by simp [CRl], ?_, by simp, fun x hx => ?_, fun x hx => Nat.lt_of_lt_of_le (hF x hx) k5, fun _ h => h, fun x hx hnx => k4 x hx (by simpa using hnx), fun x hx => ?_, rfl, rfl, rfl, k5⟩
    · simp only [CRl, CR]
      refine ⟨_, [], [b], [], rfl, .inr ⟨b, n, cs', fr, ?_, k1, fun i hi => hu i (by omega), h0, by omega, ?_, hm, ?_, rfl⟩, ⟨rfl, rfl⟩, rfl⟩
      · simp [sortS_len]
      · simp [sortS_len]; omega
      · simp only [List.length_map, sortS_len, Nat.mul_one]
        rw [k3]
        exact cells_strs _
    · simp at hx
      subst hx
      exact ⟨hbF, Nat.lt_of_lt_of_le hb' k5⟩
    · rcases hx with h | h
      · exact .inl h
      · simp at h
        subst h
        exact .inr (.inl (by simp))
end Go.Fw
