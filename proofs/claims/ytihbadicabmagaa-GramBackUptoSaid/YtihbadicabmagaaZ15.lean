/- What the proofs of this seat lean on, part 15: a symbolic machine that is shown sound, walks through functions, plain laws. -/
import Derived.Test.YtihbadicabmagaaZ14
import Derived.Shelf.Sort.Plain
namespace Go.Fw
open Go Go.Sort Go.RowKit Go.Proofs
set_option linter.unusedVariables false
set_option linter.unusedSimpArgs false
def bytesOf (s : ByteArray) : List UInt8 := s.data.toList
theorem enc_bytes (s : ByteArray) : encStr (bytesOf s) = .string s := by simp [encStr, bytesOf]
section
variable {P : Program} {w : World} {F : Nat → Prop}
theorem strs_cells : ∀ {ss : List ByteArray} {vs : List Value}, DRr w F 1 (ss.map D.str) vs → vs = ss.map Value.string
  | [], vs, h => by simpa [DRr] using h
  | s :: r, vs, h => by
    simp only [List.map_cons, DRr, DRc] at h
    obtain ⟨a, b, rfl, _, rfl, h2⟩ := h
    simp [strs_cells h2]
theorem cells_strs : ∀ (ss : List ByteArray), DRr w F 1 (ss.map D.str) (ss.map Value.string)
  | [] => by simp [DRr]
  | s :: r => by
    simp only [List.map_cons, DRr, DRc]
    exact ⟨[.string s], r.map Value.string, rfl, rfl, rfl, cells_strs r⟩
theorem enters_of_calls {g : FuncId} {fn : Func} (hfn : P.funcs[g]? = some fn) (hname : (fn.name == "runtime.NumGoroutine") = false) (hb : fn.body.isSome = true) {vs : List Value} {R : Value → World → Prop}
    (h : Calls P g vs.toArray w fun
      | .returned v, w' => R v w'
      | _, _ => False) : Enters P g vs.toArray w R := by
  have hrun : (callFunc g vs.toArray).run P w = .ok (.enter g vs.toArray) w := by
    unfold callFunc
    have hprog : (program : Sem Program).run P w = .ok P w := rfl
    obtain ⟨c, hc'⟩ := Option.isSome_iff_exists.1 hb
    simp only [Sem.run_bind, hprog, Result.andThen_ok, hfn, hname, Bool.false_eq_true, if_false, hc', Option.isNone_some, Sem.run_pure]
  unfold Enters
  rw [hrun]
  exact h
 
theorem row_holds {b e : Nat} {cs : Array Value} {fr : Nat × Nat} {ss : List ByteArray} (hh : w.heap[b]? = some (.cells cs e fr)) (hu : Unf cs fr) (hcs : cs.toList.take ss.length = ss.map Value.string) (hln : ss.length ≤ cs.size) :
    Holds encStr w b 0 (ss.map bytesOf).toArray := by
  intro j hj
  have hj' : j < ss.length := by simpa using hj
  have hv : cs[j]? = some (.string ss[j]) := by
    have := congrArg (fun l => l[j]?) hcs
    simp only [List.getElem?_take, if_pos hj', List.getElem?_map, List.getElem?_eq_getElem hj', Option.map_some] at this
    simpa using this
  refine ⟨?_, ?_⟩
  · rw [cell_at hh, Nat.zero_add, hv]
    have : ((ss.map bytesOf).toArray)[j]! = bytesOf ss[j] := by
      rw [getElem!_pos _ j hj]
      simp
    rw [this, enc_bytes]
  · have := hu j (by omega)
    simp only [World.frozen?, hh, Nat.zero_add]
    exact this
 
theorem row_after {b e : Nat} {cs : Array Value} {fr : Nat × Nat} {ss : List (List UInt8)} {q : Nat} {os : Array Obj} (hh : w.heap[b]? = some (.cells cs e fr)) (hln : ss.length ≤ cs.size) :
    ∃ cs', (grow (putRow encStr (Sort.ahead w q) b 0 ss.toArray) os).heap[b]? = some (.cells cs' e fr) ∧ cs'.size = cs.size ∧ cs'.toList.take ss.length = ss.map encStr ∧
      (∀ k, k < w.heap.size → k ≠ b → (grow (putRow encStr (Sort.ahead w q) b 0 ss.toArray) os).heap[k]? = w.heap[k]?) ∧ w.heap.size ≤ (grow (putRow encStr (Sort.ahead w q) b 0 ss.toArray) os).heap.size := by
  have hb := lt_heap hh
  have hsz : (w.heap.modify b (onCells (putCells encStr 0 ss.toArray))).size = w.heap.size := by simp
  refine ⟨putCells encStr 0 ss.toArray cs, ?_, by simp [putCells], ?_, fun k hk hkb => ?_, ?_⟩
  · show ((w.heap.modify b (onCells (putCells encStr 0 ss.toArray))) ++ os)[b]? = _
    rw [Array.getElem?_append_left (by rw [hsz]; exact hb), Array.getElem?_modify, if_pos rfl, hh]
    rfl
  · apply List.ext_getElem?
    intro k
    rw [List.getElem?_take]
    by_cases hk : k < ss.length
    · rw [if_pos hk, List.getElem?_map, List.getElem?_eq_getElem hk]
      have hkc : k < cs.size := by omega
      simp only [putCells, Array.getElem?_toList, Array.getElem?_mapIdx, Array.getElem?_eq_getElem hkc, Option.map_some, Nat.zero_le, true_and, Nat.zero_add, Nat.sub_zero]
      rw [if_pos (by simpa using hk), getElem!_pos _ k (by simpa using hk)]
      simp
    · rw [if_neg hk, List.getElem?_eq_none (by simp; omega)]
  · show ((w.heap.modify b (onCells (putCells encStr 0 ss.toArray))) ++ os)[k]? = _
    rw [Array.getElem?_append_left (by rw [hsz]; exact hk), Array.getElem?_modify, if_neg (Ne.symm hkb)]
  · show w.heap.size ≤ ((w.heap.modify b (onCells (putCells encStr 0 ss.toArray))) ++ os).size
    rw [Array.size_append, hsz]
    omega
end
end Go.Fw
namespace Go.Fw
open Go Go.Sort Go.RowKit Go.Proofs
set_option linter.unusedVariables false
set_option linter.unusedSimpArgs false
theorem int_has {P : Program} {g : FuncId} {fn : Func} (hfn : P.funcs[g]? = some fn) (hname : (fn.name == "runtime.NumGoroutine") = false) (hb : fn.body.isSome = true)
    (k k' : IntKind) (x y : Int) (hI : ∀ (w : World), Calls P g #[.int k x] w fun e w' => e = .returned (.int k' y) ∧ w' = w) : Has P g [.d (.int k x)] (fun rs _ => rs = [.d (.int k' y)]) := by
  constructor
  intro F w vs fp hc hn hs hF
  simp only [CRl, CR, DRv, DRc] at hc
  obtain ⟨v, vs', f1, f2, rfl, ⟨hv, rfl⟩, ⟨rfl, rfl⟩, rfl⟩ := hc
  simp only [List.cons.injEq, and_true] at hv
  subst hv
  refine enters_of_calls hfn hname hb ((hI w).mono fun en w' he => ?_)
  obtain ⟨rfl, rfl⟩ := he
  refine ⟨[.d (.int k' y)], [.gone], F, [.int k' y], [], [], rfl, ⟨by simp [Rv], ?_, by simp [CRl, CR], by simp, by simp, fun x hx => hF x hx, fun _ h => h, fun b hb _ => rfl, fun b hb => .inl (by simpa using hb), rfl, rfl, rfl, Nat.le_refl _⟩⟩
  simp only [CRl, CR, DRv, DRc]
  exact ⟨_, [], [], [], rfl, ⟨rfl, rfl⟩, ⟨rfl, rfl⟩, rfl⟩
end Go.Fw
