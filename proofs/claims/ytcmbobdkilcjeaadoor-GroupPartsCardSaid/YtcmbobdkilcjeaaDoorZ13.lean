/- What the proofs of this seat lean on, part 13: a symbolic machine that is shown sound, walks through functions, plain laws. -/
import Derived.Test.YtcmbobdkilcjeaaDoorZ12
import Derived.WalkKit
import Derived.ProofKit
import Derived.OpenShut
import Derived.ShutString
import Derived.ChangeOld
import Derived.SizedLaws
namespace Go.Fw
open Go
set_option linter.unusedVariables false
set_option linter.unusedSimpArgs false
 
inductive HasT (P : Program) : TypeId → D → Prop
  | bool {t : TypeId} (b : Bool) : P.underlying t = some .bool → HasT P t (.bool b)
  | int {t : TypeId} {k : IntKind} (n : Int) : P.underlying t = some (.int k) → (Lit.int k n).wf = true → HasT P t (.int k n)
  | str {t : TypeId} (s : ByteArray) : P.underlying t = some .string → s.size ≤ maxLen → HasT P t (.str s)
  | sl {t e : TypeId} (l : List D) : P.underlying t = some (.slice e) → l.length ≤ maxLen → (∀ x, x ∈ l → HasT P e x) → HasT P t (.sl (P.cellsOf e) l)
  | agg {t : TypeId} {fs : Array Field} (l : List D) : P.underlying t = some (.struct fs) → l.length = fs.size → (∀ (i : Nat) (f : Field) (x : D), fs[i]? = some f → l[i]? = some x → HasT P f.type x) → HasT P t (.agg l)
 
def locT (P : Program) (L : List TypeId) (t : TypeId) : Bool := match P.underlying t with
  | some .bool | some (.int _) | some .string => true
  | some (.slice e) => L.contains e && decide (0 < P.cellsOf e)
  | some (.struct fs) => ((List.range fs.size).all fun i => match fs[i]? with
      | some f => f.offset == i && P.cellsOf f.type == 1 && L.contains f.type && aggT P f.type == some false
      | none => false) && P.cellsOf t == fs.size
  | _ => false
section
variable {P : Program} {w : World} {H : Type} {enc : TypeId × Value → H}
theorem cells?_spec {a : Addr} {n : Nat} {cs : List Value} (h : w.cells? 0 a n = some cs) : cs.length = n ∧ Cells w a cs := by
  unfold World.cells? at h
  rw [if_pos (Nat.zero_le _)] at h
  have h1 : cs.length = n := by simpa using mapM_some_length h
  refine ⟨h1, fun i v hv => ?_⟩
  have hi : i < n := by
    have := (List.getElem?_eq_some_iff.1 hv).1
    omega
  have := mapM_some_get h i i (by simp [hi])
  rw [hv] at this
  exact this
theorem block_of_cell {a : Addr} {v : Value} (h : w.cell? a = some v) : a.block < w.heap.size := by
  unfold World.cell? at h
  split at h
  · rename_i hh
    exact (Array.getElem?_eq_some_iff.1 hh).1
  · cases h
theorem isAgg_of_hasT {t : TypeId} {x : D} (h : HasT P t x) (ha : aggT P t = some false) : x.isAgg = false := by
  cases h with
  | agg l hu => simp [aggT, hu] at ha
  | _ => rfl
 
theorem rows_of {sz : Nat} {a : Addr} (h0 : 0 < sz) {E : D → Prop} : ∀ (n i : Nat), (∀ j, i ≤ j → j < i + n → ∃ x cs, E x ∧ cs.length = sz ∧ Cells w (a.add (j * sz)) cs ∧ DRc w (fun b => b < w.heap.size) x cs) →
    ∃ l cs, l.length = n ∧ (∀ x ∈ l, E x) ∧ Cells w (a.add (i * sz)) cs ∧ DRr w (fun b => b < w.heap.size) sz l cs
  | 0, i, h => ⟨[], [], rfl, by simp, fun j v hv => by simp at hv, by simp [DRr]⟩
  | n + 1, i, h => by
    obtain ⟨x, c1, hE, hl, hc, hd⟩ := h i (Nat.le_refl _) (by omega)
    obtain ⟨l, c2, h1, h2, h3, h4⟩ := rows_of h0 n (i + 1) (fun j hj hj' => h j (by omega) (by omega))
    refine ⟨x :: l, c1 ++ c2, by simp [h1], fun y hy => ?_, fun j v hv => ?_, ?_⟩
    · rcases List.mem_cons.1 hy with rfl | hy
      · exact hE
      · exact h2 y hy
    · by_cases hj : j < c1.length
      · rw [List.getElem?_append_left hj] at hv
        exact hc j v hv
      · rw [List.getElem?_append_right (by omega)] at hv
        have := h3 (j - c1.length) v hv
        rw [add_add] at this ⊢
        have e : (i + 1) * sz + (j - c1.length) = i * sz + j := by rw [Nat.add_mul, Nat.one_mul]; omega
        rwa [e] at this
    · simp only [DRr]
      exact ⟨c1, c2, rfl, hl, hd, h4⟩
theorem fields_of : ∀ (cs : List Value) (k : Nat) (fs : List Field), (∀ (i : Nat) (v : Value), cs[i]? = some v → ∃ (f : Field) (x : D), fs[i]? = some f ∧ HasT P f.type x ∧ x.isAgg = false ∧ DRc w (fun b => b < w.heap.size) x [v]) →
    ∃ l, l.length = cs.length ∧ (∀ (i : Nat) (f : Field) (x : D), fs[i]? = some f → l[i]? = some x → HasT P f.type x) ∧ DRl w (fun b => b < w.heap.size) l cs
  | [], k, fs, h => ⟨[], rfl, by simp, by simp [DRl]⟩
  | v :: cs, k, [], h => by
    obtain ⟨f, x, h1, _⟩ := h 0 v rfl
    simp at h1
  | v :: cs, k, f :: fs, h => by
    obtain ⟨f', x, h1, h2, h3, h4⟩ := h 0 v rfl
    simp at h1
    subst h1
    obtain ⟨l, k1, k2, k3⟩ := fields_of cs k fs (fun i v hv => by simpa using h (i + 1) v (by simpa using hv))
    refine ⟨x :: l, by simp [k1], fun i g y hg hy => ?_, ?_⟩
    · cases i with
      | zero => simp at hg hy; subst hg; subst hy; exact h2
      | succ i => exact k2 i g y (by simpa using hg) (by simpa using hy)
    · simp only [DRl]
      exact ⟨v, cs, rfl, h3, h4, k3⟩
theorem trod_open {L : List TypeId} (hL : L.all (locT P L) = true) : ∀ (fuel : Nat) (t : TypeId) (cs : List Value) (d : DataW H) (ps : List MemPlace), t ∈ L → DataW.trod enc P w 0 (fun _ => true) true fuel t cs = some (d, ps) →
    ∃ x, HasT P t x ∧ DRc w (fun b => b < w.heap.size) x cs
  | 0, t, cs, d, ps, ht, h => by simp [DataW.trod] at h
  | fuel + 1, t, cs, d, ps, ht, h => by
    have hloc := List.all_eq_true.1 hL t ht
    unfold locT at hloc
    split at hloc
    · rename_i hu
      obtain ⟨b, rfl, _⟩ := DataW.trod_bool hu h
      exact ⟨.bool b, .bool b hu, by simp [DRc]⟩
    · rename_i k hu
      obtain ⟨n, rfl, _, hw⟩ := DataW.trod_int hu h
      exact ⟨.int k n, .int n hu hw, by simp [DRc]⟩
    · rename_i hu
      obtain ⟨s, rfl, _, hs⟩ := DataW.trod_string hu h
      exact ⟨.str s, .str s hu hs, by simp [DRc]⟩
    · rename_i e hu
      simp only [Bool.and_eq_true, List.contains_eq_mem, decide_eq_true_eq] at hloc
      obtain ⟨heL, h0⟩ := hloc
      rcases DataW.trod_slice hu h with ⟨rfl, _⟩ | ⟨a, len, cap, elems, rest, n, hfu, rfl, _, _, hlc, hcm, hel, helems, _⟩
      · refine ⟨.sl (P.cellsOf e) [], .sl [] hu (Nat.zero_le _) (by simp), ?_⟩
        simp only [DRc]
        exact ⟨none, 0, rfl, Nat.le_refl _, Nat.zero_le _, .inl trivial⟩
      · cases hfu
        obtain ⟨l, cs, h1, h2, h3, h4⟩ := rows_of (w := w) (a := a) (sz := P.cellsOf e) h0 (E := HasT P e) len 0 (fun j _ hj => by
          have hj' : j < len := by omega
          have he := helems j hj'
          cases hc : w.cells? 0 (a.add (j * P.cellsOf e)) (P.cellsOf e) with
          | none =>
            rw [hc] at he
            simp only [Option.bind_none] at he
            have := List.getElem?_eq_none_iff.1 he.symm
            omega
          | some c1 =>
            rw [hc] at he
            simp only [Option.bind_some] at he
            obtain ⟨g1, g2⟩ := cells?_spec hc
            have hlt : j < elems.length := by omega
            rw [List.getElem?_eq_getElem hlt] at he
            obtain ⟨x, k1, k2⟩ := trod_open hL fuel e c1 _ _ heL he
            exact ⟨x, c1, k1, g1, g2, k2⟩)
        refine ⟨.sl (P.cellsOf e) l, .sl l hu (by omega) h2, ?_⟩
        simp only [DRc]
        refine ⟨some a, cap, by rw [h1], by omega, hcm, ?_⟩
        rcases Nat.eq_zero_or_pos len with hz | hz
        · exact .inl (List.eq_nil_of_length_eq_zero (by omega))
        · refine .inr ⟨a, cs, rfl, ?_, ?_, h4⟩
          · have hcl : cs.length = l.length * P.cellsOf e := h4.length
            have hpos : 0 < cs.length := by rw [hcl, h1]; exact Nat.mul_pos hz h0
            have := h3 0 cs[0] (by simp [hpos])
            have hb := block_of_cell this
            simpa [add_block] using hb
          · have e0 : a.add (0 * P.cellsOf e) = a := by simp [Addr.add]
            rwa [e0] at h3
    · rename_i fs hu
      simp only [Bool.and_eq_true, List.all_eq_true, List.mem_range, beq_iff_eq] at hloc
      obtain ⟨hfs, hsz⟩ := hloc
      obtain ⟨xs, n, hfu, _, hlen, hxl, hx⟩ := DataW.trod_struct hu h
      cases hfu
      obtain ⟨l, h1, h2, h3⟩ := fields_of (P := P) (w := w) cs 0 fs.toList (fun i v hv => by
        have hi : i < fs.size := by
          have := (List.getElem?_eq_some_iff.1 hv).1
          omega
        have hf := hfs i hi
        have e : fs[i]? = some fs[i] := Array.getElem?_eq_getElem hi
        rw [e] at hf
        simp only [Bool.and_eq_true, beq_iff_eq, List.contains_eq_mem, decide_eq_true_eq] at hf
        obtain ⟨⟨⟨ho, hc⟩, hm⟩, ha⟩ := hf
        have hxi := hx i fs[i] e
        rw [ho, hc] at hxi
        have hd : (cs.drop i).take 1 = [v] := by
          have hil := (List.getElem?_eq_some_iff.1 hv)
          obtain ⟨g1, g2⟩ := hil
          rw [List.drop_eq_getElem_cons g1, g2]
          simp
        rw [hd] at hxi
        have hlt : i < xs.length := by omega
        rw [List.getElem?_eq_getElem hlt] at hxi
        obtain ⟨x, k1, k2⟩ := trod_open hL fuel fs[i].type [v] _ _ hm hxi
        exact ⟨fs[i], x, by simp [hi], k1, isAgg_of_hasT k1 ha, k2⟩)
      refine ⟨.agg l, .agg l hu (by omega) (fun i f x hf hx => h2 i f x (by simpa using hf) hx), ?_⟩
      simp only [DRc]
      exact h3
    · cases hloc
end
end Go.Fw
