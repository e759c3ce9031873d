/- What the proofs of this seat lean on, part 14: a symbolic machine that is shown sound, walks through functions, plain laws. -/
import Derived.Test.YtihbadicabmagaaZ13
import Derived.Carry
namespace Go.Fw
open Go Go.ChangeShapes Go.WideShapes Go.ChangeAt Go.RowKit
open Go.ChangeMaps (open_string shut_string)
set_option linter.unusedVariables false
set_option linter.unusedSimpArgs false
def HasTs (P : Program) : List TypeId → List D → Prop
  | [], [] => True
  | t :: ts, x :: xs => HasT P t x ∧ HasTs P ts xs
  | _, _ => False
section
variable {P : Program} {w : World} {H : Type} {enc : TypeId × Value → H}
theorem DRv_open {t : TypeId} {x : D} {v : Value} {F : Nat → Prop} {r : Reach} {b0 : Nat} (h : HasT P t x) (hv : Value.okWide P w r b0 t v) (hd : DRc w F x v.cells.toList) : DRv w F x v := by
  cases h with
  | bool b hu =>
    obtain ⟨b', rfl⟩ := okWide_bool hu hv
    simpa [DRv, Value.cells] using hd
  | int n hu hw =>
    obtain ⟨n', rfl⟩ := okWide_int hu hv
    simpa [DRv, Value.cells] using hd
  | str s hu hs =>
    obtain ⟨s', rfl⟩ := okWide_string hu hv
    simpa [DRv, Value.cells] using hd
  | sl l hu hm he =>
    obtain ⟨a, n, c, rfl⟩ := okWide_slice hu hv
    simpa only [DRv, Value.cells] using hd
  | agg l hu hl he =>
    simp only [Value.okWide, hu] at hv
    obtain ⟨cs, rfl, _⟩ := hv
    simp only [DRv]
    simp only [DRc, Value.cells] at hd
    exact ⟨cs, rfl, hd⟩
theorem open_all {L : List TypeId} (hL : L.all (locT P L) = true) {r : Reach} {b0 : Nat} : ∀ (ts : List TypeId) (vs : List Value) (ds : List (DataW H)) (ps : List MemPlace), ts.all (fun t => L.contains t) = true → DataW.TrodAll enc P w 0 (fun _ => true) true ts vs ds ps →
    (∀ (j : Nat) t v, ts[j]? = some t → vs[j]? = some v → Value.okWide P w r b0 t v) → ∃ xs, HasTs P ts xs ∧ CRl w (fun b => b < w.heap.size) (xs.map CV.d) vs []
  | [], vs, ds, ps, hs, h, hv => by
    obtain ⟨rfl, rfl, rfl⟩ := trodAll_nil h
    exact ⟨[], trivial, by simp [CRl]⟩
  | t :: ts, vs, ds, ps, hs, h, hv => by
    obtain ⟨v, vs', d, ds', p, q, rfl, rfl, rfl, h1, h2⟩ := trodAll_cons h
    simp only [List.all_cons, Bool.and_eq_true, List.contains_eq_mem, decide_eq_true_eq] at hs
    obtain ⟨fuel, hf⟩ := h1
    obtain ⟨x, k1, k2⟩ := trod_open hL fuel t _ _ _ hs.1 hf
    obtain ⟨xs, k3, k4⟩ := open_all hL ts vs' ds' q (by simpa using hs.2) h2 (fun j t' v' ht hv' => hv (j + 1) t' v' (by simpa using ht) (by simpa using hv'))
    refine ⟨x :: xs, ⟨k1, k3⟩, ?_⟩
    simp only [List.map_cons, CRl, CR]
    exact ⟨v, vs', [], [], rfl, ⟨DRv_open k1 (hv 0 t v rfl rfl) k2, rfl⟩, k4, rfl⟩
theorem trodAll_stays (hl : laidOutB P = true) {W W' : World} (hb : Below W.heap.size W W') : ∀ (ts : List TypeId) (vs : List Value) (ds : List (DataW H)) (ps : List MemPlace), ts.all (fun t => P.readableRec t && decide (t < P.types.size)) = true → DataW.TrodAll enc P W 0 (fun _ => true) true ts vs ds ps →
    DataW.TrodAll enc P W' 0 (fun b => decide (b < W.heap.size)) true ts vs ds ps
  | [], vs, ds, ps, hs, h => by
    obtain ⟨rfl, rfl, rfl⟩ := trodAll_nil h
    exact rfl
  | t :: ts, vs, ds, ps, hs, h => by
    obtain ⟨v, vs', d, ds', p, q, rfl, rfl, rfl, h1, h2⟩ := trodAll_cons h
    simp only [List.all_cons, Bool.and_eq_true, decide_eq_true_eq] at hs
    have hlt : ∀ x ∈ p, x.block < W.heap.size := by
      obtain ⟨m, hm⟩ := h1
      exact DataW.trod_lt m _ _ _ hm
    exact trodAll_cons_mk (Below.trod hl hs.1.1 hs.1.2 h1 hb hlt) (trodAll_stays hl hb ts vs' ds' q (by simpa using hs.2) h2)
theorem calls_of_has {g : FuncId} {fn : Func} {args : List CV} {R : List CV → List CV → Prop} (hfn : P.funcs[g]? = some fn) (hname : (fn.name == "runtime.NumGoroutine") = false) (hb : fn.body.isSome = true) (h : Has P g args R) {W : World} {vs : List Value}
    (hc : CRl W (fun b => b < W.heap.size) args vs []) (hG : TabsG (fun b => b < W.heap.size) W) (hV : VarsG (fun b => b < W.heap.size) W) : Calls P g vs.toArray W fun
      | .returned v, W' => ∃ rs bs F' vr f1 f2, R rs bs ∧ Fw.Left (fun b => b < W.heap.size) W vs [] rs bs v W' F' vr f1 f2
      | _, _ => False := by
  have := h.con (fun b => b < W.heap.size) W vs [] hc List.nodup_nil (fun b hb => by simp at hb) ⟨fun b hb => hb, hG, hV⟩
  have hrun : (callFunc g vs.toArray).run P W = .ok (.enter g vs.toArray) W := by
    unfold callFunc
    have hprog : (program : Sem Program).run P W = .ok P W := rfl
    obtain ⟨c, hc'⟩ := Option.isSome_iff_exists.1 hb
    simp only [Sem.run_bind, hprog, Result.andThen_ok, hfn, hname, Bool.false_eq_true, if_false, hc', Option.isNone_some, Sem.run_pure]
  unfold Enters at this
  rw [hrun] at this
  exact this
 
theorem law_calls {L : List TypeId} (hL : L.all (locT P L) = true) (hl : laidOutB P = true) {g : FuncId} {fn : Func} (hfn : P.funcs[g]? = some fn) (hname : (fn.name == "runtime.NumGoroutine") = false) (hb : fn.body.isSome = true)
    (hin : fn.params.toList.all (fun t => L.contains t) = true) (hrec : fn.params.toList.all (fun t => P.readableRec t && decide (t < P.types.size)) = true)
    (hlaw : ∀ xs, HasTs P fn.params.toList xs → Has P g (xs.map CV.d) (fun rs _ => rs = [.d (.bool true)])) {W : World} {base : Nat} {args : Array Value} {ds : List (DataW H)} {p : List MemPlace}
    (hval : ∀ (j : Nat) t v, fn.params[j]? = some t → args[j]? = some v → Value.okWide P W .any base t v) (hA : DataW.TrodAll enc P W 0 (fun _ => true) true fn.params.toList args.toList ds p) (hG : TabsG (fun b => b < W.heap.size) W) (hV : VarsG (fun b => b < W.heap.size) W) :
    Calls P g args W fun e W' => e = .returned (.bool true) ∧ Below W.heap.size W W' ∧ DataW.TrodAll enc P W' 0 (fun b => decide (b < W.heap.size)) true fn.params.toList args.toList ds p := by
  obtain ⟨xs, h1, h2⟩ := open_all hL _ _ _ _ hin hA (fun j t v ht hv => hval j t v (by simpa using ht) (by simpa using hv))
  have hc := calls_of_has hfn hname hb (hlaw xs h1) h2 hG hV
  have e : args.toList.toArray = args := by simp
  rw [e] at hc
  refine hc.mono fun en W' he => ?_
  cases en with
  | returned v =>
    obtain ⟨rs, bs, F', vr, f1, f2, rfl, hl'⟩ := he
    have hr := hl'.rs
    simp only [CRl, CR, DRv, DRc] at hr
    obtain ⟨v', vs', g1, g2, rfl, ⟨hv, _⟩, ⟨rfl, _⟩, _⟩ := hr
    have hv' := hl'.res
    simp only [Rv] at hv'
    simp only [List.cons.injEq, and_true] at hv
    subst hv
    subst hv'
    have bel : Below W.heap.size W W' := ⟨hl'.os, hl'.tape, hl'.output, hl'.size, fun k hk => hl'.keep k hk (by simp)⟩
    exact ⟨rfl, bel, trodAll_stays hl bel _ _ _ _ hrec hA⟩
  | panicked c => exact he.elim
  | outgrown => exact he.elim
end
end Go.Fw
namespace Go.Fw
open Go
set_option linter.unusedVariables false
theorem HasT.asStr {P : Program} {t : TypeId} {x : D} (hu : P.underlying t = some .string) (h : HasT P t x) : ∃ s : ByteArray, x = .str s ∧ s.size ≤ maxLen := by
  cases h with
  | str s _ hs => exact ⟨s, rfl, hs⟩
  | bool b h1 => rw [hu] at h1; cases h1
  | int n h1 _ => rw [hu] at h1; cases h1
  | sl l h1 _ _ => rw [hu] at h1; cases h1
  | agg l h1 _ _ => rw [hu] at h1; cases h1
theorem HasT.asInt {P : Program} {t : TypeId} {x : D} {k : IntKind} (hu : P.underlying t = some (.int k)) (h : HasT P t x) : ∃ n : Int, x = .int k n ∧ (Lit.int k n).wf = true := by
  cases h with
  | str s h1 _ => rw [hu] at h1; cases h1
  | bool b h1 => rw [hu] at h1; cases h1
  | int n h1 hw => rw [hu] at h1; cases h1; exact ⟨n, rfl, hw⟩
  | sl l h1 _ _ => rw [hu] at h1; cases h1
  | agg l h1 _ _ => rw [hu] at h1; cases h1
theorem HasT.asBool {P : Program} {t : TypeId} {x : D} (hu : P.underlying t = some .bool) (h : HasT P t x) : ∃ b : Bool, x = .bool b := by
  cases h with
  | str s h1 _ => rw [hu] at h1; cases h1
  | bool b h1 => exact ⟨b, rfl⟩
  | int n h1 hw => rw [hu] at h1; cases h1
  | sl l h1 _ _ => rw [hu] at h1; cases h1
  | agg l h1 _ _ => rw [hu] at h1; cases h1
theorem HasT.asSl {P : Program} {t e : TypeId} {x : D} (hu : P.underlying t = some (.slice e)) (h : HasT P t x) : ∃ l, x = .sl (P.cellsOf e) l ∧ l.length ≤ maxLen ∧ ∀ y ∈ l, HasT P e y := by
  cases h with
  | str s h1 _ => rw [hu] at h1; cases h1
  | bool b h1 => rw [hu] at h1; cases h1
  | int n h1 hw => rw [hu] at h1; cases h1
  | sl l h1 h2 h3 => rw [hu] at h1; cases h1; exact ⟨l, rfl, h2, h3⟩
  | agg l h1 _ _ => rw [hu] at h1; cases h1
theorem HasT.asAgg {P : Program} {t : TypeId} {fs : Array Field} {x : D} (hu : P.underlying t = some (.struct fs)) (h : HasT P t x) : ∃ l, x = .agg l ∧ l.length = fs.size ∧ ∀ (i : Nat) (f : Field) (y : D), fs[i]? = some f → l[i]? = some y → HasT P f.type y := by
  cases h with
  | str s h1 _ => rw [hu] at h1; cases h1
  | bool b h1 => rw [hu] at h1; cases h1
  | int n h1 hw => rw [hu] at h1; cases h1
  | sl l h1 h2 h3 => rw [hu] at h1; cases h1
  | agg l h1 h2 h3 => rw [hu] at h1; cases h1; exact ⟨l, rfl, h2, h3⟩
 
theorem map_of {α : Type} {f : α → D} {p : α → Prop} : ∀ {l : List D}, (∀ y ∈ l, ∃ a, y = f a ∧ p a) → ∃ az : List α, l = az.map f ∧ ∀ a ∈ az, p a
  | [], _ => ⟨[], rfl, by simp⟩
  | y :: l, h => by
    obtain ⟨a, rfl, ha⟩ := h y (by simp)
    obtain ⟨az, rfl, has⟩ := map_of (l := l) fun z hz => h z (by simp [hz])
    exact ⟨a :: az, rfl, fun b hb => by
      rcases List.mem_cons.1 hb with rfl | hb
      · exact ha
      · exact has b hb⟩
theorem HasT.asStrs {P : Program} {t e : TypeId} {x : D} (hu : P.underlying t = some (.slice e)) (he : P.underlying e = some .string) (hc : P.cellsOf e = 1) (h : HasT P t x) : ∃ l : List ByteArray, x = .sl 1 (l.map D.str) ∧ l.length ≤ maxLen ∧ ∀ s ∈ l, s.size ≤ maxLen := by
  obtain ⟨l, rfl, hl, hy⟩ := h.asSl hu
  obtain ⟨az, rfl, ha⟩ := map_of (f := D.str) (p := fun s => s.size ≤ maxLen) fun y hy' => (hy y hy').asStr he
  exact ⟨az, by rw [hc], by simpa using hl, ha⟩
theorem wf_u8 {n : Int} (h : (Lit.int .u8 n).wf = true) : 0 ≤ n ∧ n < 256 := by
  simp [Lit.wf, IntKind.min, IntKind.max, IntKind.bits, IntKind.signed] at h
  omega
theorem HasT.asBytes {P : Program} {t e : TypeId} {x : D} (hu : P.underlying t = some (.slice e)) (he : P.underlying e = some (.int .u8)) (hc : P.cellsOf e = 1) (h : HasT P t x) : ∃ l : List UInt8, x = .sl 1 (l.map byteD) ∧ l.length ≤ maxLen := by
  obtain ⟨l, rfl, hl, hy⟩ := h.asSl hu
  obtain ⟨az, rfl, _⟩ := map_of (f := byteD) (p := fun _ => True) fun y hy' => by
    obtain ⟨n, rfl, hw⟩ := (hy y hy').asInt he
    obtain ⟨h0, h1⟩ := wf_u8 hw
    refine ⟨UInt8.ofNat n.toNat, ?_, trivial⟩
    have : ((UInt8.ofNat n.toNat).toNat : Int) = n := by
      rw [UInt8.toNat_ofNat_of_lt' (by simp [UInt8.size]; omega)]; omega
    simp only [byteD, this]
  exact ⟨az, by rw [hc], by simpa using hl⟩
theorem one_arg {P : Program} {t : TypeId} {xs : List D} (h : HasTs P [t] xs) : ∃ x, xs = [x] ∧ HasT P t x := by
  cases xs with
  | nil => exact h.elim
  | cons x r => cases r with
    | nil => exact ⟨x, rfl, h.1⟩
    | cons y r => exact h.2.elim
theorem two_args {P : Program} {t u : TypeId} {xs : List D} (h : HasTs P [t, u] xs) : ∃ x y, xs = [x, y] ∧ HasT P t x ∧ HasT P u y := by
  cases xs with
  | nil => exact h.elim
  | cons x r =>
    obtain ⟨y, rfl, h2⟩ := one_arg h.2
    exact ⟨x, y, rfl, h.1, h2⟩
theorem three_args {P : Program} {t u v : TypeId} {xs : List D} (h : HasTs P [t, u, v] xs) : ∃ x y z, xs = [x, y, z] ∧ HasT P t x ∧ HasT P u y ∧ HasT P v z := by
  cases xs with
  | nil => exact h.elim
  | cons x r =>
    obtain ⟨y, z, rfl, h2, h3⟩ := two_args h.2
    exact ⟨x, y, z, rfl, h.1, h2, h3⟩
end Go.Fw
namespace Go.Fw
open Go Go.ChangeShapes Go.WideShapes Go.ChangeAt Go.RowKit
open Go.ChangeMaps (open_string shut_string)
set_option linter.unusedVariables false
set_option linter.unusedSimpArgs false
mutual
def bulkD : D → Nat
  | .str s => s.size + 1
  | .sl _ l => bulkDl l + 1
  | .agg l => bulkDl l + 1
  | _ => 1
def bulkDl : List D → Nat
  | [] => 0
  | x :: r => bulkD x + bulkDl r
end
mutual
def bulkW {H : Type} : DataW H → Nat
  | .lit (.string bytes) => bytes.length + 1
  | .lit _ => 1
  | .nil => 1
  | .ptr d => bulkW d + 1
  | .slice elems spare => bulkWl elems + bulkWl spare + 1
  | .agg parts => bulkWl parts + 1
  | .iface _ d => bulkW d + 1
  | .map entries => bulkWm entries + 1
  | .held _ => 1
def bulkWl {H : Type} : List (DataW H) → Nat
  | [] => 0
  | d :: r => bulkW d + bulkWl r
def bulkWm {H : Type} : List (Lit × DataW H) → Nat
  | [] => 0
  | x :: r => bulkWe x + bulkWm r
def bulkWe {H : Type} : Lit × DataW H → Nat
  | (.string bytes, d) => bytes.length + bulkW d + 1
  | (_, d) => bulkW d + 1
end
theorem bulkWl_sum {H : Type} : ∀ l : List (DataW H), (l.map bulkW).sum = bulkWl l
  | [] => rfl
  | d :: r => by simp only [List.map_cons, List.sum_cons, bulkWl, bulkWl_sum r]
def sumB (β : Nat → Nat) (i : Nat) : Nat → Nat
  | 0 => 0
  | n + 1 => β i + sumB β (i + 1) n
theorem sumB_list : ∀ (l : List Nat) (n : Nat), n = l.length → sumB (fun j => l.getD j 0) 0 n = l.sum := by
  have h : ∀ (l : List Nat) (n i : Nat) (r : List Nat), n = l.length → r.drop i = l → sumB (fun j => r.getD j 0) i n = l.sum := by
    intro l
    induction l with
    | nil => intro n i r hn _; subst hn; rfl
    | cons x l ih =>
      intro n i r hn hr
      subst hn
      simp only [List.length_cons, sumB, List.sum_cons]
      have h1 : r.getD i 0 = x := by
        have := congrArg (fun l => l[0]?) hr
        simp at this
        rw [List.getD_eq_getElem?_getD, this]
        rfl
      have h2 : r.drop (i + 1) = l := by
        have := congrArg (List.drop 1) hr
        rw [List.drop_drop] at this
        simpa using this
      rw [h1, ih l.length (i + 1) r rfl h2]
  exact fun l n hn => h l n 0 l hn rfl
section
variable {P : Program} {w : World} {H : Type} {enc : TypeId × Value → H}
 
theorem rows_ofB {sz : Nat} {a : Addr} (h0 : 0 < sz) {E : D → Prop} {β : Nat → Nat} : ∀ (n i : Nat), (∀ j, i ≤ j → j < i + n → ∃ x cs, (E x ∧ bulkD x ≤ β j) ∧ cs.length = sz ∧ Cells w (a.add (j * sz)) cs ∧ DRc w (fun b => b < w.heap.size) x cs) →
    ∃ l cs, (l.length = n ∧ bulkDl l ≤ sumB β i n) ∧ (∀ x ∈ l, E x) ∧ Cells w (a.add (i * sz)) cs ∧ DRr w (fun b => b < w.heap.size) sz l cs
  | 0, i, h => ⟨[], [], ⟨rfl, by simp [bulkDl]⟩, by simp, fun j v hv => by simp at hv, by simp [DRr]⟩
  | n + 1, i, h => by
    obtain ⟨x, c1, hE, hl, hc, hd⟩ := h i (Nat.le_refl _) (by omega)
    obtain ⟨l, c2, ⟨h1, hb⟩, h2, h3, h4⟩ := rows_ofB h0 n (i + 1) (fun j hj hj' => h j (by omega) (by omega))
    refine ⟨x :: l, c1 ++ c2, ⟨by simp [h1], by simp only [bulkDl, sumB]; omega⟩, fun y hy => ?_, fun j v hv => ?_, ?_⟩
    · rcases List.mem_cons.1 hy with rfl | hy
      · exact hE.1
      · exact h2 y hy
    · by_cases hj : j < c1.length
      · rw [List.getElem?_append_left hj] at hv
        exact hc j v hv
      · rw [List.getElem?_append_right (by omega)] at hv
        have := h3 (j - c1.length) v hv
        rw [add_add] at this ⊢
        have e : (i + 1) * sz + (j - c1.length) = i * sz + j := by rw [Nat.add_mul, Nat.one_mul]; omega
        rwa [e] at this
    · simp only [DRr]
      exact ⟨c1, c2, rfl, hl, hd, h4⟩
theorem fields_ofB : ∀ (cs : List Value) (k : Nat) (fs : List Field) (bs : List Nat), bs.length = cs.length → (∀ (i : Nat) (v : Value), cs[i]? = some v → ∃ (f : Field) (x : D), fs[i]? = some f ∧ (HasT P f.type x ∧ bulkD x ≤ bs.getD i 0) ∧ x.isAgg = false ∧ DRc w (fun b => b < w.heap.size) x [v]) →
    ∃ l, (l.length = cs.length ∧ bulkDl l ≤ bs.sum) ∧ (∀ (i : Nat) (f : Field) (x : D), fs[i]? = some f → l[i]? = some x → HasT P f.type x) ∧ DRl w (fun b => b < w.heap.size) l cs
  | [], k, fs, bs, hb, h => ⟨[], ⟨rfl, by simp [bulkDl]⟩, by simp, by simp [DRl]⟩
  | v :: cs, k, fs, [], hb, h => by simp at hb
  | v :: cs, k, [], b :: bs, hb, h => by
    obtain ⟨f, x, h1, _⟩ := h 0 v rfl
    simp at h1
  | v :: cs, k, f :: fs, b :: bs, hb, h => by
    obtain ⟨f', x, h1, h2, h3, h4⟩ := h 0 v rfl
    simp at h1
    subst h1
    obtain ⟨l, ⟨k1, kb⟩, k2, k3⟩ := fields_ofB cs k fs bs (by simpa using hb) (fun i v hv => by simpa using h (i + 1) v (by simpa using hv))
    refine ⟨x :: l, ⟨by simp [k1], by simp only [bulkDl, List.sum_cons]; have := h2.2; simp at this; omega⟩, fun i g y hg hy => ?_, ?_⟩
    · cases i with
      | zero => simp at hg hy; subst hg; subst hy; exact h2.1
      | succ i => exact k2 i g y (by simpa using hg) (by simpa using hy)
    · simp only [DRl]
      exact ⟨v, cs, rfl, h3, h4, k3⟩
theorem trod_openB {L : List TypeId} (hL : L.all (locT P L) = true) : ∀ (fuel : Nat) (t : TypeId) (cs : List Value) (d : DataW H) (ps : List MemPlace), t ∈ L → DataW.trod enc P w 0 (fun _ => true) true fuel t cs = some (d, ps) →
    ∃ x, (HasT P t x ∧ bulkD x ≤ bulkW d) ∧ DRc w (fun b => b < w.heap.size) x cs
  | 0, t, cs, d, ps, ht, h => by simp [DataW.trod] at h
  | fuel + 1, t, cs, d, ps, ht, h => by
    have hloc := List.all_eq_true.1 hL t ht
    unfold locT at hloc
    split at hloc
    · rename_i hu
      obtain ⟨b, rfl, hx⟩ := DataW.trod_bool hu h
      simp only [Prod.mk.injEq] at hx
      exact ⟨.bool b, ⟨.bool b hu, by rw [hx.1]; simp [bulkD, bulkW]⟩, by simp [DRc]⟩
    · rename_i k hu
      obtain ⟨n, rfl, hx, hw⟩ := DataW.trod_int hu h
      simp only [Prod.mk.injEq] at hx
      exact ⟨.int k n, ⟨.int n hu hw, by rw [hx.1]; simp [bulkD, bulkW]⟩, by simp [DRc]⟩
    · rename_i hu
      obtain ⟨s, rfl, hx, hs⟩ := DataW.trod_string hu h
      simp only [Prod.mk.injEq] at hx
      exact ⟨.str s, ⟨.str s hu hs, by rw [hx.1]; simp only [bulkD, bulkW]; exact Nat.le_refl _⟩, by simp [DRc]⟩
    · rename_i e hu
      simp only [Bool.and_eq_true, List.contains_eq_mem, decide_eq_true_eq] at hloc
      obtain ⟨heL, h0⟩ := hloc
      rcases DataW.trod_slice hu h with ⟨rfl, hx⟩ | ⟨a, len, cap, elems, rest, n, hfu, rfl, hx, _, hlc, hcm, hel, helems, _⟩
      · simp only [Prod.mk.injEq] at hx
        refine ⟨.sl (P.cellsOf e) [], ⟨.sl [] hu (Nat.zero_le _) (by simp), by rw [hx.1]; simp [bulkD, bulkDl, bulkW]⟩, ?_⟩
        simp only [DRc]
        exact ⟨none, 0, rfl, Nat.le_refl _, Nat.zero_le _, .inl trivial⟩
      · cases hfu
        simp only [Prod.mk.injEq] at hx
        obtain ⟨l, cs, ⟨h1, hb⟩, h2, h3, h4⟩ := rows_ofB (w := w) (a := a) (sz := P.cellsOf e) h0 (E := HasT P e) (β := fun j => ((elems.map (·.1)).map bulkW).getD j 0) len 0 (fun j _ hj => by
          have hj' : j < len := by omega
          have he := helems j hj'
          cases hc : w.cells? 0 (a.add (j * P.cellsOf e)) (P.cellsOf e) with
          | none =>
            rw [hc] at he
            simp only [Option.bind_none] at he
            have := List.getElem?_eq_none_iff.1 he.symm
            omega
          | some c1 =>
            rw [hc] at he
            simp only [Option.bind_some] at he
            obtain ⟨g1, g2⟩ := cells?_spec hc
            have hlt : j < elems.length := by omega
            rw [List.getElem?_eq_getElem hlt] at he
            obtain ⟨x, k1, k2⟩ := trod_openB hL fuel e c1 _ _ heL he
            exact ⟨x, c1, ⟨k1.1, by simp only [List.getD_eq_getElem?_getD, List.getElem?_map, List.getElem?_eq_getElem hlt, Option.map_some, Option.getD_some]; exact k1.2⟩, g1, g2, k2⟩)
        refine ⟨.sl (P.cellsOf e) l, ⟨.sl l hu (by omega) h2, by
          rw [hx.1]
          simp only [bulkD, bulkW]
          have h9 := sumB_list ((elems.map (·.1)).map bulkW) len (by simp; omega)
          have h8 := bulkWl_sum (elems.map (·.1))
          omega⟩, ?_⟩
        simp only [DRc]
        refine ⟨some a, cap, by rw [h1], by omega, hcm, ?_⟩
        rcases Nat.eq_zero_or_pos len with hz | hz
        · exact .inl (List.eq_nil_of_length_eq_zero (by omega))
        · refine .inr ⟨a, cs, rfl, ?_, ?_, h4⟩
          · have hcl : cs.length = l.length * P.cellsOf e := h4.length
            have hpos : 0 < cs.length := by rw [hcl, h1]; exact Nat.mul_pos hz h0
            have := h3 0 cs[0] (by simp [hpos])
            have hb := block_of_cell this
            simpa [add_block] using hb
          · have e0 : a.add (0 * P.cellsOf e) = a := by simp [Addr.add]
            rwa [e0] at h3
    · rename_i fs hu
      simp only [Bool.and_eq_true, List.all_eq_true, List.mem_range, beq_iff_eq] at hloc
      obtain ⟨hfs, hsz⟩ := hloc
      obtain ⟨xs, n, hfu, hxd, hlen, hxl, hx⟩ := DataW.trod_struct hu h
      cases hfu
      simp only [Prod.mk.injEq] at hxd
      obtain ⟨l, ⟨h1, hb⟩, h2, h3⟩ := fields_ofB (P := P) (w := w) cs 0 fs.toList ((xs.map (·.1)).map bulkW) (by simp; omega) (fun i v hv => by
        have hi : i < fs.size := by
          have := (List.getElem?_eq_some_iff.1 hv).1
          omega
        have hf := hfs i hi
        have e : fs[i]? = some fs[i] := Array.getElem?_eq_getElem hi
        rw [e] at hf
        simp only [Bool.and_eq_true, beq_iff_eq, List.contains_eq_mem, decide_eq_true_eq] at hf
        obtain ⟨⟨⟨ho, hc⟩, hm⟩, ha⟩ := hf
        have hxi := hx i fs[i] e
        rw [ho, hc] at hxi
        have hd : (cs.drop i).take 1 = [v] := by
          have hil := (List.getElem?_eq_some_iff.1 hv)
          obtain ⟨g1, g2⟩ := hil
          rw [List.drop_eq_getElem_cons g1, g2]
          simp
        rw [hd] at hxi
        have hlt : i < xs.length := by omega
        rw [List.getElem?_eq_getElem hlt] at hxi
        obtain ⟨x, k1, k2⟩ := trod_openB hL fuel fs[i].type [v] _ _ hm hxi
        exact ⟨fs[i], x, by simp [hi], ⟨k1.1, by simp only [List.getD_eq_getElem?_getD, List.getElem?_map, List.getElem?_eq_getElem hlt, Option.map_some, Option.getD_some]; exact k1.2⟩, isAgg_of_hasT k1.1 ha, k2⟩)
      refine ⟨.agg l, ⟨.agg l hu (by omega) (fun i f x hf hx => h2 i f x (by simpa using hf) hx), by
        rw [hxd.1]
        simp only [bulkD, bulkW]
        have h8 := bulkWl_sum (xs.map (·.1))
        omega⟩, ?_⟩
      simp only [DRc]
      exact h3
    · cases hloc
theorem open_allB {L : List TypeId} (hL : L.all (locT P L) = true) {r : Reach} {b0 : Nat} : ∀ (ts : List TypeId) (vs : List Value) (ds : List (DataW H)) (ps : List MemPlace), ts.all (fun t => L.contains t) = true → DataW.TrodAll enc P w 0 (fun _ => true) true ts vs ds ps →
    (∀ (j : Nat) t v, ts[j]? = some t → vs[j]? = some v → Value.okWide P w r b0 t v) → ∃ xs, (HasTs P ts xs ∧ bulkDl xs ≤ bulkWl ds) ∧ CRl w (fun b => b < w.heap.size) (xs.map CV.d) vs []
  | [], vs, ds, ps, hs, h, hv => by
    obtain ⟨rfl, rfl, rfl⟩ := trodAll_nil h
    exact ⟨[], ⟨trivial, Nat.zero_le _⟩, by simp [CRl]⟩
  | t :: ts, vs, ds, ps, hs, h, hv => by
    obtain ⟨v, vs', d, ds', p, q, rfl, rfl, rfl, h1, h2⟩ := trodAll_cons h
    simp only [List.all_cons, Bool.and_eq_true, List.contains_eq_mem, decide_eq_true_eq] at hs
    obtain ⟨fuel, hf⟩ := h1
    obtain ⟨x, k1, k2⟩ := trod_openB hL fuel t _ _ _ hs.1 hf
    obtain ⟨xs, k3, k4⟩ := open_allB hL ts vs' ds' q (by simpa using hs.2) h2 (fun j t' v' ht hv' => hv (j + 1) t' v' (by simpa using ht) (by simpa using hv'))
    refine ⟨x :: xs, ⟨⟨k1.1, k3.1⟩, ?_⟩, ?_⟩
    · have := k1.2
      have := k3.2
      simp only [bulkDl, bulkWl]
      omega
    · simp only [List.map_cons, CRl, CR]
      exact ⟨v, vs', [], [], rfl, ⟨DRv_open k1.1 (hv 0 t v rfl rfl) k2, rfl⟩, k4, rfl⟩
 
theorem law_callsB {L : List TypeId} (hL : L.all (locT P L) = true) (hl : laidOutB P = true) {g : FuncId} {fn : Func} (hfn : P.funcs[g]? = some fn) (hname : (fn.name == "runtime.NumGoroutine") = false) (hb : fn.body.isSome = true)
    (hin : fn.params.toList.all (fun t => L.contains t) = true) (hrec : fn.params.toList.all (fun t => P.readableRec t && decide (t < P.types.size)) = true) {m : Nat}
    (hlaw : ∀ xs, HasTs P fn.params.toList xs → bulkDl xs ≤ m → Has P g (xs.map CV.d) (fun rs _ => rs = [.d (.bool true)])) {W : World} {base : Nat} {args : Array Value} {ds : List (DataW H)} {p : List MemPlace}
    (hval : ∀ (j : Nat) t v, fn.params[j]? = some t → args[j]? = some v → Value.okWide P W .any base t v) (hA : DataW.TrodAll enc P W 0 (fun _ => true) true fn.params.toList args.toList ds p) (hm : bulkWl ds ≤ m) (hG : TabsG (fun b => b < W.heap.size) W) (hV : VarsG (fun b => b < W.heap.size) W) :
    Calls P g args W fun e W' => e = .returned (.bool true) ∧ Below W.heap.size W W' ∧ DataW.TrodAll enc P W' 0 (fun b => decide (b < W.heap.size)) true fn.params.toList args.toList ds p := by
  obtain ⟨xs, h1, h2⟩ := open_allB hL _ _ _ _ hin hA (fun j t v ht hv => hval j t v (by simpa using ht) (by simpa using hv))
  have hc := calls_of_has hfn hname hb (hlaw xs h1.1 (Nat.le_trans h1.2 hm)) h2 hG hV
  have e : args.toList.toArray = args := by simp
  rw [e] at hc
  refine hc.mono fun en W' he => ?_
  cases en with
  | returned v =>
    obtain ⟨rs, bs, F', vr, f1, f2, rfl, hl'⟩ := he
    have hr := hl'.rs
    simp only [CRl, CR, DRv, DRc] at hr
    obtain ⟨v', vs', g1, g2, rfl, ⟨hv, _⟩, ⟨rfl, _⟩, _⟩ := hr
    have hv' := hl'.res
    simp only [Rv] at hv'
    simp only [List.cons.injEq, and_true] at hv
    subst hv
    subst hv'
    have bel : Below W.heap.size W W' := ⟨hl'.os, hl'.tape, hl'.output, hl'.size, fun k hk => hl'.keep k hk (by simp)⟩
    exact ⟨rfl, bel, trodAll_stays hl bel _ _ _ _ hrec hA⟩
  | panicked c => exact he.elim
  | outgrown => exact he.elim
end
end Go.Fw
namespace Go.Fw
open Go
set_option linter.unusedVariables false
set_option linter.unusedSimpArgs false
theorem Has.weaken {P : Program} {g : FuncId} {args args' : List CV} {R : List CV → List CV → Prop} (h : Has P g args' R) (hc : ∀ w F vs fp, CRl w F args vs fp → CRl w F args' vs fp) : Has P g args R :=
  ⟨fun F w vs fp h1 h2 h3 h4 => h.con F w vs fp (hc w F vs fp h1) h2 h3 h4⟩
theorem CRl.consI {w : World} {F : Nat → Prop} {x y : CV} {r q : List CV} (h1 : ∀ v fp, CR w F x v fp → CR w F y v fp) (h2 : ∀ vs fp, CRl w F r vs fp → CRl w F q vs fp) : ∀ vs fp, CRl w F (x :: r) vs fp → CRl w F (y :: q) vs fp := by
  intro vs fp h
  simp only [CRl] at h ⊢
  obtain ⟨v, vs', f1, f2, e1, k1, k2, e2⟩ := h
  exact ⟨v, vs', f1, f2, e1, h1 _ _ k1, h2 _ _ k2, e2⟩
theorem CR.nilI {w : World} {F : Nat → Prop} {z z' : Nat} : ∀ v fp, CR w F (.d (.sl z [])) v fp → CR w F (.d (.sl z' [])) v fp := by
  intro v fp h
  simp only [CR, DRv, DRc] at h ⊢
  obtain ⟨⟨A, c, h1, h2, h3, _⟩, h5⟩ := h
  exact ⟨⟨A, c, h1, h2, h3, .inl trivial⟩, h5⟩
theorem CRl_gones {w : World} {F : Nat → Prop} : ∀ (args : List CV) (vs : List Value), vs.length = args.length → CRl w F (args.map fun _ => CV.gone) vs []
  | [], vs, h => by
    rw [List.eq_nil_of_length_eq_zero h]
    simp [CRl]
  | x :: r, [], h => by simp at h
  | x :: r, v :: vs, h => by
    simp only [List.map_cons, CRl, CR]
    exact ⟨v, vs, [], [], rfl, rfl, CRl_gones r vs (by simpa using h), rfl⟩
theorem CRl.len {w : World} {F : Nat → Prop} : ∀ {l : List CV} {vs : List Value} {fp : List Nat}, CRl w F l vs fp → vs.length = l.length
  | [], vs, fp, h => by simp only [CRl] at h; simp [h.1]
  | x :: r, vs, fp, h => by
    simp only [CRl] at h
    obtain ⟨v, vs', f1, f2, rfl, _, h2, _⟩ := h
    simp [h2.len]
 
theorem Has.gone {P : Program} {g : FuncId} {args : List CV} {R : List CV → List CV → Prop} (h : Has P g args R) : Has P g args (fun rs bs => (∃ az, R rs az) ∧ bs = args.map fun _ => CV.gone) := by
  constructor
  intro F w vs fp h1 h2 h3 h4
  have hl := h1.len
  have key : ∀ v w', (∃ rs az F' vr f1 f2, R rs az ∧ Left F w vs fp rs az v w' F' vr f1 f2) → ∃ rs az F' vr f1 f2, ((∃ az, R rs az) ∧ az = args.map fun _ => CV.gone) ∧ Left F w vs fp rs az v w' F' vr f1 f2 := by
    rintro v w' ⟨rs, az, F', vr, f1, f2, hr, l⟩
    refine ⟨rs, _, F', vr, f1, [], ⟨⟨az, hr⟩, rfl⟩, l.res, l.rs, CRl_gones args vs hl, ?_, fun b hb => l.sep b (by simp at hb; simp [hb]), l.lt, l.sub, l.keep, fun b hb => l.new b (hb.imp id fun h => by simp at h; simp [h]), l.os, l.tape, l.output, l.size⟩
    rw [List.append_nil]
    exact (List.nodup_append.1 l.nodup).1
  have := h.con F w vs fp h1 h2 h3 h4
  unfold Enters at this ⊢
  split at this
  · exact key _ _ this
  · refine this.mono fun e w' he => ?_
    cases e
    · exact key _ _ he
    · exact he
    · exact he
  · exact this.mono fun v w' he => key _ _ he
  · exact this.elim
mutual
 
def D.norm : D → D
  | .sl z l => .sl (if l.isEmpty then 0 else z) (norms l)
  | .ptr x => .ptr x.norm
  | .agg l => .agg (norms l)
  | .clo fn f c => .clo fn (norms f) (norms c)
  | .int k n => .int k n
  | .bool b => .bool b
  | .str s => .str s
  | .nilp => .nilp
  | .nilm => .nilm
  | .nilf => .nilf
def norms : List D → List D
  | [] => []
  | x :: r => x.norm :: norms r
end
theorem norms_len : ∀ l : List D, (norms l).length = l.length
  | [] => rfl
  | x :: r => by simp only [norms, List.length_cons, norms_len r]
theorem norm_agg : ∀ x : D, x.norm.isAgg = x.isAgg
  | .sl .. => rfl
  | .ptr _ => rfl
  | .agg _ => rfl
  | .clo .. => rfl
  | .int .. => rfl
  | .bool _ => rfl
  | .str _ => rfl
  | .nilp => rfl
  | .nilm => rfl
  | .nilf => rfl
mutual
theorem DRc_norm {w : World} {F : Nat → Prop} : ∀ (x : D) (vs : List Value), DRc w F x.norm vs ↔ DRc w F x vs
  | .sl z [], vs => by
    simp only [D.norm, norms, DRc]
    exact ⟨fun ⟨A, c, h1, h2, h3, _⟩ => ⟨A, c, h1, h2, h3, .inl trivial⟩, fun ⟨A, c, h1, h2, h3, _⟩ => ⟨A, c, h1, h2, h3, .inl trivial⟩⟩
  | .sl z (x :: r), vs => by
    have e := DRr_norm (w := w) (F := F) z (x :: r)
    have hl := norms_len (x :: r)
    simp only [D.norm, DRc, List.isEmpty_cons, Bool.false_eq_true, if_false, hl]
    have hne : norms (x :: r) ≠ [] := by simp [norms]
    constructor
    · rintro ⟨A, c, h1, h2, h3, h4⟩
      refine ⟨A, c, h1, h2, h3, ?_⟩
      rcases h4 with h4 | ⟨ad, cs, k1, k2, k3, k4⟩
      · exact absurd h4 hne
      · exact .inr ⟨ad, cs, k1, k2, k3, (e cs).1 k4⟩
    · rintro ⟨A, c, h1, h2, h3, h4⟩
      refine ⟨A, c, h1, h2, h3, ?_⟩
      rcases h4 with h4 | ⟨ad, cs, k1, k2, k3, k4⟩
      · cases h4
      · exact .inr ⟨ad, cs, k1, k2, k3, (e cs).2 k4⟩
  | .ptr x, vs => by
    simp only [D.norm, DRc]
    exact ⟨fun ⟨ad, cs, h1, h2, h3, h4⟩ => ⟨ad, cs, h1, h2, h3, (DRc_norm x cs).1 h4⟩, fun ⟨ad, cs, h1, h2, h3, h4⟩ => ⟨ad, cs, h1, h2, h3, (DRc_norm x cs).2 h4⟩⟩
  | .agg l, vs => by simp only [D.norm, DRc]; exact DRl_norm l vs
  | .clo fn f c, vs => by
    simp only [D.norm, DRc]
    exact ⟨fun ⟨fv, cv, h1, h2, h3⟩ => ⟨fv, cv, h1, (DRl_norm f _).1 h2, (DRl_norm c _).1 h3⟩, fun ⟨fv, cv, h1, h2, h3⟩ => ⟨fv, cv, h1, (DRl_norm f _).2 h2, (DRl_norm c _).2 h3⟩⟩
  | .int k n, vs => by simp only [D.norm]
  | .bool b, vs => by simp only [D.norm]
  | .str s, vs => by simp only [D.norm]
  | .nilp, vs => by simp only [D.norm]
  | .nilm, vs => by simp only [D.norm]
  | .nilf, vs => by simp only [D.norm]
theorem DRl_norm {w : World} {F : Nat → Prop} : ∀ (l : List D) (vs : List Value), DRl w F (norms l) vs ↔ DRl w F l vs
  | [], vs => by simp only [norms]
  | x :: r, vs => by
    simp only [norms, DRl, norm_agg x]
    exact ⟨fun ⟨v, vs', h1, h2, h3, h4⟩ => ⟨v, vs', h1, h2, (DRc_norm x _).1 h3, (DRl_norm r _).1 h4⟩, fun ⟨v, vs', h1, h2, h3, h4⟩ => ⟨v, vs', h1, h2, (DRc_norm x _).2 h3, (DRl_norm r _).2 h4⟩⟩
theorem DRr_norm {w : World} {F : Nat → Prop} (z : Nat) : ∀ (l : List D) (vs : List Value), DRr w F z (norms l) vs ↔ DRr w F z l vs
  | [], vs => by simp only [norms]
  | x :: r, vs => by
    simp only [norms, DRr]
    exact ⟨fun ⟨a, b, h1, h2, h3, h4⟩ => ⟨a, b, h1, h2, (DRc_norm x _).1 h3, (DRr_norm z r _).1 h4⟩, fun ⟨a, b, h1, h2, h3, h4⟩ => ⟨a, b, h1, h2, (DRc_norm x _).2 h3, (DRr_norm z r _).2 h4⟩⟩
end
theorem DRv_norm {w : World} {F : Nat → Prop} (x : D) (v : Value) : DRv w F x.norm v ↔ DRv w F x v := by
  cases x with
  | agg l =>
    simp only [D.norm, DRv]
    exact ⟨fun ⟨cs, h1, h2⟩ => ⟨cs, h1, (DRl_norm l _).1 h2⟩, fun ⟨cs, h1, h2⟩ => ⟨cs, h1, (DRl_norm l _).2 h2⟩⟩
  | sl z l => exact DRc_norm (w := w) (F := F) (.sl z l) [v]
  | ptr x => exact DRc_norm (w := w) (F := F) (.ptr x) [v]
  | clo fn f c => exact DRc_norm (w := w) (F := F) (.clo fn f c) [v]
  | int k n => exact DRc_norm (w := w) (F := F) (.int k n) [v]
  | bool b => exact DRc_norm (w := w) (F := F) (.bool b) [v]
  | str s => exact DRc_norm (w := w) (F := F) (.str s) [v]
  | nilp => exact DRc_norm (w := w) (F := F) .nilp [v]
  | nilm => exact DRc_norm (w := w) (F := F) .nilm [v]
  | nilf => exact DRc_norm (w := w) (F := F) .nilf [v]
def CV.norm : CV → CV
  | .d x => .d x.norm
  | x => x
theorem CR_norm {w : World} {F : Nat → Prop} (x : CV) (v : Value) (fp : List Nat) : CR w F x.norm v fp ↔ CR w F x v fp := by
  cases x with
  | d x => simp only [CV.norm, CR, DRv_norm x v]
  | _ => rfl
theorem CRl_norm {w : World} {F : Nat → Prop} : ∀ (l : List CV) (vs : List Value) (fp : List Nat), CRl w F (l.map CV.norm) vs fp ↔ CRl w F l vs fp
  | [], vs, fp => by simp only [List.map_nil]
  | x :: r, vs, fp => by
    simp only [List.map_cons, CRl]
    exact ⟨fun ⟨v, vs', f1, f2, h1, h2, h3, h4⟩ => ⟨v, vs', f1, f2, h1, (CR_norm x v f1).1 h2, (CRl_norm r vs' f2).1 h3, h4⟩, fun ⟨v, vs', f1, f2, h1, h2, h3, h4⟩ => ⟨v, vs', f1, f2, h1, (CR_norm x v f1).2 h2, (CRl_norm r vs' f2).2 h3, h4⟩⟩
theorem Has.norm {P : Program} {g : FuncId} {args args' : List CV} {R : List CV → List CV → Prop} (h : Has P g args' R) (e : args.map CV.norm = args'.map CV.norm) : Has P g args R :=
  h.weaken fun w F vs fp hc => (CRl_norm args' vs fp).1 (e ▸ (CRl_norm args vs fp).2 hc)
end Go.Fw
