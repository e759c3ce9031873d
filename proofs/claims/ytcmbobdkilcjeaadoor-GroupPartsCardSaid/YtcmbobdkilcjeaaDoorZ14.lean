/- What the proofs of this seat lean on, part 14: a symbolic machine that is shown sound, walks through functions, plain laws. -/
import Derived.Test.YtcmbobdkilcjeaaDoorZ13
import Derived.Carry
namespace Go.Fw
open Go Go.ChangeShapes Go.WideShapes Go.ChangeAt Go.RowKit
open Go.ChangeMaps (open_string shut_string)
set_option linter.unusedVariables false
set_option linter.unusedSimpArgs false
def HasTs (P : Program) : List TypeId → List D → Prop
  | [], [] => True
  | t :: ts, x :: xs => HasT P t x ∧ HasTs P ts xs
  | _, _ => False
section
variable {P : Program} {w : World} {H : Type} {enc : TypeId × Value → H}
theorem DRv_open {t : TypeId} {x : D} {v : Value} {F : Nat → Prop} {r : Reach} {b0 : Nat} (h : HasT P t x) (hv : Value.okWide P w r b0 t v) (hd : DRc w F x v.cells.toList) : DRv w F x v := by
  cases h with
  | bool b hu =>
    obtain ⟨b', rfl⟩ := okWide_bool hu hv
    simpa [DRv, Value.cells] using hd
  | int n hu hw =>
    obtain ⟨n', rfl⟩ := okWide_int hu hv
    simpa [DRv, Value.cells] using hd
  | str s hu hs =>
    obtain ⟨s', rfl⟩ := okWide_string hu hv
    simpa [DRv, Value.cells] using hd
  | sl l hu hm he =>
    obtain ⟨a, n, c, rfl⟩ := okWide_slice hu hv
    simpa only [DRv, Value.cells] using hd
  | agg l hu hl he =>
    simp only [Value.okWide, hu] at hv
    obtain ⟨cs, rfl, _⟩ := hv
    simp only [DRv]
    simp only [DRc, Value.cells] at hd
    exact ⟨cs, rfl, hd⟩
theorem open_all {L : List TypeId} (hL : L.all (locT P L) = true) {r : Reach} {b0 : Nat} : ∀ (ts : List TypeId) (vs : List Value) (ds : List (DataW H)) (ps : List MemPlace), ts.all (fun t => L.contains t) = true → DataW.TrodAll enc P w 0 (fun _ => true) true ts vs ds ps →
    (∀ (j : Nat) t v, ts[j]? = some t → vs[j]? = some v → Value.okWide P w r b0 t v) → ∃ xs, HasTs P ts xs ∧ CRl w (fun b => b < w.heap.size) (xs.map CV.d) vs []
  | [], vs, ds, ps, hs, h, hv => by
    obtain ⟨rfl, rfl, rfl⟩ := trodAll_nil h
    exact ⟨[], trivial, by simp [CRl]⟩
  | t :: ts, vs, ds, ps, hs, h, hv => by
    obtain ⟨v, vs', d, ds', p, q, rfl, rfl, rfl, h1, h2⟩ := trodAll_cons h
    simp only [List.all_cons, Bool.and_eq_true, List.contains_eq_mem, decide_eq_true_eq] at hs
    obtain ⟨fuel, hf⟩ := h1
    obtain ⟨x, k1, k2⟩ := trod_open hL fuel t _ _ _ hs.1 hf
    obtain ⟨xs, k3, k4⟩ := open_all hL ts vs' ds' q (by simpa using hs.2) h2 (fun j t' v' ht hv' => hv (j + 1) t' v' (by simpa using ht) (by simpa using hv'))
    refine ⟨x :: xs, ⟨k1, k3⟩, ?_⟩
    simp only [List.map_cons, CRl, CR]
    exact ⟨v, vs', [], [], rfl, ⟨DRv_open k1 (hv 0 t v rfl rfl) k2, rfl⟩, k4, rfl⟩
theorem trodAll_stays (hl : laidOutB P = true) {W W' : World} (hb : Below W.heap.size W W') : ∀ (ts : List TypeId) (vs : List Value) (ds : List (DataW H)) (ps : List MemPlace), ts.all (fun t => P.readableRec t && decide (t < P.types.size)) = true → DataW.TrodAll enc P W 0 (fun _ => true) true ts vs ds ps →
    DataW.TrodAll enc P W' 0 (fun b => decide (b < W.heap.size)) true ts vs ds ps
  | [], vs, ds, ps, hs, h => by
    obtain ⟨rfl, rfl, rfl⟩ := trodAll_nil h
    exact rfl
  | t :: ts, vs, ds, ps, hs, h => by
    obtain ⟨v, vs', d, ds', p, q, rfl, rfl, rfl, h1, h2⟩ := trodAll_cons h
    simp only [List.all_cons, Bool.and_eq_true, decide_eq_true_eq] at hs
    have hlt : ∀ x ∈ p, x.block < W.heap.size := by
      obtain ⟨m, hm⟩ := h1
      exact DataW.trod_lt m _ _ _ hm
    exact trodAll_cons_mk (Below.trod hl hs.1.1 hs.1.2 h1 hb hlt) (trodAll_stays hl hb ts vs' ds' q (by simpa using hs.2) h2)
theorem calls_of_has {g : FuncId} {fn : Func} {args : List CV} {R : List CV → List CV → Prop} (hfn : P.funcs[g]? = some fn) (hname : (fn.name == "runtime.NumGoroutine") = false) (hb : fn.body.isSome = true) (h : Has P g args R) {W : World} {vs : List Value}
    (hc : CRl W (fun b => b < W.heap.size) args vs []) (hG : TabsG (fun b => b < W.heap.size) W) (hV : VarsG (fun b => b < W.heap.size) W) : Calls P g vs.toArray W fun
      | .returned v, W' => ∃ rs bs F' vr f1 f2, R rs bs ∧ Fw.Left (fun b => b < W.heap.size) W vs [] rs bs v W' F' vr f1 f2
      | _, _ => False := by
  have := h.con (fun b => b < W.heap.size) W vs [] hc List.nodup_nil (fun b hb => by simp at hb) ⟨fun b hb => hb, hG, hV⟩
  have hrun : (callFunc g vs.toArray).run P W = .ok (.enter g vs.toArray) W := by
    unfold callFunc
    have hprog : (program : Sem Program).run P W = .ok P W := rfl
    obtain ⟨c, hc'⟩ := Option.isSome_iff_exists.1 hb
    simp only [Sem.run_bind, hprog, Result.andThen_ok, hfn, hname, Bool.false_eq_true, if_false, hc', Option.isNone_some, Sem.run_pure]
  unfold Enters at this
  rw [hrun] at this
  exact this
 
theorem law_calls {L : List TypeId} (hL : L.all (locT P L) = true) (hl : laidOutB P = true) {g : FuncId} {fn : Func} (hfn : P.funcs[g]? = some fn) (hname : (fn.name == "runtime.NumGoroutine") = false) (hb : fn.body.isSome = true)
    (hin : fn.params.toList.all (fun t => L.contains t) = true) (hrec : fn.params.toList.all (fun t => P.readableRec t && decide (t < P.types.size)) = true)
    (hlaw : ∀ xs, HasTs P fn.params.toList xs → Has P g (xs.map CV.d) (fun rs _ => rs = [.d (.bool true)])) {W : World} {base : Nat} {args : Array Value} {ds : List (DataW H)} {p : List MemPlace}
    (hval : ∀ (j : Nat) t v, fn.params[j]? = some t → args[j]? = some v → Value.okWide P W .any base t v) (hA : DataW.TrodAll enc P W 0 (fun _ => true) true fn.params.toList args.toList ds p) (hG : TabsG (fun b => b < W.heap.size) W) (hV : VarsG (fun b => b < W.heap.size) W) :
    Calls P g args W fun e W' => e = .returned (.bool true) ∧ Below W.heap.size W W' ∧ DataW.TrodAll enc P W' 0 (fun b => decide (b < W.heap.size)) true fn.params.toList args.toList ds p := by
  obtain ⟨xs, h1, h2⟩ := open_all hL _ _ _ _ hin hA (fun j t v ht hv => hval j t v (by simpa using ht) (by simpa using hv))
  have hc := calls_of_has hfn hname hb (hlaw xs h1) h2 hG hV
  have e : args.toList.toArray = args := by simp
  rw [e] at hc
  refine hc.mono fun en W' he => ?_
  cases en with
  | returned v =>
    obtain ⟨rs, bs, F', vr, f1, f2, rfl, hl'⟩ := he
    have hr := hl'.rs
    simp only [CRl, CR, DRv, DRc] at hr
    obtain ⟨v', vs', g1, g2, rfl, ⟨hv, _⟩, ⟨rfl, _⟩, _⟩ := hr
    have hv' := hl'.res
    simp only [Rv] at hv'
    simp only [List.cons.injEq, and_true] at hv
    subst hv
    subst hv'
    have bel : Below W.heap.size W W' := ⟨hl'.os, hl'.tape, hl'.output, hl'.size, fun k hk => hl'.keep k hk (by simp)⟩
    exact ⟨rfl, bel, trodAll_stays hl bel _ _ _ _ hrec hA⟩
  | panicked c => exact he.elim
  | outgrown => exact he.elim
end
end Go.Fw
namespace Go.Fw
open Go
set_option linter.unusedVariables false
theorem HasT.asStr {P : Program} {t : TypeId} {x : D} (hu : P.underlying t = some .string) (h : HasT P t x) : ∃ s : ByteArray, x = .str s ∧ s.size ≤ maxLen := by
  cases h with
  | str s _ hs => exact ⟨s, rfl, hs⟩
  | bool b h1 => rw [hu] at h1; cases h1
  | int n h1 _ => rw [hu] at h1; cases h1
  | sl l h1 _ _ => rw [hu] at h1; cases h1
  | agg l h1 _ _ => rw [hu] at h1; cases h1
theorem HasT.asInt {P : Program} {t : TypeId} {x : D} {k : IntKind} (hu : P.underlying t = some (.int k)) (h : HasT P t x) : ∃ n : Int, x = .int k n ∧ (Lit.int k n).wf = true := by
  cases h with
  | str s h1 _ => rw [hu] at h1; cases h1
  | bool b h1 => rw [hu] at h1; cases h1
  | int n h1 hw => rw [hu] at h1; cases h1; exact ⟨n, rfl, hw⟩
  | sl l h1 _ _ => rw [hu] at h1; cases h1
  | agg l h1 _ _ => rw [hu] at h1; cases h1
theorem HasT.asBool {P : Program} {t : TypeId} {x : D} (hu : P.underlying t = some .bool) (h : HasT P t x) : ∃ b : Bool, x = .bool b := by
  cases h with
  | str s h1 _ => rw [hu] at h1; cases h1
  | bool b h1 => exact ⟨b, rfl⟩
  | int n h1 hw => rw [hu] at h1; cases h1
  | sl l h1 _ _ => rw [hu] at h1; cases h1
  | agg l h1 _ _ => rw [hu] at h1; cases h1
theorem HasT.asSl {P : Program} {t e : TypeId} {x : D} (hu : P.underlying t = some (.slice e)) (h : HasT P t x) : ∃ l, x = .sl (P.cellsOf e) l ∧ l.length ≤ maxLen ∧ ∀ y ∈ l, HasT P e y := by
  cases h with
  | str s h1 _ => rw [hu] at h1; cases h1
  | bool b h1 => rw [hu] at h1; cases h1
  | int n h1 hw => rw [hu] at h1; cases h1
  | sl l h1 h2 h3 => rw [hu] at h1; cases h1; exact ⟨l, rfl, h2, h3⟩
  | agg l h1 _ _ => rw [hu] at h1; cases h1
theorem HasT.asAgg {P : Program} {t : TypeId} {fs : Array Field} {x : D} (hu : P.underlying t = some (.struct fs)) (h : HasT P t x) : ∃ l, x = .agg l ∧ l.length = fs.size ∧ ∀ (i : Nat) (f : Field) (y : D), fs[i]? = some f → l[i]? = some y → HasT P f.type y := by
  cases h with
  | str s h1 _ => rw [hu] at h1; cases h1
  | bool b h1 => rw [hu] at h1; cases h1
  | int n h1 hw => rw [hu] at h1; cases h1
  | sl l h1 h2 h3 => rw [hu] at h1; cases h1
  | agg l h1 h2 h3 => rw [hu] at h1; cases h1; exact ⟨l, rfl, h2, h3⟩
 
theorem map_of {α : Type} {f : α → D} {p : α → Prop} : ∀ {l : List D}, (∀ y ∈ l, ∃ a, y = f a ∧ p a) → ∃ az : List α, l = az.map f ∧ ∀ a ∈ az, p a
  | [], _ => ⟨[], rfl, by simp⟩
  | y :: l, h => by
    obtain ⟨a, rfl, ha⟩ := h y (by simp)
    obtain ⟨az, rfl, has⟩ := map_of (l := l) fun z hz => h z (by simp [hz])
    exact ⟨a :: az, rfl, fun b hb => by
      rcases List.mem_cons.1 hb with rfl | hb
      · exact ha
      · exact has b hb⟩
theorem HasT.asStrs {P : Program} {t e : TypeId} {x : D} (hu : P.underlying t = some (.slice e)) (he : P.underlying e = some .string) (hc : P.cellsOf e = 1) (h : HasT P t x) : ∃ l : List ByteArray, x = .sl 1 (l.map D.str) ∧ l.length ≤ maxLen ∧ ∀ s ∈ l, s.size ≤ maxLen := by
  obtain ⟨l, rfl, hl, hy⟩ := h.asSl hu
  obtain ⟨az, rfl, ha⟩ := map_of (f := D.str) (p := fun s => s.size ≤ maxLen) fun y hy' => (hy y hy').asStr he
  exact ⟨az, by rw [hc], by simpa using hl, ha⟩
theorem wf_u8 {n : Int} (h : (Lit.int .u8 n).wf = true) : 0 ≤ n ∧ n < 256 := by
  simp [Lit.wf, IntKind.min, IntKind.max, IntKind.bits, IntKind.signed] at h
  omega
theorem HasT.asBytes {P : Program} {t e : TypeId} {x : D} (hu : P.underlying t = some (.slice e)) (he : P.underlying e = some (.int .u8)) (hc : P.cellsOf e = 1) (h : HasT P t x) : ∃ l : List UInt8, x = .sl 1 (l.map byteD) ∧ l.length ≤ maxLen := by
  obtain ⟨l, rfl, hl, hy⟩ := h.asSl hu
  obtain ⟨az, rfl, _⟩ := map_of (f := byteD) (p := fun _ => True) fun y hy' => by
    obtain ⟨n, rfl, hw⟩ := (hy y hy').asInt he
    obtain ⟨h0, h1⟩ := wf_u8 hw
    refine ⟨UInt8.ofNat n.toNat, ?_, trivial⟩
    have : ((UInt8.ofNat n.toNat).toNat : Int) = n := by
      rw [UInt8.toNat_ofNat_of_lt' (by simp [UInt8.size]; omega)]; omega
    simp only [byteD, this]
  exact ⟨az, by rw [hc], by simpa using hl⟩
theorem one_arg {P : Program} {t : TypeId} {xs : List D} (h : HasTs P [t] xs) : ∃ x, xs = [x] ∧ HasT P t x := by
  cases xs with
  | nil => exact h.elim
  | cons x r => cases r with
    | nil => exact ⟨x, rfl, h.1⟩
    | cons y r => exact h.2.elim
theorem two_args {P : Program} {t u : TypeId} {xs : List D} (h : HasTs P [t, u] xs) : ∃ x y, xs = [x, y] ∧ HasT P t x ∧ HasT P u y := by
  cases xs with
  | nil => exact h.elim
  | cons x r =>
    obtain ⟨y, rfl, h2⟩ := one_arg h.2
    exact ⟨x, y, rfl, h.1, h2⟩
theorem three_args {P : Program} {t u v : TypeId} {xs : List D} (h : HasTs P [t, u, v] xs) : ∃ x y z, xs = [x, y, z] ∧ HasT P t x ∧ HasT P u y ∧ HasT P v z := by
  cases xs with
  | nil => exact h.elim
  | cons x r =>
    obtain ⟨y, z, rfl, h2, h3⟩ := two_args h.2
    exact ⟨x, y, z, rfl, h.1, h2, h3⟩
end Go.Fw
