/- What the proofs of this seat lean on, part 7: a symbolic machine that is shown sound, walks through functions, plain laws. -/
import Derived.Test.YtcmbobdkilcjeaaDoorZ6
import Derived.Laws.AppendOwn
namespace Go.Fw
open Go
set_option linter.unusedVariables false
set_option linter.unusedSimpArgs false
def setB (w : World) (b : Nat) (o : Obj) : World := { w with heap := w.heap.setIfInBounds b o }
section
variable {P : Program} {F : Nat → Prop} {B : Blk} {w w' : World} {S : St} {a : Act} {N : Nat}
theorem setB_at (w : World) (b : Nat) (o : Obj) (h : b < w.heap.size) : (setB w b o).heap[b]? = some o := by simp [setB, h]
theorem setB_ne (w : World) (b i : Nat) (o : Obj) (h : i ≠ b) : (setB w b o).heap[i]? = w.heap[i]? := by
  simp only [setB]
  rw [Array.getElem?_setIfInBounds_ne (by omega)]
theorem setB_size (w : World) (b : Nat) (o : Obj) : (setB w b o).heap.size = w.heap.size := by simp [setB]
theorem setB_setB (w : World) (b : Nat) (o o' : Obj) : setB (setB w b o) b o' = setB w b o' := by simp [setB]
theorem setCell_setB {b i : Nat} {cs : Array Value} {e : Nat} {fr : Nat × Nat} (h : w.heap[b]? = some (.cells cs e fr)) (v : Value) : w.setCell ⟨b, i, none⟩ v = setB w b (.cells (cs.setIfInBounds i v) e fr) := by
  have hlt := lt_heap h
  simp only [World.setCell, setB]
  congr 1
  apply Array.ext_getElem?
  intro j
  rw [Array.getElem?_modify]
  by_cases hj : b = j
  · subst hj
    rw [if_pos rfl, h, Array.getElem?_setIfInBounds_self_of_lt hlt]
    rfl
  · rw [if_neg hj, Array.getElem?_setIfInBounds_ne hj]
theorem run_store_cell {b i : Nat} {cs : Array Value} {e : Nat} {fr : Nat × Nat} (h : w.heap[b]? = some (.cells cs e fr)) (hi : i < cs.size) (hu : Unf cs fr) {v : Value} (hv : v.oneCell' = true) :
    (store ⟨b, i, none⟩ v).run P w = .ok () (setB w b (.cells (cs.setIfInBounds i v) e fr)) := by
  rw [run_store P w _ _ _ hv, cell_at h]
  have hf : w.frozen? ⟨b, i, none⟩ = false := by simp only [World.frozen?, h]; exact hu i hi
  simp [hi, hf, setCell_setB h]
theorem run_storeCells {b off e : Nat} {fr : Nat × Nat} : ∀ (vs : List Value) (i : Nat) (cs : Array Value) (w : World), w.heap[b]? = some (.cells cs e fr) → Unf cs fr → off + i + vs.length ≤ cs.size → (∀ v ∈ vs, v.oneCell' = true) →
    ∃ cs' : Array Value, (storeCells ⟨b, off, none⟩ vs i).run P w = .ok () (setB w b (.cells cs' e fr)) ∧ cs'.toList = cs.toList.take (off + i) ++ vs ++ cs.toList.drop (off + i + vs.length)
  | [], i, cs, w, h, hu, hl, hv => by
    refine ⟨cs, ?_, by simp⟩
    simp only [storeCells, Sem.run_pure]
    congr 1
    have hlt := lt_heap h
    have hh : w.heap.setIfInBounds b (.cells cs e fr) = w.heap := by
      apply Array.ext_getElem?
      intro j
      by_cases hj : b = j
      · subst hj; rw [Array.getElem?_setIfInBounds_self_of_lt hlt, h]
      · rw [Array.getElem?_setIfInBounds_ne hj]
    simp [setB, hh]
  | v :: r, i, cs, w, h, hu, hl, hv => by
    simp only [List.length_cons] at hl
    have h1 := run_store_cell (P := P) (i := off + i) h (by omega) hu (hv v (by simp))
    have hlt := lt_heap h
    have hl2 : off + (i + 1) + r.length ≤ (cs.setIfInBounds (off + i) v).size := by rw [Array.size_setIfInBounds]; omega
    obtain ⟨cs', h2, h3⟩ := run_storeCells r (i + 1) (cs.setIfInBounds (off + i) v) (setB w b (.cells (cs.setIfInBounds (off + i) v) e fr)) (setB_at w b _ hlt) (fun j hj => hu j (by simpa using hj)) hl2 (fun u hu' => hv u (by simp [hu']))
    refine ⟨cs', ?_, ?_⟩
    · simp only [storeCells, Sem.run_bind, add_plain]
      rw [h1]
      simp only [Result.andThen_ok]
      rw [h2, setB_setB]
    · rw [h3, Array.toList_setIfInBounds]
      have hlt2 : off + i < cs.toList.length := by simp; omega
      have e1 : (cs.toList.set (off + i) v).take (off + (i + 1)) = cs.toList.take (off + i) ++ [v] := by
        rw [← Nat.add_assoc, List.take_succ_eq_append_getElem (by simpa using hlt2), List.take_set_of_le (Nat.le_refl _)]
        simp
      have e2 : (cs.toList.set (off + i) v).drop (off + (i + 1) + r.length) = cs.toList.drop (off + i + (r.length + 1)) := by
        rw [List.drop_set_of_lt (by omega)]
        congr 1
        omega
      rw [e1, e2]
      simp
theorem VR_one {c : Nat} {x : AV} {v : Value} (h : VR w F B c x v) (hc : x.cell = true) : v.oneCell' = true := by
  cases x with
  | d x =>
    cases x with
    | agg l => simp [AV.cell, D.isAgg] at hc
    | sl z l => simp only [VR, DRv, DRc] at h; obtain ⟨A, cc, hu, _⟩ := h; simp only [List.cons.injEq, and_true] at hu; subst hu; rfl
    | ptr y => simp only [VR, DRv, DRc] at h; obtain ⟨A, cc, hu, _⟩ := h; simp only [List.cons.injEq, and_true] at hu; subst hu; rfl
    | clo fn f cp => simp only [VR, DRv, DRc] at h; obtain ⟨A, cc, hu, _⟩ := h; simp only [List.cons.injEq, and_true] at hu; subst hu; rfl
    | _ => simp only [VR, DRv, DRc, List.cons.injEq, and_true] at h; subst h; rfl
  | nils => simp only [VR] at h; subst h; rfl
  | ref k g z off len => simp only [VR] at h; obtain ⟨_, h⟩ := h; split at h; (obtain ⟨rfl, _⟩ := h; rfl); (obtain ⟨ad, rfl, _⟩ := h; rfl)
  | elt k g z j o => simp only [VR] at h; obtain ⟨_, b, n, _, rfl⟩ := h; rfl
  | addr k g o => simp only [VR] at h; obtain ⟨_, b, n, _, rfl⟩ := h; rfl
  | mp k g => simp only [VR] at h; obtain ⟨_, b, n, _, rfl⟩ := h; rfl
  | nref k g len =>
    simp only [VR] at h
    obtain ⟨_, h⟩ := h
    split at h
    · rw [h.1]; rfl
    · rw [h]; rfl
  | sub k g j z len =>
    simp only [VR] at h
    obtain ⟨_, b, n, _, h, _⟩ := h
    rw [h]
    unfold slv
    split <;> rfl
  | selt k g j z len =>
    simp only [VR] at h
    obtain ⟨_, b, n, b', n', _, _, h⟩ := h
    rw [h]
    rfl
  | agg l => simp [AV.cell] at hc
  | tup l => simp [AV.cell] at hc
  | clo fn f cp => simp only [VR] at h; obtain ⟨fv, cv, rfl, _⟩ := h; rfl
  | dead => simp [AV.cell] at hc
  | opt q x => simp [AV.cell] at hc
theorem VRl_one {c : Nat} : ∀ {l : List AV} {vs : List Value}, cellsOK l = true → VRl w F B c l vs → ∀ v ∈ vs, v.oneCell' = true
  | [], vs, _, h => by simp only [VRl] at h; subst h; simp
  | x :: r, vs, hc, h => by
    simp only [cellsOK, Bool.and_eq_true] at hc
    simp only [VRl] at h
    obtain ⟨v, vs', rfl, h1, h2⟩ := h
    intro u hu
    rcases List.mem_cons.1 hu with rfl | hu
    · exact VR_one h1 hc.1
    · exact VRl_one hc.2 h2 u hu
theorem DRl_one : ∀ {l : List D} {vs : List Value}, DRl w F l vs → ∀ v ∈ vs, v.oneCell' = true := fun h => VRl_one (B := fun _ => none) (c := 0) (VRl_of_DRl (B := fun _ => none) (c := 0) h).2 (VRl_of_DRl h).1
theorem DRc_one {x : D} {vs : List Value} (h : DRc w F x vs) : ∀ v ∈ vs, v.oneCell' = true := by
  cases x with
  | agg l => simp only [DRc] at h; exact DRl_one h
  | sl z l => simp only [DRc] at h; obtain ⟨A, cc, rfl, _⟩ := h; simp [Value.oneCell']
  | ptr y => simp only [DRc] at h; obtain ⟨A, cc, rfl, _⟩ := h; simp [Value.oneCell']
  | clo fn f cp => simp only [DRc] at h; obtain ⟨A, cc, rfl, _⟩ := h; simp [Value.oneCell']
  | _ => simp only [DRc] at h; subst h; simp [Value.oneCell']
theorem DRr_one {sz : Nat} : ∀ {l : List D} {vs : List Value}, DRr w F sz l vs → ∀ v ∈ vs, v.oneCell' = true
  | [], vs, h => by simp only [DRr] at h; subst h; simp
  | x :: r, vs, h => by
    simp only [DRr] at h
    obtain ⟨a, b, rfl, _, h1, h2⟩ := h
    intro u hu
    rcases List.mem_append.1 hu with hu | hu
    · exact DRc_one h1 u hu
    · exact DRr_one h2 u hu
 
theorem run_append {t t' ty e sz : Nat} {ti : TypeInfo} {z : Value} (hu : P.underlying t = some (.slice e)) (hti : P.info? e = some ti) (hsz : ti.size = sz) (hz : ti.zero = some z) (hzs : z.cells.size = sz) (h0 : 0 < sz)
    (ht' : shapeT P t' = .slice ∨ shapeT P t' = .str) {y : Value} {m : Nat} {news : List Value} (hlen : ∀ W, (Builtin.lenOf y).run P W = .ok m W) (hfc : ∀ W : World, W.heap = w.heap → (Builtin.firstCells sz m y).run P W = .ok news.toArray W) (hnl : news.length = m * sz) (hone : ∀ v ∈ news, v.oneCell' = true)
    {x : Value} {n : Nat} {old : List Value} (hx : (x = .slice none 0 0 ∧ n = 0 ∧ old = []) ∨ ∃ b cap cs fr, x = .slice (some ⟨b, 0, none⟩) n cap ∧ w.heap[b]? = some (.cells cs e fr) ∧ Unf cs fr ∧ cs.size = cap * sz ∧ n ≤ cap ∧ cap ≤ maxLen ∧ old = cs.toList.take (n * sz))
    (hby : (n + m) * ti.bytes ≤ 140737488355328) (hb0 : 0 < ti.bytes) :
    ∃ v' w', (Builtin.append_ #[t, t'] ty #[x, y]).run P w = .ok v' w' ∧ w'.os = w.os ∧ w'.tape = w.tape ∧ w'.output = w.output ∧
      ((x = .slice none 0 0 ∧ v' = .slice none 0 0 ∧ w' = w ∧ n + m = 0) ∨
       (∃ b cap cs fr cs', x = .slice (some ⟨b, 0, none⟩) n cap ∧ w.heap[b]? = some (.cells cs e fr) ∧ v' = .slice (some ⟨b, 0, none⟩) (n + m) cap ∧ w'.heap = (setB w b (.cells cs' e fr)).heap ∧ Unf cs' fr ∧ cs'.size = cap * sz ∧ n + m ≤ cap ∧ cap ≤ maxLen ∧ cs'.toList.take ((n + m) * sz) = old ++ news) ∨
       (∃ cap cs', v' = .slice (some ⟨w.heap.size, 0, none⟩) (n + m) cap ∧ w'.heap = (w.alloc (.cells cs' e)).heap ∧ cs'.size = cap * sz ∧ n + m ≤ cap ∧ cap ≤ maxLen ∧ cs'.toList.take ((n + m) * sz) = old ++ news)) := by
  subst hsz
  have hm63 : n + m ≤ maxLen := by
    have : n + m ≤ (n + m) * ti.bytes := Nat.le_mul_of_pos_right _ hb0
    simp only [maxLen]; omega
  have hmax := hm63
  simp only [maxLen] at hmax
  have hold : old.length = n * ti.size := by
    rcases hx with ⟨_, rfl, rfl⟩ | ⟨b, cap, cs, fr, _, _, _, hcs, hnc, _, rfl⟩
    · simp
    · have : n * ti.size ≤ cap * ti.size := Nat.mul_le_mul_right _ hnc
      simp; omega
  have grow : ∀ (base : Option Addr) (cap : Nat), x = .slice base n cap → ¬ (n + m ≤ cap) → (∀ W : World, W.heap = w.heap → (Builtin.firstCells ti.size n x).run P W = .ok old.toArray W) →
      ∃ cap' cs', (Builtin.append_ #[t, t'] ty #[x, y]).run P w = .ok (.slice (some ⟨w.heap.size, 0, none⟩) (n + m) cap') (w.drew.alloc (.cells cs' e)) ∧ cs'.size = cap' * ti.size ∧ n + m ≤ cap' ∧ cap' ≤ maxLen ∧ cs'.toList.take ((n + m) * ti.size) = old ++ news := by
    intro base cap e1 hroom hfo
    subst e1
    have hge := grownCap_ge w (n + m) cap e
    have hcm : grownCap w (n + m) cap e ≤ maxLen := grownCap_le_maxLen w (n + m) cap e hm63
    have hfit := growslice_fits (need := n + m) (old := cap) (by omega) hby
    refine ⟨grownCap w (n + m) cap e, old.toArray ++ news.toArray ++ Builtin.zeroCells z.cells (grownCap w (n + m) cap e - (n + m)), ?_, ?_, hge, hcm, ?_⟩
    · have h63 : ¬ (9223372036854775807 < ((n : Int) + (m : Int))) := by omega
      have h48 : ¬ (281474976710656 < Builtin.nextslicecap (n + m) cap * ti.bytes) := by omega
      have hfo1 := hfo w.drew rfl
      have hfc1 := hfc w.drew rfl
      rcases ht' with h | h
      · obtain ⟨e', he⟩ := shapeT_slice h
        simp [Builtin.append_, run_underlying hu, run_underlying he, sizeOf, typeInfo, zeroValue, hti, hz, hlen, hroom, h63, h48, Question.forced, hfc1, hfo1, newRow, grownCap]
        congr 2
        apply Array.ext'
        simp [List.append_assoc]
      · simp [Builtin.append_, run_underlying hu, run_underlying (shapeT_str h), sizeOf, typeInfo, zeroValue, hti, hz, hlen, hroom, h63, h48, Question.forced, hfc1, hfo1, newRow, grownCap]
        congr 2
        apply Array.ext'
        simp [List.append_assoc]
    · simp only [Array.size_append, List.size_toArray, size_zeroCells, hzs, hold, hnl, ← Nat.add_mul]
      congr 1
      omega
    · simp only [Array.toList_append, List.append_assoc]
      rw [← List.append_assoc]
      exact List.take_left' (by simp [hold, hnl, Nat.add_mul])
  rcases hx with ⟨rfl, rfl, rfl⟩ | ⟨b, cap, cs, fr, rfl, hh, hunf, hcs, hnc, hcm, rfl⟩
  · by_cases hm : m = 0
    · subst hm
      have hn : news = [] := List.eq_nil_of_length_eq_zero (by simpa using hnl)
      subst hn
      have hfc := hfc w rfl
      refine ⟨.slice none 0 0, w, ?_, rfl, rfl, rfl, .inl ⟨rfl, rfl, rfl, rfl⟩⟩
      rcases ht' with h | h
      · obtain ⟨e', he⟩ := shapeT_slice h
        simp [Builtin.append_, run_underlying hu, run_underlying he, sizeOf, typeInfo, hti, hlen, hfc]
      · simp [Builtin.append_, run_underlying hu, run_underlying (shapeT_str h), sizeOf, typeInfo, hti, hlen, hfc]
    · obtain ⟨cap', cs', h1, h2, h3, h4, h5⟩ := grow none 0 rfl (by omega) (fun W _ => by simp [Builtin.firstCells])
      exact ⟨_, _, h1, rfl, rfl, rfl, .inr (.inr ⟨cap', cs', rfl, rfl, h2, h3, h4, h5⟩)⟩
  · by_cases hroom : n + m ≤ cap
    · have hfc := hfc w rfl
      have hle : (n + m) * ti.size ≤ cap * ti.size := Nat.mul_le_mul_right _ hroom
      rw [Nat.add_mul] at hle
      obtain ⟨cs', h1, h2⟩ := run_storeCells (P := P) (b := b) (off := n * ti.size) (e := e) (fr := fr) news 0 cs w hh hunf (by omega) hone
      have hsz' : cs'.size = cs.size := by
        have := congrArg List.length h2
        simp at this
        omega
      refine ⟨.slice (some ⟨b, 0, none⟩) (n + m) cap, setB w b (.cells cs' e fr), ?_, rfl, rfl, rfl, .inr (.inl ⟨b, cap, cs, fr, cs', rfl, hh, rfl, rfl, fun i hi => hunf i (by omega), by omega, hroom, hcm, ?_⟩)⟩
      · have ha : (⟨b, 0, none⟩ : Addr).add (n * ti.size) = ⟨b, n * ti.size, none⟩ := by rw [add_plain, Nat.zero_add]
        rcases ht' with h | h
        · obtain ⟨e', he⟩ := shapeT_slice h
          simp [Builtin.append_, run_underlying hu, run_underlying he, sizeOf, typeInfo, hti, hlen, hfc, hroom, ha, h1]
        · simp [Builtin.append_, run_underlying hu, run_underlying (shapeT_str h), sizeOf, typeInfo, hti, hlen, hfc, hroom, ha, h1]
      · rw [h2, Nat.add_zero]
        refine List.take_left' ?_
        simp [hnl, Nat.add_mul]
        omega
    · have hfo : ∀ W : World, W.heap = w.heap → (Builtin.firstCells ti.size n (.slice (some ⟨b, 0, none⟩) n cap)).run P W = .ok (cs.toList.take (n * ti.size)).toArray W := by
        intro W hW
        refine run_firstCells_some (P := P) W ti.size n ⟨b, 0, none⟩ n cap _ hold ?_
        have := Cells_of_block (w := W) (by rw [hW]; exact hh) 0 (n * ti.size)
        rw [List.drop_zero] at this
        exact this
      obtain ⟨cap', cs', h1, h2, h3, h4, h5⟩ := grow (some ⟨b, 0, none⟩) cap rfl hroom hfo
      exact ⟨_, _, h1, rfl, rfl, rfl, .inr (.inr ⟨cap', cs', rfl, rfl, h2, h3, h4, h5⟩)⟩
end
end Go.Fw
namespace Go.Fw
open Go
set_option linter.unusedVariables false
set_option linter.unusedSimpArgs false
def rmKey (k : Option Key) (H : List (Key × Nat × AO)) : List (Key × Nat × AO) := match k with
  | none => H
  | some k => H.filter fun x => !(decide (x.1 = k))
 
def apBase (H : List (Key × Nat × AO)) (e sz : Nat) : AV → Option (List D × Option Key)
  | .nils => some ([], none)
  | .ref k g z off len => match objIn H k with
    | some (g', .row e' z' l) => if g' = g ∧ off = 0 ∧ len = l.length ∧ z' = sz ∧ z = sz ∧ e' = e then some (l, some k) else none
    | _ => none
  | _ => none
 
def apNew (P : Program) (H : List (Key × Nat × AO)) (e sz : Nat) : AV → Option (List D)
  | .nils => some []
  | .d (.sl z l) => if z = sz then some l else none
  | .ref k g z off len => match objIn H k with
    | some (g', .row _ z' l) => if g' = g ∧ z' = sz ∧ z = sz ∧ off + len ≤ l.length then some ((l.drop off).take len) else none
    | _ => none
  | .d (.str s) => if sz = 1 then some (s.data.toList.map byteD) else none
  | _ => none
def appendV (P : Program) (ats : Array TypeId) (x y : AV) (d : Nat) (S : St) (K : St → Prop) : Prop := match ats.toList with
  | [t, t'] => match elemI P t with
    | some (e, sz, _) => (zeroI P e).map List.length = some sz ∧ (shapeT P t' = .slice ∨ shapeT P t' = .str) ∧ 0 < P.bytesOf e ∧
        match apBase S.H e sz x, apNew P S.H e sz y with
        | some (l, k), some ys => (l.length + ys.length) * P.bytesOf e ≤ 140737488355328 ∧
            K { E := putIn S.E d (.ref [d] S.c sz 0 (l.length + ys.length)), H := ([d], S.c, .row e sz (l ++ ys)) :: dropKey [d] (rmKey k S.H), c := S.c + 1 }
        | _, _ => False
    | none => False
  | _ => False
 
def isIntT (P : Program) (t : TypeId) : Bool := match P.underlying t with
  | some (.int _) => true
  | _ => false
def appendZ (P : Program) (ats : Array TypeId) (n : Int) (d : Nat) (S : St) (K : St → Prop) : Prop := match ats.toList with
  | [t, t'] => match elemI P t with
    | some (e, sz, b) => isIntT P t' = true ∧ 0 < n ∧ n.toNat * P.bytesOf e ≤ 140737488355328 ∧ 0 < P.bytesOf e ∧ match zeroD P e with
        | some z => z.isAgg = b ∧ z.ncells = sz ∧ (zeroI P e).map List.length = some sz ∧ K (S.newObj d (.row e sz (List.replicate n.toNat z)) (.ref [d] S.c sz 0 n.toNat))
        | none => False
    | none => False
  | _ => False
 
def nbBase (H : List (Key × Nat × AO)) (e : Nat) : AV → Option (List NE × Option Key × Prop)
  | .nils => some ([], none, True)
  | .nref k g len => match objIn H k with
    | some (g', .nest e' l) => some (l, some k, g' = g ∧ e' = e ∧ len = l.length)
    | _ => none
  | .ref k g z off len => match objIn H k with
    | some (g', .row e' z' []) => some ([], some k, g' = g ∧ e' = e ∧ z' = 1 ∧ off = 0 ∧ len = 0)
    | _ => none
  | _ => none
def nbNew (H : List (Key × Nat × AO)) : AV → Option (List NE × Key × Prop)
  | .nref k g len => match objIn H k with
    | some (g', .nest _ l) => some (l, k, g' = g ∧ len = l.length)
    | _ => none
  | _ => none
def appendN (P : Program) (ats : Array TypeId) (x y : AV) (d : Nat) (S : St) (K : St → Prop) : Prop := match ats.toList with
  | [t, t'] => match elemI P t with
    | some (e, sz, _) => sz = 1 ∧ (zeroI P e).map List.length = some 1 ∧ shapeT P t' = .slice ∧ 0 < P.bytesOf e ∧ match nbBase S.H e x, nbNew S.H y with
      | some (l, k, q), some (ys, k', q') => q ∧ q' ∧ ¬ k = some k' ∧ (l.length + ys.length) * P.bytesOf e ≤ 140737488355328 ∧
          ∀ r, l ++ ys = r → K { E := putIn S.E d (.nref [d] S.c r.length), H := ([d], S.c, .nest e r) :: dropKey [d] (rmKey k (rmKey (some k') S.H)), c := S.c + 1 }
      | _, _ => False
    | none => False
  | _ => False
 
def regA (g g' : Nat) : AV → AV
  | .nref k q len => if q = g then .nref k g' len else .nref k q len
  | .elt k q sz j o => if q = g then .elt k g' sz j o else .elt k q sz j o
  | x => x
def regE (g g' : Nat) : List (Nat × AV) → List (Nat × AV)
  | [] => []
  | (t, v) :: r => (t, regA g g' v) :: regE g g' r
 
def appendS (P : Program) (ats : Array TypeId) (k : Key) (g j z len : Nat) (y : AV) (d : Nat) (S : St) (K : St → Prop) : Prop := match ats.toList with
  | [t, t'] => match elemI P t with
    | some (e, sz, _) => (zeroI P e).map List.length = some sz ∧ shapeT P t' = .slice ∧ 0 < P.bytesOf e ∧ match objIn S.H k, apNew P S.H e sz y with
      | some (g', .nest en l), some ys => g' = g ∧ j < l.length ∧ ∀ u, l.getD j .hole = u → match u with
          | .row e' z' il => e' = e ∧ z' = sz ∧ z = sz ∧ len = il.length ∧ (il.length + ys.length) * P.bytesOf e ≤ 140737488355328 ∧
              ∀ r, il ++ ys = r → ∀ r2, l.set j .hole = r2 → K { E := putIn (regE g S.c S.E) d (.ref [d] (S.c + 1) sz 0 r.length), H := ([d], S.c + 1, .row e sz r) :: (k, S.c, .nest en r2) :: dropKey [d] (rmKey (some k) S.H), c := S.c + 2 }
          | _ => False
      | _, _ => False
    | none => False
  | _ => False
def appW (P : Program) (ats : Array TypeId) (x y : AV) (d : Nat) (S : St) (K : St → Prop) : Prop := match x, y with
  | .nils, .d (.int .i64 n) => appendZ P ats n d S K
  | x, .nref k g l => appendN P ats x (.nref k g l) d S K
  | .sub k g j z len, y => appendS P ats k g j z len y d S K
  | x, y => appendV P ats x y d S K
 
def mvKey (k k' : Key) (x : Key) : Key := if k.isPrefixOf x then k' ++ x.drop k.length else x
mutual
def mvAV (k k' : Key) : AV → AV
  | .ref q g sz off len => .ref (mvKey k k' q) g sz off len
  | .elt q g sz j o => .elt (mvKey k k' q) g sz j o
  | .addr q g c => .addr (mvKey k k' q) g c
  | .mp q g => .mp (mvKey k k' q) g
  | .nref q g l => .nref (mvKey k k' q) g l
  | .sub q g j sz l => .sub (mvKey k k' q) g j sz l
  | .selt q g j sz l => .selt (mvKey k k' q) g j sz l
  | .agg l => .agg (mvAVs k k' l)
  | .tup l => .tup (mvAVs k k' l)
  | .clo fn f c => .clo fn (mvAVs k k' f) (mvAVs k k' c)
  | x => x
def mvAVs (k k' : Key) : List AV → List AV
  | [] => []
  | x :: r => mvAV k k' x :: mvAVs k k' r
end
def mvAO (k k' : Key) : AO → AO
  | .box e l => .box e (mvAVs k k' l)
  | o => o
 
def mvH (k k' : Key) (H : List (Key × Nat × AO)) : List (Key × Nat × AO) := (dropKey k' H).map fun x => (mvKey k k' x.1, x.2.1, mvAO k k' x.2.2)
 
def tmpKey (nv : Nat) (k : Key) : Bool := match k with
  | i :: _ => nv ≤ i
  | [] => false
def assignV (P : Program) (nv : Nat) (ty : TypeId) (d : Nat) (x : AV) (S : St) (K : St → Prop) : Prop := match x with
  | .ref k g sz off len => if tmpKey nv k && !([d].isPrefixOf k) then K { S with E := putIn S.E d (.ref (mvKey k [d] k) g sz off len), H := mvH k [d] S.H } else K (S.put (some d) x)
  | .addr k g c => if tmpKey nv k && !([d].isPrefixOf k) then K { S with E := putIn S.E d (.addr (mvKey k [d] k) g c), H := mvH k [d] S.H } else K (S.put (some d) x)
  | .mp k g => if tmpKey nv k && !([d].isPrefixOf k) then K { S with E := putIn S.E d (.mp (mvKey k [d] k) g), H := mvH k [d] S.H } else K (S.put (some d) x)
  | .nref k g len => if tmpKey nv k && !([d].isPrefixOf k) then K { S with E := putIn S.E d (.nref (mvKey k [d] k) g len), H := mvH k [d] S.H } else K (S.put (some d) x)
  | .nils => match elemI P ty with
    | some (e, sz, _) => K { E := putIn S.E d (.ref [d] S.c sz 0 0), H := ([d], S.c, .row e sz []) :: dropKey [d] S.H, c := S.c + 1 }
    | none => K (S.put (some d) x)
  | x => K (S.put (some d) x)
def dset (l : List D) (o : Nat) (new : List D) : List D := l.take o ++ new ++ l.drop (o + new.length)
def D.cells : D → List D
  | .agg l => l
  | x => [x]
def storeV (P : Program) (nv : Nat) (t : TypeId) (p x : AV) (S : St) (K : St → Prop) : Prop := match varI P t with
  | some (sz, b) => match p with
    | .addr k g c => match objIn S.H k with
      | some (g', .box e l) => g' = g ∧ (avCells x).length = sz ∧ cellsOK (avCells x) = true ∧ c + sz ≤ l.length ∧
          (match x with
           | .ref k' g1 z off len => if tmpKey nv k' then K { S with H := mvH k' (k ++ [c]) (setO S.H k (.box e (setCells l c [.ref (mvKey k' (k ++ [c]) k') g1 z off len]))) }
              else K { S with H := setO S.H k (.box e (setCells l c (avCells x))) }
           | _ => K { S with H := setO S.H k (.box e (setCells l c (avCells x))) })
      | _ => False
    | .elt k g z j o => match objIn S.H k with
      | some (g', .row e z' l) => g' = g ∧ z' = z ∧ j < l.length ∧ match toD P S.H 60 x with
          | some (y, []) => y.isAgg = b ∧ y.ncells = sz ∧
              ((o = 0 ∧ z = sz ∧ K { S with H := setO S.H k (.row e z (l.set j y)) }) ∨
               (match l.getD j default with
                | .agg fs => o + sz ≤ fs.length ∧ K { S with H := setO S.H k (.row e z (l.set j (.agg (dset fs o y.cells)))) }
                | _ => False))
          | _ => False
      | _ => False
    | _ => False
  | none => False
 
def storeN (P : Program) (t : TypeId) (p x : AV) (S : St) (K : St → Prop) : Prop := match varI P t with
  | some (sz, b) => match p with
    | .selt k g j z i => match objIn S.H k with
      | some (g', .nest e l) => g' = g ∧ z = sz ∧ j < l.length ∧ ∀ u, l.getD j .hole = u → match u with
          | .row e' z' il => z' = z ∧ i < il.length ∧ match toD P S.H 60 x with
              | some (y, []) => y.isAgg = b ∧ y.ncells = sz ∧ ∀ r, l.set j (.row e' z' (il.set i y)) = r → K { S with H := setO S.H k (.nest e r) }
              | _ => False
          | _ => False
      | _ => False
    | _ => False
  | none => False
 
def storeE (P : Program) (t : TypeId) (k : Key) (g z j o : Nat) (x : AV) (S : St) (K : St → Prop) : Prop := match varI P t with
  | some (sz, b) => match objIn S.H k, x with
    | some (g', .nest e l), .ref k2 g2 z2 off len => match objIn S.H k2 with
      | some (g3, .row e' z' il) => g' = g ∧ g3 = g2 ∧ sz = 1 ∧ b = false ∧ z = 1 ∧ o = 0 ∧ z2 = z' ∧ off = 0 ∧ len = il.length ∧ ¬ k = k2 ∧ j < l.length ∧ ∀ r, l.set j (.row e' z' il) = r →
          K { E := regE g S.c S.E, H := (k, S.c, .nest e r) :: rmKey (some k) (rmKey (some k2) S.H), c := S.c + 1 }
      | _ => False
    | _, _ => False
  | none => False
def isNestAt (H : List (Key × Nat × AO)) (k : Key) : Bool := match objIn H k with
  | some (_, .nest ..) => true
  | _ => false
def storeW (P : Program) (nv : Nat) (t : TypeId) (p x : AV) (S : St) (K : St → Prop) : Prop := match p with
  | .selt k g j z i => storeN P t (.selt k g j z i) x S K
  | .elt k g z j o => bif isNestAt S.H k then storeE P t k g z j o x S K else storeV P nv t (.elt k g z j o) x S K
  | p => storeV P nv t p x S K
 
def objG : List (Key × Nat × AO) → Nat → Option AO
  | [], _ => none
  | (_, g', o) :: r, g => if g' = g then some o else objG r g
 
def keyK (P : Program) (kt : TypeId) : D → Bool
  | .int k _ => match P.underlying kt with
    | some (.int k') => decide (k = k')
    | _ => false
  | .str _ => match P.underlying kt with
    | some .string => true
    | _ => false
  | .bool _ => match P.underlying kt with
    | some .bool => true
    | _ => false
  | _ => false
def dEq : D → D → Bool
  | .int k a, .int k' b => decide (k = k') && decide (a = b)
  | .str a, .str b => decide (a = b)
  | .bool a, .bool b => a == b
  | _, _ => false
 
def updM (k v : D) : List (Option (D × D)) → List (Option (D × D))
  | [] => [some (k, v)]
  | none :: r => none :: updM k v r
  | some (k', v') :: r => if dEq k' k then some (k, v) :: r else some (k', v') :: updM k v r
 
structure AllM (P : Program) (kt : TypeId) (es : List (Option (D × D))) : Prop where
  at' : ∀ i, i < es.length → ∀ k v, es.getD i none = some (k, v) → keyK P kt k = true
def mapUV (P : Program) (t : TypeId) (m k x : AV) (S : St) (K : St → Prop) : Prop := match m with
  | .mp q g => match objIn S.H q with
    | some (g', .map es) => g' = g ∧ match P.underlying t with
      | some (.map kt _) => match k, x with
        | .d kx, .d vx => keyK P kt kx = true ∧ AllM P kt es ∧ ∀ r, updM kx vx es = r → K { S with H := setO S.H q (.map r) }
        | _, _ => False
      | _ => False
    | _ => False
  | _ => False
def nextM (d : Nat) (x : AV) (S : St) (K : St → Prop) : Prop := match x with
  | .addr k g c => match objIn S.H k with
    | some (g', .miter m since last seen cur) => g' = g ∧ c = 0 ∧ match objG S.H m with
      | some (.map es) => es.length = since ∧
          (∀ j, j < es.length → ¬ j ∈ seen ++ cur.toList → ∀ y, es.getD j none = y → match y with
            | some (kx, vx) => K { S with E := putIn S.E d (.tup [.d (.bool true), .d kx, .d vx]), H := setO S.H k (.miter m since es.length (seen ++ cur.toList) (some j)) }
            | none => True) ∧
          ((∀ j, j < es.length → es.getD j none = none ∨ j ∈ seen ++ cur.toList) → K { S with E := putIn S.E d (.tup [.d (.bool false)]) })
      | _ => False
    | _ => False
  | _ => False
def entryV (d : Nat) (x : AV) (S : St) (K : St → Prop) : Prop := match x with
  | .addr k g c => match objIn S.H k with
    | some (g', .miter m since last seen (some j)) => g' = g ∧ c = 0 ∧ match objG S.H m with
      | some (.map es) => last = es.length ∧ j < es.length ∧ ∀ y, es.getD j none = y → match y with
          | some (kx, vx) => K (S.put (some d) (.tup [.d kx, .d vx]))
          | none => False
      | _ => False
    | _ => False
  | _ => False
 
def nestOf (P : Program) (e : Nat) (S : St) (xs : List AV) : Option (NE × Option Key × Prop) := bif nestList.contains e then match xs with
    | [.nils] => match elemI P e with
      | some (e', sz, _) => some (.row e' sz [], none, True)
      | none => none
    | [.ref k g z off len] => match objIn S.H k with
      | some (g', .row e' z' l) => some (.row e' z' l, some k, g' = g ∧ z' = z ∧ off = 0 ∧ len = l.length)
      | _ => none
    | _ => none
  else none
 
def effV (P : Program) (nv : Nat) (o : Oper) (S : St) (K : St → Prop) : Prop := match o.op with
  | .alloc t => match o.dst, varI P t, zeroI P t with
    | some d, some _, some z => cellsOK z = true ∧ K (S.newObj d (.box t z) (.addr [d] S.c 0))
    | _, _, _ => False
  | .box t x => match o.dst with
    | some d => (avCells (S.ev x)).isEmpty = false ∧ cellsOK (avCells (S.ev x)) = true ∧ K (S.newObj d (.box t (avCells (S.ev x))) (.addr [d] S.c 0))
    | none => False
  | .buildSlice t len parts => match o.dst, elemI P t with
    | some d, some (e, sz, b) => (zeroI P e).isSome = true ∧ seqParts 0 (parts.toList.map (·.1)) = true ∧ len = parts.size ∧ len * sz ≤ 16777216 ∧
        match nestOf P e S (parts.toList.map fun p => S.ev p.2) with
        | some (ne, k, q) => sz = 1 ∧ q ∧ K { E := putIn S.E d (.nref [d] S.c 1), H := ([d], S.c, .nest e [ne]) :: dropKey [d] (rmKey k S.H), c := S.c + 1 }
        | none => match toDl P S.H 60 (parts.toList.map fun p => S.ev p.2) with
        | some (xs, ks) => elemsP b sz xs ∧ K ((S.freeze ks).newObj d (.row e sz xs) (.ref [d] S.c sz 0 len))
        | none => False
    | _, _ => False
  | .makeSlice t l c => match o.dst, elemI P t, S.ev l, S.ev c with
    | some d, some (e, sz, b), .d (.int .i64 n), .d (.int .i64 m) => n = m ∧ 0 ≤ n ∧ n.toNat * P.bytesOf e ≤ 281474976710656 ∧ 0 < P.bytesOf e ∧ match zeroD P e with
        | some z => z.isAgg = b ∧ z.ncells = sz ∧ (zeroI P e).map List.length = some sz ∧ K (S.newObj d (.row e sz (List.replicate n.toNat z)) (.ref [d] S.c sz 0 n.toNat))
        | none => False
    | _, _, _, _ => False
  | .convert src dst x => match o.dst, shapeT P src, P.underlying dst, S.ev x with
    | some d, .str, some (.slice e), .d (.str s) => shapeT P e = .int .u8 ∧ s.size ≤ 4611686018427387904 ∧ K (S.newObj d (.row e 1 (s.data.toList.map byteD)) (.ref [d] S.c 1 0 s.size))
    | _, _, _, _ => False
  | .store t p x => o.dst = none ∧ storeW P nv t (S.ev p) (S.ev x) S K
  | .assign x => match o.dst with
    | some d => assignV P nv o.type d (S.ev x) S K
    | none => False
  | .makeMap t r => match o.dst, r with
    | some d, none => K (S.newObj d (.map []) (.mp [d] S.c))
    | _, _ => False
  | .mapUpdate t m k x => o.dst = none ∧ mapUV P t (S.ev m) (S.ev k) (S.ev x) S K
  | .entry x => match o.dst with
    | some d => entryV d (S.ev x) S K
    | none => False
  | .range t x => match o.dst, shapeT P t, S.ev x with
    | some d, .str, .d (.str s) => K (S.newObj d (.iter s 0) (.addr [d] S.c 0))
    | some d, _, .mp k g => match P.underlying t, objIn S.H k with
      | some (.map _ _), some (g', .map es) => g' = g ∧ K (S.newObj d (.miter g es.length es.length [] none) (.addr [d] S.c 0))
      | _, _ => False
    | _, _, _ => False
  | .next x b => match b, o.dst, S.ev x with
    | false, some d, x => nextM d x S K
    | true, some d, .addr k g c => match objIn S.H k with
      | some (g', .iter s pos) => g' = g ∧ c = 0 ∧
          (pos < s.size → K { S with E := putIn S.E d (.tup [.d (.bool true), .d (.int .i64 pos), .d (.int .i32 (Utf8.decode s pos).1)]), H := setO S.H k (.iter s (pos + (Utf8.decode s pos).2)) }) ∧
          (s.size ≤ pos → K (S.put (some d) (.tup [.d (.bool false)])))
      | _ => False
    | _, _, _ => False
  | .call c => match c.callee, o.dst with
    | .builtin .append, some d => match c.args.toList with
      | [x, y] => appW P c.argTypes (S.ev x) (S.ev y) d S K
      | _ => False
    | _, _ => False
  | _ => False
end Go.Fw
namespace Go.Fw
open Go
set_option linter.unusedVariables false
set_option linter.unusedSimpArgs false
 
def isDs (o : Oper) : Bool := match o.op with
  | .store .. | .next .. | .mapUpdate .. => true
  | .call c => match c.callee with
    | .builtin .append => true
    | _ => false
  | _ => false
section
variable {P : Program} {F : Nat → Prop} {B : Blk} {w w' : World} {S : St} {a : Act} {N nv : Nat} {K : St → Prop}
mutual
theorem VR_mv (k k' : Key) {c : Nat} : ∀ (x : AV) (v : Value), VR w F B c x v → VR w F B c (mvAV k k' x) v
  | .ref q g sz off len, v, h => by simpa only [mvAV, VR] using h
  | .elt q g sz j o, v, h => by simpa only [mvAV, VR] using h
  | .addr q g o, v, h => by simpa only [mvAV, VR] using h
  | .mp q g, v, h => by simpa only [mvAV, VR] using h
  | .nref q g l, v, h => by simpa only [mvAV, VR] using h
  | .sub q g j sz l, v, h => by simpa only [mvAV, VR] using h
  | .selt q g j sz l, v, h => by simpa only [mvAV, VR] using h
  | .agg l, v, h => by
    simp only [mvAV, VR] at h ⊢
    obtain ⟨cs, e, h0, h1⟩ := h
    have := VRl_mv k k' l _ h1
    exact ⟨cs, e, by rw [this.2]; exact h0, this.1⟩
  | .tup l, v, h => by
    simp only [mvAV, VR] at h ⊢
    obtain ⟨cs, e, h1⟩ := h
    exact ⟨cs, e, (VRl_mv k k' l _ h1).1⟩
  | .clo fn f cp, v, h => by
    simp only [mvAV, VR] at h ⊢
    obtain ⟨fv, cv, e, h1, h2⟩ := h
    exact ⟨fv, cv, e, (VRl_mv k k' f _ h1).1, (VRl_mv k k' cp _ h2).1⟩
  | .d x, v, h => h
  | .nils, v, h => h
  | .dead, v, h => h
  | .opt .., v, h => h
theorem VRl_mv (k k' : Key) {c : Nat} : ∀ (l : List AV) (vs : List Value), VRl w F B c l vs → VRl w F B c (mvAVs k k' l) vs ∧ cellsOK (mvAVs k k' l) = cellsOK l
  | [], vs, h => ⟨h, rfl⟩
  | x :: r, vs, h => by
    simp only [mvAVs, VRl] at h ⊢
    obtain ⟨v, vs', e, h1, h2⟩ := h
    have := VRl_mv k k' r _ h2
    refine ⟨⟨v, vs', e, VR_mv k k' x v h1, this.1⟩, ?_⟩
    simp only [cellsOK, this.2]
    cases x <;> rfl
end
theorem OR_mv (k k' : Key) {c g : Nat} {o : AO} (h : OR w F B c g o) : OR w F B c g (mvAO k k' o) := by
  cases o with
  | row e sz l => exact h
  | box e l =>
    simp only [mvAO, OR] at h ⊢
    obtain ⟨b, n, cs, fr, h1, h2, h3, h4, h5⟩ := h
    have := VRl_mv k k' l _ h5
    exact ⟨b, n, cs, fr, h1, h2, h3, by rw [this.2]; exact h4, this.1⟩
  | iter s pos => exact h
  | map es => exact h
  | miter m since last seen cur => exact h
  | nest e l => exact h
theorem mvH_own {k k' : Key} {H : List (Key × Nat × AO)} {b : Nat} (h : Own (mvH k k' H) B b) : Own H B b := by
  obtain ⟨q, g, o, hm, hB⟩ := h
  obtain ⟨x, hx, e⟩ := List.mem_map.1 hm
  simp only [Prod.mk.injEq] at e
  obtain ⟨_, rfl, _⟩ := e
  exact ⟨x.1, x.2.1, x.2.2, (dropKey_sub _ _).subset hx, hB⟩
theorem FR.mv {E : List (Nat × AV)} {H : List (Key × Nat × AO)} {c : Nat} (hf : FR F B w ⟨E, H, c⟩ a) (k k' : Key) : FR F B w ⟨E, mvH k k' H, c⟩ a where
  slots := hf.slots
  objs q g o hm := by
    obtain ⟨x, hx, e⟩ := List.mem_map.1 hm
    simp only [Prod.mk.injEq] at e
    obtain ⟨_, rfl, rfl⟩ := e
    have := hf.objs x.1 x.2.1 x.2.2 ((dropKey_sub _ _).subset hx)
    exact ⟨this.1, OR_mv k k' this.2⟩
  sep b hb := hf.sep b (mvH_own hb)
  inj := by
    have : ((mvH k k' H).map fun x => x.2.1) = (dropKey k' H).map fun x => x.2.1 := by simp [mvH, List.map_map]
    rw [this]
    exact hf.inj.sublist ((dropKey_sub _ _).map _)
  own1 x hm := by
    obtain ⟨y, hy, rfl⟩ := List.mem_map.1 hm
    exact (hf.own1 y ((dropKey_sub _ _).subset hy)).congr rfl fun h => by obtain ⟨_, _, o⟩ := y; cases o <;> first | rfl | exact h
  Flt := hf.Flt
  defers := hf.defers
  pin := hf.pin
 
theorem Tr.still (hf : FR F B w S a) (hN : a.tmps.size = N) {S' : St} {a' : Act} (hf' : FR F B w S' a') (hn : a'.tmps.size = N) (ho : ∀ b, Own S'.H B b → Own S.H B b) (hc : S.c ≤ S'.c := by exact Nat.le_refl _) : Tr N F B w S F B w S' a' :=
  ⟨hf', hn, fun _ h => h, fun _ _ _ => rfl, fun b hb => hb.elim .inl fun h => .inr (.inl (ho b h)), rfl, rfl, rfl, Nat.le_refl _, fun _ _ => rfl⟩
 
theorem assignV_run (hf : FR F B w S a) (hN : a.tmps.size = N) {d : Nat} (hd : dstOK N (some d) = true) {x : AV} {v : Value} (hx : VR w F B S.c x v) {ty : TypeId} (h : assignV P nv ty d x S K) :
    ∃ S' B', K S' ∧ Tr N F B w S F B' w S' (a.put (some d) v) := by
  have plain : ∀ {y : AV}, VR w F B S.c y v → K (S.put (some d) y) → ∃ S' B', K S' ∧ Tr N F B w S F B' w S' (a.put (some d) v) := fun hy hk =>
    ⟨_, B, hk, Tr.still hf hN (hf.put hN hd hy) (by rw [Act.put_size]; exact hN) (fun b h => h)⟩
  cases x with
  | ref k g sz off len =>
    simp only [assignV] at h
    split at h
    · refine ⟨_, B, h, Tr.still hf hN ?_ (by rw [Act.put_size]; exact hN) (fun b h => mvH_own h)⟩
      have h1 := (FR.mv (E := S.E) (H := S.H) (c := S.c) hf k [d]).put hN hd (av := .ref (mvKey k [d] k) g sz off len) (v := v) (by simpa only [VR] using hx)
      exact h1
    · exact plain hx h
  | mp k g =>
    simp only [assignV] at h
    split at h
    · refine ⟨_, B, h, Tr.still hf hN ?_ (by rw [Act.put_size]; exact hN) (fun b h => mvH_own h)⟩
      have h1 := (FR.mv (E := S.E) (H := S.H) (c := S.c) hf k [d]).put hN hd (av := .mp (mvKey k [d] k) g) (v := v) (by simpa only [VR] using hx)
      exact h1
    · exact plain hx h
  | addr k g c =>
    simp only [assignV] at h
    split at h
    · refine ⟨_, B, h, Tr.still hf hN ?_ (by rw [Act.put_size]; exact hN) (fun b h => mvH_own h)⟩
      have h1 := (FR.mv (E := S.E) (H := S.H) (c := S.c) hf k [d]).put hN hd (av := .addr (mvKey k [d] k) g c) (v := v) (by simpa only [VR] using hx)
      exact h1
    · exact plain hx h
  | nils =>
    simp only [assignV] at h
    split at h
    · rename_i e sz b hei
      simp only [VR] at hx
      subst hx
      have h1 := newObj_Tr (o := .row e sz []) (av := .ref [d] S.c sz 0 0) (v := .slice none 0 0) (bo := none) (w' := w) hf hN hd [] (Ext.refl w) rfl rfl rfl (fun b n hb => by cases hb) (by simp only [OR, updB_new]) (by simp only [VR, updB_new]; exact ⟨Nat.lt_succ_self _, by simp⟩)
      have hFe : (fun b => F b ∨ FK S.H B [] b) = F := by
        funext b
        refine propext ⟨fun h => h.elim id ?_, .inl⟩
        rintro ⟨k, g, o, h, _⟩
        simp at h
      rw [hFe] at h1
      exact ⟨_, _, h, h1⟩
    · exact plain hx h
  | d x => exact plain hx (by simpa only [assignV] using h)
  | elt _ _ _ _ _ => exact plain hx (by simpa only [assignV] using h)
  | sub _ _ _ _ _ => exact plain hx (by simpa only [assignV] using h)
  | selt _ _ _ _ _ => exact plain hx (by simpa only [assignV] using h)
  | nref k g len =>
    simp only [assignV] at h
    split at h
    · refine ⟨_, B, h, Tr.still hf hN ?_ (by rw [Act.put_size]; exact hN) (fun b h => mvH_own h)⟩
      have h1 := (FR.mv (E := S.E) (H := S.H) (c := S.c) hf k [d]).put hN hd (av := .nref (mvKey k [d] k) g len) (v := v) (by simpa only [VR] using hx)
      exact h1
    · exact plain hx h
  | agg _ => exact plain hx (by simpa only [assignV] using h)
  | tup _ => exact plain hx (by simpa only [assignV] using h)
  | clo _ _ _ => exact plain hx (by simpa only [assignV] using h)
  | dead => exact plain hx (by simpa only [assignV] using h)
  | opt q x => exact plain hx (by simpa only [assignV] using h)
 
theorem box_store (hf : FR F B w S a) {k : Key} {g e : Nat} {l : List AV} (hob : objIn S.H k = some (g, .box e l)) {b n : Nat} (hB : B g = some (b, n)) {o : Nat} {new : List AV} {nv : List Value} (hn : VRl w F B S.c new nv) (hc : cellsOK new = true) (hlen : o + new.length ≤ l.length) :
    ∃ w', (storeCells ⟨b, o, none⟩ nv).run P w = .ok () w' ∧ FR F B w' ⟨S.E, setO S.H k (.box e (setCells l o new)), S.c⟩ a ∧ (∀ i, i ≠ b → w'.heap[i]? = w.heap[i]?) ∧ w'.os = w.os ∧ w'.tape = w.tape ∧ w'.output = w.output ∧ w'.heap.size = w.heap.size := by
  have hor := hf.objsIn hob
  simp only [OR] at hor
  obtain ⟨b', n', cs, fr, hB', hh, hun, hco, hvl⟩ := hor
  rw [hB] at hB'
  simp only [Option.some.injEq, Prod.mk.injEq] at hB'
  obtain ⟨rfl, rfl⟩ := hB'
  have hll : cs.size = l.length := by simpa using hvl.length
  have hnl := hn.length
  obtain ⟨cs', h1, h2⟩ := run_storeCells (P := P) (b := b) (off := o) (e := e) (fr := fr) nv 0 cs w hh hun (by omega) (VRl_one hc hn)
  have hlt := lt_heap hh
  have hF : ∀ i, F i → (setB w b (.cells cs' e fr)).heap[i]? = w.heap[i]? := fun i hi => setB_ne w b i _ fun e => (hf.sep b (Own.of (mem_of_objIn hob) hB)).1 (e ▸ hi)
  refine ⟨_, h1, ?_, fun i hi => setB_ne w b i _ hi, rfl, rfl, rfl, setB_size w b _⟩
  refine hf.upd hob (blkL_of hB) (by rw [setB_size]; omega) (fun i _ hi => setB_ne w b i _ hi) ?_
  simp only [OR]
  have hsz : cs'.size = cs.size := by
    have := congrArg List.length h2
    simp at this
    omega
  refine ⟨b, n, cs', fr, hB, setB_at w b _ hlt, fun i hi => hun i (by omega), cellsOK_setCells hco hc, ?_⟩
  rw [h2, Nat.add_zero]
  exact VRl.mono hF (fun _ h => h) (fun _ _ => rfl) (Nat.le_refl _) _ _ (VRl_setCells hvl hn)
theorem DRr_set {sz : Nat} : ∀ {l : List D} {vs : List Value} {j : Nat} {y : D} {ys : List Value}, DRr w F sz l vs → j < l.length → DRc w F y ys → ys.length = sz → DRr w F sz (l.set j y) (vs.take (j * sz) ++ ys ++ vs.drop (j * sz + sz))
  | [], vs, j, y, ys, h, hj, hy, hl => by simp at hj
  | x :: r, vs, 0, y, ys, h, hj, hy, hl => by
    simp only [DRr] at h
    obtain ⟨a, b, rfl, h0, h1, h2⟩ := h
    simp only [List.set_cons_zero, DRr, Nat.zero_mul, List.take_zero, List.nil_append, Nat.zero_add]
    exact ⟨ys, b, by rw [← h0, List.drop_left], hl, hy, h2⟩
  | x :: r, vs, j + 1, y, ys, h, hj, hy, hl => by
    simp only [DRr] at h
    obtain ⟨a, b, rfl, h0, h1, h2⟩ := h
    have ih := DRr_set (j := j) h2 (by simpa using hj) hy hl
    simp only [List.set_cons_succ, DRr]
    refine ⟨a, _, ?_, h0, h1, ih⟩
    have e1 : (j + 1) * sz = a.length + j * sz := by rw [Nat.add_mul, Nat.one_mul, h0, Nat.add_comm]
    rw [e1, List.take_append, List.take_of_length_le (by omega), Nat.add_sub_cancel_left]
    rw [show a.length + j * sz + sz = a.length + (j * sz + sz) by omega, ← List.drop_drop, List.drop_left]
    simp
theorem DRl_dset {l new : List D} {vs nv : List Value} {o : Nat} (h : DRl w F l vs) (hn : DRl w F new nv) : DRl w F (dset l o new) (vs.take o ++ nv ++ vs.drop (o + nv.length)) := by
  have app : ∀ {a b : List D} {u v : List Value}, DRl w F a u → DRl w F b v → DRl w F (a ++ b) (u ++ v) := by
    intro a
    induction a with
    | nil => intro b u v h1 h2; simp only [DRl] at h1; simpa [h1] using h2
    | cons x r ih =>
      intro b u v h1 h2
      simp only [DRl] at h1
      obtain ⟨v1, u', rfl, h0, h3, h4⟩ := h1
      simp only [List.cons_append, DRl]
      exact ⟨v1, u' ++ v, by simp, h0, h3, ih h4 h2⟩
  unfold dset
  rw [hn.length]
  exact app (app (h.take o) hn) (h.drop _)
theorem DRl_cells {y : D} {cs : List Value} (h : DRc w F y cs) : DRl w F y.cells cs := by
  have one : ∀ {x : D}, x.isAgg = false → DRc w F x cs → cs.length = 1 → DRl w F [x] cs := by
    intro x hx hc hl
    match cs, hl with
    | [v], _ => simp only [DRl]; exact ⟨v, [], rfl, hx, hc, rfl⟩
  cases y with
  | agg l => simpa [DRc, D.cells] using h
  | _ => exact one rfl h (by have := h.len; simpa [D.ncells] using this)
 
theorem row_store (hf : FR F B w S a) {k : Key} {g e sz : Nat} {l : List D} (hob : objIn S.H k = some (g, .row e sz l)) {b n : Nat} (hB : B g = some (b, n)) {j o : Nat} (hj : j < l.length) {y : D} {nv : List Value} (hnl : o + nv.length ≤ sz) (hone : ∀ v ∈ nv, v.oneCell' = true)
    (hy : ∀ old : List Value, DRc w F (l.getD j default) old → old.length = sz → DRc w F y (old.take o ++ nv ++ old.drop (o + nv.length))) :
    ∃ w', (storeCells ⟨b, j * sz + o, none⟩ nv).run P w = .ok () w' ∧ FR F B w' ⟨S.E, setO S.H k (.row e sz (l.set j y)), S.c⟩ a ∧ (∀ i, i ≠ b → w'.heap[i]? = w.heap[i]?) ∧ w'.os = w.os ∧ w'.tape = w.tape ∧ w'.output = w.output ∧ w'.heap.size = w.heap.size := by
  have hor := hf.objsIn hob
  simp only [OR, hB] at hor
  obtain ⟨cs, fr, hh, hun, h0, hcs, hln, hmx, hdr⟩ := hor
  have hjn : (j + 1) * sz ≤ l.length * sz := Nat.mul_le_mul_right _ hj
  rw [Nat.add_mul, Nat.one_mul] at hjn
  have hln2 : l.length * sz ≤ n * sz := Nat.mul_le_mul_right _ hln
  obtain ⟨cs', h1, h2⟩ := run_storeCells (P := P) (b := b) (off := j * sz + o) (e := e) (fr := fr) nv 0 cs w hh hun (by omega) hone
  have hlt := lt_heap hh
  have hF : ∀ i, F i → (setB w b (.cells cs' e fr)).heap[i]? = w.heap[i]? := fun i hi => setB_ne w b i _ fun e => (hf.sep b (Own.of (mem_of_objIn hob) hB)).1 (e ▸ hi)
  refine ⟨_, h1, ?_, fun i hi => setB_ne w b i _ hi, rfl, rfl, rfl, setB_size w b _⟩
  refine hf.upd hob (blkL_of hB) (by rw [setB_size]; omega) (fun i _ hi => setB_ne w b i _ hi) ?_
  have hsz : cs'.size = cs.size := by
    have := congrArg List.length h2
    simp at this
    omega
  simp only [OR, hB]
  refine ⟨cs', fr, setB_at w b _ hlt, fun i hi => hun i (by omega), h0, by omega, by simpa using hln, hmx, ?_⟩
  have hget := hdr.get j hj
  have htk : (List.drop (j * sz) (List.take (l.length * sz) cs.toList)).take sz = (cs.toList.drop (j * sz)).take sz := by
    rw [List.drop_take, List.take_take, Nat.min_eq_left (by omega)]
  rw [htk] at hget
  have hset := DRr_set hdr hj (hy _ hget.1 hget.2) (by rw [List.length_append, List.length_append, List.length_take, List.length_drop, hget.2]; omega)
  refine DRr.mono hF (fun _ h => h) _ _ _ ?_
  rw [List.length_set]
  have e3 : cs'.toList.take (l.length * sz) = (cs.toList.take (l.length * sz)).take (j * sz) ++ (((cs.toList.drop (j * sz)).take sz).take o ++ nv ++ ((cs.toList.drop (j * sz)).take sz).drop (o + nv.length)) ++ (cs.toList.take (l.length * sz)).drop (j * sz + sz) := by
    rw [h2, Nat.add_zero]
    apply List.ext_getElem?
    intro i
    simp only [List.getElem?_take, List.getElem?_append, List.getElem?_drop, List.length_take, List.length_append, List.length_drop, Array.length_toList]
    have c1 : min (j * sz + o) cs.size = j * sz + o := by omega
    have c2 : min (j * sz) (min (l.length * sz) cs.size) = j * sz := by omega
    have c3 : min o (min sz (cs.size - j * sz)) = o := by omega
    have c4 : min sz (cs.size - j * sz) = sz := by omega
    rw [c1, c2, c3, c4]
    by_cases hi : i < l.length * sz
    · rw [if_pos hi]
      by_cases h3 : i < j * sz
      · rw [if_pos (by omega), if_pos (by omega), if_pos (by omega), if_pos (by omega), if_pos (by omega), if_pos h3, if_pos hi]
      · by_cases h4 : i < j * sz + o
        · rw [if_pos (by omega), if_pos (by omega), if_pos (by omega), if_pos (by omega), if_neg (by omega), if_pos (by omega), if_pos (by omega), if_pos (by omega), if_pos (by omega)]
          congr 1; omega
        · by_cases h5 : i < j * sz + o + nv.length
          · rw [if_pos (by omega), if_neg (by omega), if_pos (by omega), if_neg (by omega), if_pos (by omega), if_neg (by omega)]
            congr 1; omega
          · by_cases h6 : i < j * sz + sz
            · rw [if_neg (by omega), if_pos (by omega), if_neg (by omega), if_neg (by omega), if_pos (by omega)]
              congr 1; omega
            · rw [if_neg (by omega), if_neg (by omega), if_pos (by omega)]
              congr 1; omega
    · rw [if_neg hi]
      rw [if_neg (by omega), if_neg (by omega)]
  rw [e3]
  exact hset
end
end Go.Fw
namespace Go.Fw
open Go
set_option linter.unusedVariables false
set_option linter.unusedSimpArgs false
section
variable {P : Program} {F : Nat → Prop} {B : Blk} {w w' : World} {S : St} {a : Act} {N nv : Nat} {K : St → Prop}
theorem own_setO {k : Key} {g : Nat} {o0 o : AO} (hob : objIn S.H k = some (g, o0)) {i : Nat} (h : Own (setO S.H k o) B i) : Own S.H B i := by
  obtain ⟨k', g', o', hm', hb'⟩ := h
  rcases mem_setO hob _ hm' with h | h | h
  · simp only [Prod.mk.injEq] at h
    obtain ⟨rfl, rfl, rfl⟩ := h
    exact ⟨_, _, _, mem_of_objIn hob, hb'⟩
  · exact ⟨_, _, _, h.1, hb'⟩
  · exact ⟨_, _, _, h.1, hb'⟩
 
theorem Tr.stored (hf : FR F B w S a) (hN : a.tmps.size = N) {k : Key} {g : Nat} {o0 : AO} (hob : objIn S.H k = some (g, o0)) {b n : Nat} (hB : B g = some (b, n)) {S' : St} (hf' : FR F B w' S' a)
    (hw : ∀ i, i ≠ b → w'.heap[i]? = w.heap[i]?) (hos : w'.os = w.os) (htp : w'.tape = w.tape) (hout : w'.output = w.output) (hsz : w'.heap.size = w.heap.size) (ho : ∀ i, Own S'.H B i → Own S.H B i) (hc : S.c ≤ S'.c := by exact Nat.le_refl _) : Tr N F B w S F B w' S' a :=
  ⟨hf', hN, fun _ h => h, fun i hi hn => hw i fun e => hn (Own.of (n := n) (mem_of_objIn hob) (by rw [e]; exact hB)), fun i hi => hi.elim .inl fun h => .inr (.inl (ho i h)), hos, htp, hout, by omega, fun _ _ => rfl⟩
theorem run_storeVar {t : TypeId} {i : TypeInfo} (hi : P.info? t = some i) {ad : Addr} {v : Value} (hv : v.cells.size = i.size) (W : World) : (storeVar t ad v).run P W = (storeCells ad v.cells.toList).run P W := by
  simp [storeVar, run_sizeOf hi, hv]
theorem storeV_run (hf : FR F B w S a) (hN : a.tmps.size = N) {t : TypeId} {p x : AV} {u v : Value} (hp : VR w F B S.c p u) (hx : VR w F B S.c x v) (h : storeV P nv t p x S K) :
    ∃ w', (Instr.storeAt t u v).run P w = .ok () w' ∧ ∃ S' F' B', K S' ∧ Tr N F B w S F' B' w' S' a := by
  unfold storeV at h
  split at h
  · rename_i sz b hvi
    obtain ⟨i, hi, hsz, h0, hag, hb1⟩ := varI_spec hvi
    split at h
    · rename_i k g c
      split at h
      · rename_i g' e l hob
        obtain ⟨rfl, h1, h2, h3, h⟩ := h
        have hor := hf.objsIn hob
        simp only [OR] at hor
        obtain ⟨bb, n, cs, fr, hB, hh, hun, hco, hvl⟩ := hor
        simp only [VR] at hp
        obtain ⟨hg, bb', n', hB', rfl⟩ := hp
        rw [hB] at hB'
        simp only [Option.some.injEq, Prod.mk.injEq] at hB'
        obtain ⟨rfl, rfl⟩ := hB'
        have hne : avCells x ≠ [] := by intro e; rw [e] at h1; simp at h1; omega
        have hcx := avCells_VR hx hne
        have hvs : v.cells.size = sz := by have := hcx.length; rw [h1] at this; simpa using this
        have hrun : ∀ W, (Instr.storeAt t (.pointer (some ⟨bb, c, none⟩)) v).run P W = (storeCells ⟨bb, c, none⟩ v.cells.toList).run P W := by
          intro W
          simp [Instr.storeAt, Instr.sureAddr, run_storeVar (P := P) hi (v := v) (by rw [hsz]; exact hvs)]
        have plain : K { S with H := setO S.H k (.box e (setCells l c (avCells x))) } → ∃ w', (Instr.storeAt t (.pointer (some ⟨bb, c, none⟩)) v).run P w = .ok () w' ∧ ∃ S' F' B', K S' ∧ Tr N F B w S F' B' w' S' a := by
          intro hk
          obtain ⟨w', e1, e2, e3, e4, e5, e6, e7⟩ := box_store (P := P) (o := c) (new := avCells x) hf hob hB hcx h2 (by omega)
          exact ⟨w', by rw [hrun]; exact e1, _, F, B, hk, Tr.stored hf hN hob hB e2 e3 e4 e5 e6 e7 (fun i hi => own_setO hob hi)⟩
        split at h
        · rename_i k' g1 z off len
          split at h
          · have hcx' : VRl w F B S.c [AV.ref (mvKey k' (k ++ [c]) k') g1 z off len] v.cells.toList := by
              simp only [avCells, VRl] at hcx ⊢
              obtain ⟨v1, vs', e1, e2, e3⟩ := hcx
              exact ⟨v1, vs', e1, by simpa only [VR] using e2, e3⟩
            obtain ⟨w', e1, e2, e3, e4, e5, e6, e7⟩ := box_store (P := P) (new := [.ref (mvKey k' (k ++ [c]) k') g1 z off len]) hf hob hB hcx' rfl (by simpa [avCells, ← h1] using h3)
            refine ⟨w', by rw [hrun]; exact e1, _, F, B, h, Tr.stored hf hN hob hB (FR.mv e2 k' (k ++ [c])) e3 e4 e5 e6 e7 (fun i hi => own_setO hob (mvH_own hi))⟩
          · exact plain h
        · exact plain h
      · exact h.elim
    · rename_i k g z j o
      split at h
      · rename_i g' e z' l hob
        obtain ⟨rfl, rfl, hj, h⟩ := h
        split at h
        · rename_i y htd
          obtain ⟨h1, h2, h⟩ := h
          have hD := toD_DR hf 60 x y [] v htd hx
          have hFe : (fun b => F b ∨ FK S.H B [] b) = F := by
            funext b
            refine propext ⟨fun h => h.elim id ?_, .inl⟩
            rintro ⟨k, g, o, h, _⟩
            simp at h
          rw [hFe] at hD
          have hDc := DRc_of_DRv hD
          have hvl : v.cells.toList.length = sz := by rw [hDc.len, h2]
          have hvs : v.cells.size = sz := by simpa using hvl
          simp only [VR] at hp
          obtain ⟨hg, bb, n, hB, rfl⟩ := hp
          have hor := hf.objsIn hob
          simp only [OR, hB] at hor
          obtain ⟨cs, fr, hh, hun, hz0, hcs, hln, hmx, hdr⟩ := hor
          have hrun : ∀ W, (Instr.storeAt t (.pointer (some ⟨bb, j * z' + o, none⟩)) v).run P W = (storeCells ⟨bb, j * z' + o, none⟩ v.cells.toList).run P W := by
            intro W
            simp [Instr.storeAt, Instr.sureAddr, run_storeVar (P := P) hi (v := v) (by rw [hsz]; exact hvs)]
          rcases h with ⟨rfl, rfl, hk⟩ | h
          · obtain ⟨w', e1, e2, e3, e4, e5, e6, e7⟩ := row_store (P := P) (o := 0) (y := y) (nv := v.cells.toList) hf hob hB hj (by omega) (DRc_one hDc) (fun old ho hl => by
              have : List.drop (0 + v.cells.toList.length) old = [] := List.drop_eq_nil_of_le (by omega)
              rw [this]
              simpa using hDc)
            exact ⟨w', by rw [hrun]; exact e1, _, F, B, hk, Tr.stored hf hN hob hB e2 e3 e4 e5 e6 e7 (fun i hi => own_setO hob hi)⟩
          · split at h
            · rename_i fs hfs
              obtain ⟨h3, hk⟩ := h
              have hget := hdr.get j hj
              rw [hfs] at hget
              have hfl : fs.length = z' := by have h8 := hget.1.len; rw [hget.2] at h8; exact h8.symm
              obtain ⟨w', e1, e2, e3, e4, e5, e6, e7⟩ := row_store (P := P) (o := o) (y := .agg (dset fs o y.cells)) (nv := v.cells.toList) hf hob hB hj (by omega) (DRc_one hDc) (fun old ho hl => by
                rw [hfs] at ho
                simp only [DRc] at ho ⊢
                exact DRl_dset ho (DRl_cells hDc))
              exact ⟨w', by rw [hrun]; exact e1, _, F, B, hk, Tr.stored hf hN hob hB e2 e3 e4 e5 e6 e7 (fun i hi => own_setO hob hi)⟩
            · exact h.elim
        · exact h.elim
      · exact h.elim
    · exact h.elim
  · exact h.elim
theorem apNew_run (hf : FR F B w S a) {e sz : Nat} {y : AV} {v : Value} (hy : VR w F B S.c y v) {ys : List D} (h : apNew P S.H e sz y = some ys) :
    ∃ news : List Value, (∀ W, (Builtin.lenOf v).run P W = .ok ys.length W) ∧ (∀ W : World, W.heap = w.heap → (Builtin.firstCells sz ys.length v).run P W = .ok news.toArray W) ∧ news.length = ys.length * sz ∧ DRr w F sz ys news := by
  unfold apNew at h
  split at h
  · simp only [Option.some.injEq] at h
    subst h
    simp only [VR] at hy
    subst hy
    exact ⟨[], fun W => by simp [Builtin.lenOf], fun W _ => by simp [Builtin.firstCells], by simp, by simp [DRr]⟩
  · rename_i z l
    split at h
    · rename_i hz
      subst hz
      simp only [Option.some.injEq] at h
      subst h
      simp only [VR, DRv, DRc] at hy
      obtain ⟨A, cc, hu, hl, hm, hr⟩ := hy
      simp only [List.cons.injEq, and_true] at hu
      subst hu
      rcases hr with rfl | ⟨ad, cs, rfl, hF, hC, hD⟩
      · refine ⟨[], fun W => by simp [Builtin.lenOf], fun W _ => ?_, by simp, by simp [DRr]⟩
        cases A with
        | none => simp [Builtin.firstCells]
        | some ad => simp [Builtin.firstCells, loadCells, loadCellsFrom]
      · refine ⟨cs, fun W => by simp [Builtin.lenOf], fun W hW => run_firstCells_some (P := P) W z _ ad _ cc cs hD.length ?_, hD.length, hD⟩
        have := hC.keep (w' := W) (F := F) (fun b hb => by rw [hW]) hF
        exact this
    · cases h
  · rename_i k g z off len
    split at h
    · rename_i g' e' z' l hob
      split at h
      · rename_i hc
        obtain ⟨rfl, rfl, rfl, hol⟩ := hc
        simp only [Option.some.injEq] at h
        subst h
        have hor := hf.objsIn hob
        simp only [VR] at hy
        obtain ⟨hg, hy⟩ := hy
        have hlen : ((l.drop off).take len).length = len := by simp; omega
        split at hy
        · obtain ⟨rfl, rfl, rfl⟩ := hy
          exact ⟨[], fun W => by simp [Builtin.lenOf], fun W _ => by simp [Builtin.firstCells], by simp, by simp [DRr]⟩
        · rename_i b n hB
          obtain ⟨ad, rfl, hcap, had⟩ := hy
          simp only [OR, hB] at hor
          obtain ⟨cs, fr, hh, hun, hz0, hcs, hln, hmx, hdr⟩ := hor
          rcases had with rfl | ⟨rfl, _⟩
          · have hD := (hdr.drop off).take len
            have e1 : ((cs.toList.take (l.length * z)).drop (off * z)).take (len * z) = (cs.toList.drop (off * z)).take (len * z) := by
              have h6 : (off + len) * z ≤ l.length * z := Nat.mul_le_mul_right _ hol
              rw [Nat.add_mul] at h6
              rw [List.drop_take, List.take_take, Nat.min_eq_left (by omega)]
            rw [e1] at hD
            refine ⟨(cs.toList.drop (off * z)).take (len * z), fun W => by simp [Builtin.lenOf, hlen], fun W hW => ?_, hD.length, hD⟩
            rw [hlen]
            refine run_firstCells_some (P := P) W z len _ _ _ _ (by rw [hD.length, hlen]) ?_
            exact Cells_of_block (w := W) (by rw [hW]; exact hh) _ _
          · refine ⟨[], fun W => by simp [Builtin.lenOf], fun W _ => by simp [Builtin.firstCells, loadCells, loadCellsFrom], by simp, by simp [DRr]⟩
      · cases h
    · cases h
  · rename_i s
    split at h
    · rename_i hz
      subst hz
      simp only [Option.some.injEq] at h
      subst h
      have := val_of_scalar rfl hy
      subst this
      refine ⟨s.data.toList.map fun b => .int .u8 b.toNat, fun W => by simp [Builtin.lenOf, valD], fun W _ => ?_, by simp, ?_⟩
      · simp only [valD, Builtin.firstCells, Sem.run_pure]
        congr 1
        apply Array.ext'
        have e1 : (s.extract 0 (List.map byteD s.data.toList).length) = s := by
          have : (List.map byteD s.data.toList).length = s.size := by simp
          rw [this]
          exact ByteArray.extract_zero_size
        rw [e1]
        simp
      · generalize s.data.toList = l
        induction l with
        | nil => simp [DRr]
        | cons b r ih => simp only [List.map_cons, DRr]; exact ⟨[.int .u8 b.toNat], _, rfl, rfl, by simp [DRc, byteD], ih⟩
    · cases h
  · cases h
theorem appendV_run (hf : FR F B w S a) (hN : a.tmps.size = N) {d : Nat} (hd : dstOK N (some d) = true) {ats : Array TypeId} {ty : TypeId} {x y : AV} {u v : Value} (hx : VR w F B S.c x u) (hy : VR w F B S.c y v) (h : appendV P ats x y d S K) :
    ∃ r w', (Builtin.append_ ats ty #[u, v]).run P w = .ok r w' ∧ ∃ S' F' B', K S' ∧ Tr N F B w S F' B' w' S' (a.put (some d) r) := by
  unfold appendV at h
  split at h
  · rename_i t t' ht
    have hats' : ats = #[t, t'] := Array.ext' (by simpa using ht)
    subst hats'
    split at h
    · rename_i e sz b hei
      obtain ⟨ti, hu, hti, hsz, h0, hag, hb1⟩ := elemI_spec hei
      obtain ⟨hzl, hsh, hby0, h⟩ := h
      have hbo : P.bytesOf e = ti.bytes := by simp [Program.bytesOf, hti]
      rw [hbo] at hby0 h
      have hz : ∃ z, ti.zero = some z ∧ z.cells.size = sz := by
        unfold zeroI at hzl
        rw [hti] at hzl
        simp only at hzl
        cases hzz : ti.zero with
        | none => simp [hzz] at hzl
        | some z => exact ⟨z, rfl, by simpa [hzz] using hzl⟩
      obtain ⟨z, hz, hzs⟩ := hz
      split at h
      · rename_i l k ys hap han
        obtain ⟨hby, hk⟩ := h
        obtain ⟨news, n1, n2, n3, n4⟩ := apNew_run (P := P) hf hy han
        have hbase : ∃ old : List Value, DRr w F sz l old ∧ ((u = .slice none 0 0 ∧ l.length = 0 ∧ old = []) ∨ ∃ b cap cs fr, u = .slice (some ⟨b, 0, none⟩) l.length cap ∧ w.heap[b]? = some (.cells cs e fr) ∧ Unf cs fr ∧ cs.size = cap * sz ∧ l.length ≤ cap ∧ cap ≤ maxLen ∧ old = cs.toList.take (l.length * sz)) ∧
            (∀ b, u.ownBlock = some b → ∃ k0 g n, k = some k0 ∧ objIn S.H k0 = some (g, .row e sz l) ∧ B g = some (b, n)) := by
          unfold apBase at hap
          split at hap
          · simp only [Option.some.injEq, Prod.mk.injEq] at hap
            obtain ⟨rfl, rfl⟩ := hap
            simp only [VR] at hx
            subst hx
            exact ⟨[], by simp [DRr], .inl ⟨rfl, rfl, rfl⟩, fun b hb => by simp [Value.ownBlock] at hb⟩
          · rename_i k0 g z1 off len
            split at hap
            · rename_i g' e' z' l' hob
              split at hap
              · rename_i hc
                obtain ⟨rfl, rfl, rfl, rfl, rfl, rfl⟩ := hc
                simp only [Option.some.injEq, Prod.mk.injEq] at hap
                obtain ⟨rfl, rfl⟩ := hap
                have hor := hf.objsIn hob
                simp only [VR] at hx
                obtain ⟨hg, hx⟩ := hx
                split at hx
                · rename_i hB
                  obtain ⟨rfl, _, hl0⟩ := hx
                  have : l' = [] := List.eq_nil_of_length_eq_zero hl0
                  subst this
                  exact ⟨[], by simp [DRr], .inl ⟨rfl, rfl, rfl⟩, fun b hb => by simp [Value.ownBlock] at hb⟩
                · rename_i bb n hB
                  obtain ⟨ad, rfl, hcap, had⟩ := hx
                  have had' : ad = ⟨bb, 0, none⟩ := by rcases had with h | h; simpa using h; omega
                  subst had'
                  simp only [OR, hB] at hor
                  obtain ⟨cs, fr, hh, hun, hz0, hcs, hln, hmx, hdr⟩ := hor
                  refine ⟨_, hdr, .inr ⟨bb, n, cs, fr, rfl, hh, hun, hcs, hln, hmx, rfl⟩, fun b hb => ?_⟩
                  simp only [Value.ownBlock, Option.some.injEq] at hb
                  subst hb
                  exact ⟨k0, _, n, rfl, hob, hB⟩
              · cases hap
            · cases hap
          · cases hap
        obtain ⟨old, ho1, ho2, ho3⟩ := hbase
        obtain ⟨v', w', hr, hos, htp, hout, hcase⟩ := run_append (P := P) (ty := ty) hu hti hsz hz hzs h0 hsh n1 (by rw [hsz] at *; exact n2) n3 (DRr_one n4) ho2 hby hby0
        refine ⟨v', w', hr, ?_⟩
        have hsub : (dropKey [d] (rmKey k S.H)).Sublist S.H := by
          refine (dropKey_sub _ _).trans ?_
          cases k with
          | none => exact List.Sublist.refl _
          | some k0 => exact List.filter_sublist
        have hrest : ∀ x ∈ dropKey [d] (rmKey k S.H), ∀ b, u.ownBlock = some b → ¬ b ∈ blkL B x.2.1 := by
          intro x hx b hb hB
          obtain ⟨k0, g, m, rfl, hob, hBg⟩ := ho3 b hb
          have hm := mem_of_objIn hob
          have hxm := hsub.subset hx
          have hxk : x.1 ≠ k0 := by
            have := (dropKey_sub _ _).subset hx
            simp only [rmKey, List.mem_filter] at this
            simpa using this.2
          by_cases hg : x.2.1 = g
          · have := same_entry hf.gensNodup hxm hm hg
            exact hxk (by rw [this])
          · exact hf.apartL hxm hm hg hB (blkL_of hBg)
        have finish : ∀ (bo : Option (Nat × Nat)), w.heap.size ≤ w'.heap.size → (∀ i, i < w.heap.size → u.ownBlock ≠ some i → w'.heap[i]? = w.heap[i]?) →
            (∀ b n, bo = some (b, n) → b < w'.heap.size ∧ (w.heap.size ≤ b ∨ u.ownBlock = some b) ∧ n ≤ maxLen) → OR w' F (updB B S.c bo) (S.c + 1) S.c (.row e sz (l ++ ys)) →
            VR w' F (updB B S.c bo) (S.c + 1) (.ref [d] S.c sz 0 (l.length + ys.length)) v' →
            ∃ S' F' B', K S' ∧ Tr N F B w S F' B' w' S' (a.put (some d) v') := by
          intro bo hle hkeep hbo hor hvr
          have hFb : ∀ i, F i → u.ownBlock ≠ some i := by
            intro i hi hb
            obtain ⟨k0, g, m, _, hob, hBg⟩ := ho3 i hb
            exact (hf.sep i (Own.of (mem_of_objIn hob) hBg)).1 hi
          have hbo' : ∀ b ∈ blkO bo, b < w'.heap.size ∧ (w.heap.size ≤ b ∨ u.ownBlock = some b) := by
            intro b hb
            cases bo with
            | none => simp [blkO] at hb
            | some p =>
              obtain ⟨b', n⟩ := p
              obtain ⟨h1, h2, h3⟩ := hbo b' n rfl
              rw [blkO_le h3, List.mem_singleton] at hb
              subst hb
              exact ⟨h1, h2⟩
          have hnd : NewOK bo (.row e sz (l ++ ys)) := NewOK.of fun b n h => (hbo b n h).2.2
          have hf2 := FR.add (w' := w') (bo := bo) (k := [d]) (o := .row e sz (l ++ ys)) hf hsub hle (fun i hi => hkeep i (hf.Flt i hi) (hFb i hi))
            (fun x hx b hb => hkeep b (hf.sep b ⟨x.1, x.2.1, x.2.2, hsub.subset hx, hb⟩).2 (fun hub => hrest x hx b hub hb))
            (fun b hb => by
              obtain ⟨h1, h2⟩ := hbo' b hb
              refine ⟨fun hF => ?_, h1, fun x hx hx' => ?_⟩
              · rcases h2 with h2 | h2
                · have := hf.Flt b hF; omega
                · exact hFb b hF h2
              · rcases h2 with h2 | h2
                · have := (hf.sep b ⟨x.1, x.2.1, x.2.2, hsub.subset hx, hx'⟩).2; omega
                · exact hrest x hx b h2 hx') hnd hor
          have hf3 := hf2.put (S := ⟨S.E, ([d], S.c, .row e sz (l ++ ys)) :: dropKey [d] (rmKey k S.H), S.c + 1⟩) hN hd hvr
          refine ⟨_, F, _, hk, hf3, by rw [Act.put_size]; exact hN, fun _ h => h, fun i hi hn => hkeep i hi fun hub => ?_, fun i hi => ?_, hos, htp, hout, hle, fun g hg => updB_old (Nat.lt_of_lt_of_le hg hf.pin)⟩
          · obtain ⟨k0, g, m, _, hob, hBg⟩ := ho3 i hub
            exact hn (Own.of (mem_of_objIn hob) hBg)
          · rcases hi with hi | ⟨k1, g, o', hm, hB⟩
            · exact .inl hi
            · have hm' : (k1, g, o') ∈ ([d], S.c, AO.row e sz (l ++ ys)) :: dropKey [d] (rmKey k S.H) := hm
              rcases List.mem_cons.1 hm' with h | h
              · simp only [Prod.mk.injEq] at h
                obtain ⟨rfl, rfl, rfl⟩ := h
                rw [blkL_new] at hB
                rcases (hbo' i hB).2 with h2 | h2
                · exact .inr (.inr h2)
                · obtain ⟨k0, g, m, _, hob, hBg⟩ := ho3 i h2
                  exact .inr (.inl (Own.of (mem_of_objIn hob) hBg))
              · have hmS := hsub.subset h
                rw [blkL_congr (updB_old (hf.objs k1 g o' hmS).1)] at hB
                exact .inr (.inl ⟨k1, g, o', hmS, hB⟩)
        rcases hcase with ⟨rfl, rfl, rfl, hnm⟩ | ⟨b, cap, cs, fr, cs', rfl, hh, rfl, hheap, hun', hcs', hroom, hcm, htake⟩ | ⟨cap, cs', rfl, hheap, hcs', hroom, hcm, htake⟩
        · refine finish none (Nat.le_refl _) (fun _ _ _ => rfl) (fun b n hb => by cases hb) ?_ ?_
          · simp only [OR, updB_new]
            exact List.eq_nil_of_length_eq_zero (by simpa using hnm)
          · simp only [VR, updB_new]
            exact ⟨Nat.lt_succ_self _, by simpa using hnm⟩
        · have hlt := lt_heap hh
          have hFk : ∀ i, F i → w'.heap[i]? = w.heap[i]? := fun i hi => by
            rw [hheap]
            refine setB_ne w b i _ fun e => ?_
            obtain ⟨k0, g, m, _, hob, hBg⟩ := ho3 b rfl
            exact (hf.sep b (Own.of (mem_of_objIn hob) hBg)).1 (e ▸ hi)
          refine finish (some (b, cap)) (by rw [hheap, setB_size]; omega) (fun i hi hne => ?_) (fun b' n hb => ?_) ?_ ?_
          · rw [hheap]
            exact setB_ne w b i _ fun e => hne (by simp [Value.ownBlock, e])
          · simp only [Option.some.injEq, Prod.mk.injEq] at hb
            obtain ⟨rfl, rfl⟩ := hb
            exact ⟨by rw [hheap, setB_size]; exact hlt, .inr rfl, hcm⟩
          · simp only [OR, updB_new]
            refine ⟨cs', fr, by rw [hheap]; exact setB_at w b _ hlt, hun', h0, hcs', by simpa using hroom, hcm, ?_⟩
            rw [List.length_append, htake]
            exact DRr.mono hFk (fun _ h => h) _ _ _ (ho1.append n4)
          · simp only [VR, updB_new]
            exact ⟨Nat.lt_succ_self _, _, rfl, by omega, .inl (by simp)⟩
        · have hext : ∀ i, i < w.heap.size → w'.heap[i]? = w.heap[i]? := fun i hi => by rw [hheap]; exact ext_alloc w _ i hi
          refine finish (some (w.heap.size, cap)) (by rw [hheap, alloc_size]; omega) (fun i hi _ => hext i hi) (fun b' n hb => ?_) ?_ ?_
          · simp only [Option.some.injEq, Prod.mk.injEq] at hb
            obtain ⟨rfl, rfl⟩ := hb
            exact ⟨by rw [hheap, alloc_size]; omega, .inl (Nat.le_refl _), hcm⟩
          · simp only [OR, updB_new]
            refine ⟨cs', (0, 0), by rw [hheap]; exact alloc_at w _, unf0 cs', h0, hcs', by simpa using hroom, hcm, ?_⟩
            rw [List.length_append, htake]
            exact DRr.mono (fun i hi => hext i (hf.Flt i hi)) (fun _ h => h) _ _ _ (ho1.append n4)
          · simp only [VR, updB_new]
            exact ⟨Nat.lt_succ_self _, _, rfl, by omega, .inl (by simp)⟩
      · exact h.elim
    · exact h.elim
  · exact h.elim
end
end Go.Fw
namespace Go.Fw
open Go
set_option linter.unusedVariables false
set_option linter.unusedSimpArgs false
section
variable {P : Program} {F : Nat → Prop} {B : Blk} {w w' : World} {S : St} {a : Act} {N nv : Nat} {K : St → Prop}
theorem FK_nil (F : Nat → Prop) (H : List (Key × Nat × AO)) (B : Blk) : (fun b => F b ∨ FK H B [] b) = F := by
  funext b
  refine propext ⟨fun h => h.elim id ?_, .inl⟩
  rintro ⟨k, g, o, h, _⟩
  simp at h
theorem zeroI_spec {t : TypeId} {z : List AV} (h : zeroI P t = some z) : ∃ i v, P.info? t = some i ∧ i.zero = some v ∧ z = v.cells.toList.map cAV := by
  unfold zeroI at h
  split at h
  · rename_i i hi
    split at h
    · rename_i v hv
      simp only [Option.some.injEq] at h
      exact ⟨i, v, hi, hv, h.symm⟩
    · cases h
  · cases h
theorem zeroD_spec {e : TypeId} {z : D} (hF : FL F w) (h : zeroD P e = some z) : ∃ i v, P.info? e = some i ∧ i.zero = some v ∧ DRc w F z v.cells.toList := by
  unfold zeroD at h
  split at h
  · rename_i zs b hz hb
    obtain ⟨i, v, hi, hv, rfl⟩ := zeroI_spec hz
    split at h
    · rename_i xs hxs
      split at h
      · rename_i hco
        have hf0 : FR F (fun _ => none) w ⟨[], [], 16⟩ { tmps := #[], defers := [] } :=
          ⟨fun t => by simp [getIn, VR], fun k g o h => by simp at h, fun b hb => by obtain ⟨_, _, _, h, _⟩ := hb; simp at h, by simp, by simp, hF, rfl, Nat.le_refl _⟩
        have hD := toDl_DR (P := P) hf0 99 _ xs [] v.cells.toList hxs hco (zero_VR v w _ _ _ _)
        have hD' : DRl w F xs v.cells.toList := DRl.mono (fun _ _ => rfl) (fun b hb => by
          rcases hb with hb | ⟨k, g, o, h, _⟩
          · exact hb
          · simp at h) _ _ hD
        split at h
        · simp only [Option.some.injEq] at h
          subst h
          exact ⟨i, v, hi, hv, by simpa [DRc] using hD'⟩
        · split at h
          · rename_i y
            simp only [Option.some.injEq] at h
            subst h
            simp only [DRl] at hD'
            obtain ⟨v1, _, e1, h0, h1, rfl⟩ := hD'
            exact ⟨i, v, hi, hv, by rw [e1]; exact h1⟩
          · cases h
      · cases h
    · cases h
  · cases h
theorem rep_cells (zc : List Value) : ∀ (n : Nat), (List.range (n * zc.length)).map (fun i => zc.toArray[i % zc.length]!) = (List.replicate n zc).flatten
  | 0 => by simp
  | n + 1 => by
    rw [Nat.add_mul, Nat.one_mul, List.range_add, List.map_append, rep_cells zc n, List.replicate_succ', List.flatten_append]
    congr 1
    simp only [List.map_map, List.flatten_cons, List.flatten_nil, List.append_nil]
    apply List.ext_getElem
    · simp
    · intro i h1 h2
      simp only [List.length_map, List.length_range] at h1
      simp [Nat.mod_eq_of_lt h1, h1]
theorem DRr_rep {z : D} {zc : List Value} {sz : Nat} (hz : DRc w F z zc) (hl : zc.length = sz) : ∀ n, DRr w F sz (List.replicate n z) (List.replicate n zc).flatten
  | 0 => by simp [DRr]
  | n + 1 => by
    simp only [List.replicate_succ, List.flatten_cons, DRr]
    exact ⟨zc, _, rfl, hl, hz, DRr_rep hz hl n⟩
theorem makeSlice_run (hF : FL F w) {t e sz : Nat} {b : Bool} (hei : elemI P t = some (e, sz, b)) {n : Int} (h0 : 0 ≤ n) (hby : n.toNat * P.bytesOf e ≤ 281474976710656) (hb0 : 0 < P.bytesOf e) {z : D} (hz : zeroD P e = some z) (hzl : (zeroI P e).map List.length = some sz) :
    ∃ cs : Array Value, (Instr.makeSlice t (.int .i64 n) (.int .i64 n)).run P w = .ok (.slice (some ⟨w.heap.size, 0, none⟩) n.toNat n.toNat) (w.alloc (.cells cs e)) ∧ cs.size = n.toNat * sz ∧ DRr w F sz (List.replicate n.toNat z) (cs.toList.take (n.toNat * sz)) := by
  obtain ⟨ti, hu, hti, hsz, hs0, hag, hb1⟩ := elemI_spec hei
  obtain ⟨i, v, hi, hv, hD⟩ := zeroD_spec (w := w) (F := F) hF hz
  rw [hti] at hi
  cases hi
  have hbo : P.bytesOf e = ti.bytes := by simp [Program.bytesOf, hti]
  rw [hbo] at hby hb0
  have hvl : v.cells.size = sz := by
    unfold zeroI at hzl
    rw [hti] at hzl
    simp only [hv] at hzl
    simpa using hzl
  have hn48 : n.toNat ≤ 281474976710656 := Nat.le_trans (Nat.le_mul_of_pos_right _ hb0) hby
  have hnn : (n.toNat : Int) = n := by omega
  have hw : IntKind.i64.wrap n = n := wrap_id (by omega) (by omega)
  have hlt : ¬ ((ti.bytes : Int) * n > 281474976710656) := by
    rw [← hnn]
    have h9 : ((n.toNat * ti.bytes : Nat) : Int) ≤ ((281474976710656 : Nat) : Int) := Int.ofNat_le.2 hby
    rw [Int.natCast_mul] at h9
    rw [Int.mul_comm]
    exact Int.not_lt.2 h9
  have hneg : ¬ (n < 0) := by omega
  have ask : (askRoom (n.toNat * ti.bytes)).run P w = .ok () w := by unfold askRoom; split <;> rfl
  have hzr : (zeroValue e).run P w = .ok v w := by simp [zeroValue, typeInfo, hti, hv]
  have hty : (typeInfo e).run P w = .ok ti w := by simp [typeInfo, hti]
  refine ⟨((Array.range (n.toNat * sz)).map ((if n.toNat * sz = 0 then #[] else v.cells)[· % (if n.toNat * sz = 0 then #[] else v.cells).size]!)), ?_, by simp, ?_⟩
  · have h1 : (decide (n < 0) || decide ((ti.bytes : Int) * n > 2 ^ 48)) = false := by simp; omega
    simp only [Instr.makeSlice, Sem.run_bind, run_underlying hu, Result.andThen_ok, asInt, asIntOf, Sem.run_pure, hty, hw, h1, Bool.false_or]
    have h2 : (decide (n < 0) || decide (n > n)) = false := by simp; omega
    simp only [h2, Bool.false_eq_true, if_false, Sem.run_bind, ask, Result.andThen_ok, run_sizeOf hti, hsz, Sem.run_pure]
    by_cases hzz : n.toNat * sz = 0
    · simp only [if_pos hzz, Sem.run_bind, Sem.run_pure, Result.andThen_ok, run_newRow]
    · simp only [if_neg hzz, Sem.run_bind, hzr, Sem.run_pure, Result.andThen_ok, run_newRow]
  · by_cases hzz : n.toNat * sz = 0
    · have : n.toNat = 0 := by rcases Nat.mul_eq_zero.1 hzz with h | h <;> omega
      simp [this, DRr]
    · simp only [if_neg hzz]
      have e1 : ((Array.range (n.toNat * sz)).map (v.cells[· % v.cells.size]!)).toList = (List.replicate n.toNat v.cells.toList).flatten := by
        rw [Array.toList_map, Array.toList_range, ← rep_cells v.cells.toList n.toNat]
        simp [hvl]
      rw [e1, List.take_of_length_le (by simp [hvl])]
      exact DRr_rep hD (by simpa using hvl) n.toNat
theorem zeroCells_list (zc : Array Value) (n : Nat) : (Builtin.zeroCells zc n).toList = (List.replicate n zc.toList).flatten := by
  unfold Builtin.zeroCells
  rw [Array.toList_map, Array.toList_range, ← rep_cells zc.toList n]
  simp
theorem appendZ_run (hF : FL F w) {t t' e sz ty : Nat} {b : Bool} (hei : elemI P t = some (e, sz, b)) (hi : isIntT P t' = true) {n : Int} (h0 : 0 < n) (hby : n.toNat * P.bytesOf e ≤ 140737488355328) (hb0 : 0 < P.bytesOf e) {z : D} (hz : zeroD P e = some z) (hzl : (zeroI P e).map List.length = some sz) :
    ∃ (cs : Array Value) (cap : Nat), (Builtin.append_ #[t, t'] ty #[.slice none 0 0, .int .i64 n]).run P w = .ok (.slice (some ⟨w.heap.size, 0, none⟩) n.toNat cap) (w.drew.alloc (.cells cs e)) ∧ cs.size = cap * sz ∧ n.toNat ≤ cap ∧ cap ≤ maxLen ∧ DRr w F sz (List.replicate n.toNat z) (cs.toList.take (n.toNat * sz)) := by
  obtain ⟨ti, hu, hti, hsz, hs0, hag, hb1⟩ := elemI_spec hei
  obtain ⟨i, v, hi', hv, hD⟩ := zeroD_spec (w := w) (F := F) hF hz
  rw [hti] at hi'
  cases hi'
  have hbo : P.bytesOf e = ti.bytes := by simp [Program.bytesOf, hti]
  rw [hbo] at hby hb0
  have hvl : v.cells.size = sz := by
    unfold zeroI at hzl
    rw [hti] at hzl
    simp only [hv] at hzl
    simpa using hzl
  have hn48 : n.toNat ≤ 140737488355328 := Nat.le_trans (Nat.le_mul_of_pos_right _ hb0) hby
  have hnn : (n.toNat : Int) = n := by omega
  have hw : IntKind.i64.wrap n = n := wrap_id (by omega) (by omega)
  have hlt : ¬ (281474976710656 < n * (ti.bytes : Int)) := by
    rw [← hnn]
    have h9 : ((n.toNat * ti.bytes : Nat) : Int) ≤ ((140737488355328 : Nat) : Int) := Int.ofNat_le.2 hby
    rw [Int.natCast_mul] at h9
    omega
  have hneg : ¬ (n < 0) := by omega
  have hge := grownCap_ge w n.toNat 0 e
  have hcm : grownCap w n.toNat 0 e ≤ maxLen := grownCap_le_maxLen w n.toNat 0 e (by simp only [maxLen]; omega)
  have hfit := growslice_fits (need := n.toNat) (old := 0) (by omega) hby
  have hk : ∃ k, P.underlying t' = some (.int k) := by
    unfold isIntT at hi
    split at hi
    · exact ⟨_, by assumption⟩
    · cases hi
  obtain ⟨k, hk⟩ := hk
  have hroom : ¬ n.toNat = 0 := by omega
  have h48 : ¬ (281474976710656 < Builtin.nextslicecap n.toNat 0 * ti.bytes) := by omega
  have hn0 : ¬ (n.toNat * ti.size = 0) := by
    rw [hsz]
    intro h
    rcases Nat.mul_eq_zero.1 h with h | h <;> omega
  refine ⟨Builtin.zeroCells v.cells n.toNat ++ Builtin.zeroCells v.cells (grownCap w n.toNat 0 e - n.toNat), grownCap w n.toNat 0 e, ?_, ?_, hge, hcm, ?_⟩
  · have h63 : ¬ (9223372036854775807 < (n.toNat : Int)) := by omega
    have h64 : ¬ (9223372036854775807 < max n 0) := by omega
    have h65 : ¬ (n ≤ 0) := by omega
    have hf0 : ∀ W, (Builtin.firstCells ti.size 0 (.slice none 0 0)).run P W = .ok #[] W := fun W => by simp [Builtin.firstCells]
    simp [Builtin.append_, run_underlying hu, run_underlying hk, sizeOf, typeInfo, zeroValue, hti, hv, asInt, asIntOf, hw, hneg, hlt, hroom, h63, h48, hn0, Question.forced, newRow, grownCap, hf0, h64, h65]
  · simp only [Array.size_append, size_zeroCells, hvl, ← Nat.add_mul]
    congr 1
    omega
  · simp only [Array.toList_append]
    rw [List.take_left' (by rw [zeroCells_list]; simp [hvl])]
    rw [zeroCells_list]
    exact DRr_rep hD (by simpa using hvl) n.toNat
theorem unfL (cs : Array Value) : Unf cs (cs.size, cs.size + 1) := fun i hi => by simp; omega
theorem toBytes_run {e : TypeId} {s : ByteArray} (hs : s.size ≤ 4611686018427387904) :
    ∃ (w' : World) (cs : Array Value) (n : Nat), (Conv.stringToBytes e s).run P w = .ok (.slice (some ⟨w.heap.size, 0, none⟩) s.size n) w' ∧ w'.heap = (w.alloc (.cells cs e (cs.size, cs.size + 1))).heap ∧ cs.size = n ∧ s.size ≤ n ∧ n ≤ maxLen ∧
      cs.toList.take s.size = s.data.toList.map (fun b => .int .u8 b.toNat) ∧ w'.os = w.os ∧ w'.tape = w.tape ∧ w'.output = w.output := by
  have hge := grownCap_ge w s.size 0 e
  have hle := grownCap_le_maxLen w s.size 0 e (by simp only [maxLen]; omega)
  generalize hn : grownCap w s.size 0 e = n at hge hle
  have hn' : (Question.appendCap s.size 0 e).cut (w.tape w.drawn (Question.appendCap s.size 0 e)) = n := by rw [← hn]; rfl
  let cs : Array Value := (s.data.map fun b => Value.int .u8 b.toNat) ++ Array.replicate (n - s.size) (.int .u8 0)
  have hcs : cs.size = n := by
    have h1 : s.data.size = s.size := rfl
    simp [cs, h1]
    omega
  refine ⟨((w.drew.alloc (.cells cs e)).freeze ⟨w.heap.size, n, none⟩ 1), cs, n, ?_, ?_, hcs, hge, hle, ?_, ?_, ?_, ?_⟩
  · have hsh : (w.drew.alloc (.cells cs e)).shape? w.heap.size = some (e, n) := by
      have : (w.drew.alloc (.cells cs e)).heap[w.heap.size]? = some (.cells cs e) := alloc_at w.drew _
      simp only [World.shape?, this, hcs]
    have hmk : (markStringish ⟨w.heap.size, 0, none⟩).run P (w.drew.alloc (.cells cs e)) = .ok () ((w.drew.alloc (.cells cs e)).freeze ⟨w.heap.size, n, none⟩ 1) := by
      simp only [markStringish, shape, Sem.run_bind, Sem.run, hsh, Result.andThen_ok, freeze]
    have hch : (choose (.appendCap s.size 0 e)).run P w = .ok n w.drew := by
      simp only [choose, Sem.run, Question.forced, Bool.false_eq_true, if_false, hn']
      rfl
    simp only [Conv.stringToBytes, Sem.run_bind, hch, Result.andThen_ok, run_newRow]
    have e1 : (w.drew.heap.size) = w.heap.size := rfl
    rw [e1, hmk]
    rfl
  · simp only [World.freeze, Nat.one_ne_zero, if_false]
    have h1 : w.drew.alloc (.cells cs e) = w.drew.alloc (.cells cs e) := rfl
    apply Array.ext_getElem?
    intro i
    rw [Array.getElem?_modify]
    by_cases hi : w.heap.size = i
    · subst hi
      rw [if_pos rfl, alloc_at]
      have : (w.drew.alloc (.cells cs e)).heap[w.heap.size]? = some (.cells cs e) := alloc_at w.drew _
      rw [this]
      simp [hcs]
    · rw [if_neg hi]
      show (w.heap.push _)[i]? = (w.heap.push _)[i]?
      rw [Array.getElem?_push, Array.getElem?_push, if_neg (fun h => hi h.symm), if_neg (fun h => hi h.symm)]
  · have h1 : s.data.size = s.size := rfl
    have : cs.toList = (s.data.toList.map fun b => Value.int .u8 b.toNat) ++ List.replicate (n - s.size) (.int .u8 0) := by simp [cs]
    rw [this]
    exact List.take_left' (by simp)
  all_goals simp only [World.freeze, Nat.one_ne_zero, if_false]; rfl
theorem bytesD (l : List UInt8) : DRr w F 1 (l.map byteD) (l.map fun b => Value.int .u8 b.toNat) := by
  induction l with
  | nil => simp [DRr]
  | cons b r ih => simp only [List.map_cons, DRr]; exact ⟨[.int .u8 b.toNat], _, rfl, rfl, by simp [DRc, byteD], ih⟩
end
end Go.Fw
