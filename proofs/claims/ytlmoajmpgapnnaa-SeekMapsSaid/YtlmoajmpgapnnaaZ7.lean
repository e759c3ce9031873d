/- What the proofs of this seat lean on, part 7: a symbolic machine that is shown sound, walks through functions, plain laws. -/
import Derived.Test.YtlmoajmpgapnnaaZ6
import Derived.Laws.AppendOwn
namespace Go.Fw
open Go
set_option linter.unusedVariables false
set_option linter.unusedSimpArgs false
def setB (w : World) (b : Nat) (o : Obj) : World := { w with heap := w.heap.setIfInBounds b o }
section
variable {P : Program} {F : Nat → Prop} {B : Blk} {w w' : World} {S : St} {a : Act} {N : Nat}
theorem setB_at (w : World) (b : Nat) (o : Obj) (h : b < w.heap.size) : (setB w b o).heap[b]? = some o := by simp [setB, h]
theorem setB_ne (w : World) (b i : Nat) (o : Obj) (h : i ≠ b) : (setB w b o).heap[i]? = w.heap[i]? := by
  simp only [setB]
  rw [Array.getElem?_setIfInBounds_ne (by omega)]
theorem setB_size (w : World) (b : Nat) (o : Obj) : (setB w b o).heap.size = w.heap.size := by simp [setB]
theorem setB_setB (w : World) (b : Nat) (o o' : Obj) : setB (setB w b o) b o' = setB w b o' := by simp [setB]
theorem setCell_setB {b i : Nat} {cs : Array Value} {e : Nat} {fr : Nat × Nat} (h : w.heap[b]? = some (.cells cs e fr)) (v : Value) : w.setCell ⟨b, i, none⟩ v = setB w b (.cells (cs.setIfInBounds i v) e fr) := by
  have hlt := lt_heap h
  simp only [World.setCell, setB]
  congr 1
  apply Array.ext_getElem?
  intro j
  rw [Array.getElem?_modify]
  by_cases hj : b = j
  · subst hj
    rw [if_pos rfl, h, Array.getElem?_setIfInBounds_self_of_lt hlt]
    rfl
  · rw [if_neg hj, Array.getElem?_setIfInBounds_ne hj]
theorem run_store_cell {b i : Nat} {cs : Array Value} {e : Nat} {fr : Nat × Nat} (h : w.heap[b]? = some (.cells cs e fr)) (hi : i < cs.size) (hu : Unf cs fr) {v : Value} (hv : v.oneCell' = true) :
    (store ⟨b, i, none⟩ v).run P w = .ok () (setB w b (.cells (cs.setIfInBounds i v) e fr)) := by
  rw [run_store P w _ _ _ hv, cell_at h]
  have hf : w.frozen? ⟨b, i, none⟩ = false := by simp only [World.frozen?, h]; exact hu i hi
  simp [hi, hf, setCell_setB h]
theorem run_storeCells {b off e : Nat} {fr : Nat × Nat} : ∀ (vs : List Value) (i : Nat) (cs : Array Value) (w : World), w.heap[b]? = some (.cells cs e fr) → Unf cs fr → off + i + vs.length ≤ cs.size → (∀ v ∈ vs, v.oneCell' = true) →
    ∃ cs' : Array Value, (storeCells ⟨b, off, none⟩ vs i).run P w = .ok () (setB w b (.cells cs' e fr)) ∧ cs'.toList = cs.toList.take (off + i) ++ vs ++ cs.toList.drop (off + i + vs.length)
  | [], i, cs, w, h, hu, hl, hv => by
    refine ⟨cs, ?_, by simp⟩
    simp only [storeCells, Sem.run_pure]
    congr 1
    have hlt := lt_heap h
    have hh : w.heap.setIfInBounds b (.cells cs e fr) = w.heap := by
      apply Array.ext_getElem?
      intro j
      by_cases hj : b = j
      · subst hj; rw [Array.getElem?_setIfInBounds_self_of_lt hlt, h]
      · rw [Array.getElem?_setIfInBounds_ne hj]
    simp [setB, hh]
  | v :: r, i, cs, w, h, hu, hl, hv => by
    simp only [List.length_cons] at hl
    have h1 := run_store_cell (P := P) (i := off + i) h (by omega) hu (hv v (by simp))
    have hlt := lt_heap h
    have hl2 : off + (i + 1) + r.length ≤ (cs.setIfInBounds (off + i) v).size := by rw [Array.size_setIfInBounds]; omega
    obtain ⟨cs', h2, h3⟩ := run_storeCells r (i + 1) (cs.setIfInBounds (off + i) v) (setB w b (.cells (cs.setIfInBounds (off + i) v) e fr)) (setB_at w b _ hlt) (fun j hj => hu j (by simpa using hj)) hl2 (fun u hu' => hv u (by simp [hu']))
    refine ⟨cs', ?_, ?_⟩
    · simp only [storeCells, Sem.run_bind, add_plain]
      rw [h1]
      simp only [Result.andThen_ok]
      rw [h2, setB_setB]
    · rw [h3, Array.toList_setIfInBounds]
      have hlt2 : off + i < cs.toList.length := by simp; omega
      have e1 : (cs.toList.set (off + i) v).take (off + (i + 1)) = cs.toList.take (off + i) ++ [v] := by
        rw [← Nat.add_assoc, List.take_succ_eq_append_getElem (by simpa using hlt2), List.take_set_of_le (Nat.le_refl _)]
        simp
      have e2 : (cs.toList.set (off + i) v).drop (off + (i + 1) + r.length) = cs.toList.drop (off + i + (r.length + 1)) := by
        rw [List.drop_set_of_lt (by omega)]
        congr 1
        omega
      rw [e1, e2]
      simp
theorem VR_one {c : Nat} {x : AV} {v : Value} (h : VR w F B c x v) (hc : x.cell = true) : v.oneCell' = true := by
  cases x with
  | d x =>
    cases x with
    | agg l => simp [AV.cell, D.isAgg] at hc
    | sl z l => simp only [VR, DRv, DRc] at h; obtain ⟨A, cc, hu, _⟩ := h; simp only [List.cons.injEq, and_true] at hu; subst hu; rfl
    | ptr y => simp only [VR, DRv, DRc] at h; obtain ⟨A, cc, hu, _⟩ := h; simp only [List.cons.injEq, and_true] at hu; subst hu; rfl
    | clo fn f cp => simp only [VR, DRv, DRc] at h; obtain ⟨A, cc, hu, _⟩ := h; simp only [List.cons.injEq, and_true] at hu; subst hu; rfl
    | _ => simp only [VR, DRv, DRc, List.cons.injEq, and_true] at h; subst h; rfl
  | nils => simp only [VR] at h; subst h; rfl
  | ref k g z off len => simp only [VR] at h; obtain ⟨_, h⟩ := h; split at h; (obtain ⟨rfl, _⟩ := h; rfl); (obtain ⟨ad, rfl, _⟩ := h; rfl)
  | elt k g z j o => simp only [VR] at h; obtain ⟨_, b, n, _, rfl⟩ := h; rfl
  | addr k g o => simp only [VR] at h; obtain ⟨_, b, n, _, rfl⟩ := h; rfl
  | agg l => simp [AV.cell] at hc
  | tup l => simp [AV.cell] at hc
  | clo fn f cp => simp only [VR] at h; obtain ⟨fv, cv, rfl, _⟩ := h; rfl
  | dead => simp [AV.cell] at hc
  | opt q x => simp [AV.cell] at hc
theorem VRl_one {c : Nat} : ∀ {l : List AV} {vs : List Value}, cellsOK l = true → VRl w F B c l vs → ∀ v ∈ vs, v.oneCell' = true
  | [], vs, _, h => by simp only [VRl] at h; subst h; simp
  | x :: r, vs, hc, h => by
    simp only [cellsOK, Bool.and_eq_true] at hc
    simp only [VRl] at h
    obtain ⟨v, vs', rfl, h1, h2⟩ := h
    intro u hu
    rcases List.mem_cons.1 hu with rfl | hu
    · exact VR_one h1 hc.1
    · exact VRl_one hc.2 h2 u hu
theorem DRl_one : ∀ {l : List D} {vs : List Value}, DRl w F l vs → ∀ v ∈ vs, v.oneCell' = true := fun h => VRl_one (B := fun _ => none) (c := 0) (VRl_of_DRl (B := fun _ => none) (c := 0) h).2 (VRl_of_DRl h).1
theorem DRc_one {x : D} {vs : List Value} (h : DRc w F x vs) : ∀ v ∈ vs, v.oneCell' = true := by
  cases x with
  | agg l => simp only [DRc] at h; exact DRl_one h
  | sl z l => simp only [DRc] at h; obtain ⟨A, cc, rfl, _⟩ := h; simp [Value.oneCell']
  | ptr y => simp only [DRc] at h; obtain ⟨A, cc, rfl, _⟩ := h; simp [Value.oneCell']
  | clo fn f cp => simp only [DRc] at h; obtain ⟨A, cc, rfl, _⟩ := h; simp [Value.oneCell']
  | _ => simp only [DRc] at h; subst h; simp [Value.oneCell']
theorem DRr_one {sz : Nat} : ∀ {l : List D} {vs : List Value}, DRr w F sz l vs → ∀ v ∈ vs, v.oneCell' = true
  | [], vs, h => by simp only [DRr] at h; subst h; simp
  | x :: r, vs, h => by
    simp only [DRr] at h
    obtain ⟨a, b, rfl, _, h1, h2⟩ := h
    intro u hu
    rcases List.mem_append.1 hu with hu | hu
    · exact DRc_one h1 u hu
    · exact DRr_one h2 u hu
 
theorem run_append {t t' ty e sz : Nat} {ti : TypeInfo} {z : Value} (hu : P.underlying t = some (.slice e)) (hti : P.info? e = some ti) (hsz : ti.size = sz) (hz : ti.zero = some z) (hzs : z.cells.size = sz) (h0 : 0 < sz)
    (ht' : shapeT P t' = .slice ∨ shapeT P t' = .str) {y : Value} {m : Nat} {news : List Value} (hlen : ∀ W, (Builtin.lenOf y).run P W = .ok m W) (hfc : ∀ W : World, W.heap = w.heap → (Builtin.firstCells sz m y).run P W = .ok news.toArray W) (hnl : news.length = m * sz) (hone : ∀ v ∈ news, v.oneCell' = true)
    {x : Value} {n : Nat} {old : List Value} (hx : (x = .slice none 0 0 ∧ n = 0 ∧ old = []) ∨ ∃ b cap cs fr, x = .slice (some ⟨b, 0, none⟩) n cap ∧ w.heap[b]? = some (.cells cs e fr) ∧ Unf cs fr ∧ cs.size = cap * sz ∧ n ≤ cap ∧ cap ≤ maxLen ∧ old = cs.toList.take (n * sz))
    (hby : (n + m) * ti.bytes ≤ 140737488355328) (hb0 : 0 < ti.bytes) :
    ∃ v' w', (Builtin.append_ #[t, t'] ty #[x, y]).run P w = .ok v' w' ∧ w'.os = w.os ∧ w'.tape = w.tape ∧ w'.output = w.output ∧
      ((x = .slice none 0 0 ∧ v' = .slice none 0 0 ∧ w' = w ∧ n + m = 0) ∨
       (∃ b cap cs fr cs', x = .slice (some ⟨b, 0, none⟩) n cap ∧ w.heap[b]? = some (.cells cs e fr) ∧ v' = .slice (some ⟨b, 0, none⟩) (n + m) cap ∧ w'.heap = (setB w b (.cells cs' e fr)).heap ∧ Unf cs' fr ∧ cs'.size = cap * sz ∧ n + m ≤ cap ∧ cap ≤ maxLen ∧ cs'.toList.take ((n + m) * sz) = old ++ news) ∨
       (∃ cap cs', v' = .slice (some ⟨w.heap.size, 0, none⟩) (n + m) cap ∧ w'.heap = (w.alloc (.cells cs' e)).heap ∧ cs'.size = cap * sz ∧ n + m ≤ cap ∧ cap ≤ maxLen ∧ cs'.toList.take ((n + m) * sz) = old ++ news)) := by
  subst hsz
  have hm63 : n + m ≤ maxLen := by
    have : n + m ≤ (n + m) * ti.bytes := Nat.le_mul_of_pos_right _ hb0
    simp only [maxLen]; omega
  have hmax := hm63
  simp only [maxLen] at hmax
  have hold : old.length = n * ti.size := by
    rcases hx with ⟨_, rfl, rfl⟩ | ⟨b, cap, cs, fr, _, _, _, hcs, hnc, _, rfl⟩
    · simp
    · have : n * ti.size ≤ cap * ti.size := Nat.mul_le_mul_right _ hnc
      simp; omega
  have grow : ∀ (base : Option Addr) (cap : Nat), x = .slice base n cap → ¬ (n + m ≤ cap) → (∀ W : World, W.heap = w.heap → (Builtin.firstCells ti.size n x).run P W = .ok old.toArray W) →
      ∃ cap' cs', (Builtin.append_ #[t, t'] ty #[x, y]).run P w = .ok (.slice (some ⟨w.heap.size, 0, none⟩) (n + m) cap') (w.drew.alloc (.cells cs' e)) ∧ cs'.size = cap' * ti.size ∧ n + m ≤ cap' ∧ cap' ≤ maxLen ∧ cs'.toList.take ((n + m) * ti.size) = old ++ news := by
    intro base cap e1 hroom hfo
    subst e1
    have hge := grownCap_ge w (n + m) cap e
    have hcm : grownCap w (n + m) cap e ≤ maxLen := grownCap_le_maxLen w (n + m) cap e hm63
    have hfit := growslice_fits (need := n + m) (old := cap) (by omega) hby
    refine ⟨grownCap w (n + m) cap e, old.toArray ++ news.toArray ++ Builtin.zeroCells z.cells (grownCap w (n + m) cap e - (n + m)), ?_, ?_, hge, hcm, ?_⟩
    · have h63 : ¬ (9223372036854775807 < ((n : Int) + (m : Int))) := by omega
      have h48 : ¬ (281474976710656 < Builtin.nextslicecap (n + m) cap * ti.bytes) := by omega
      have hfo1 := hfo w.drew rfl
      have hfc1 := hfc w.drew rfl
      rcases ht' with h | h
      · obtain ⟨e', he⟩ := shapeT_slice h
        simp [Builtin.append_, run_underlying hu, run_underlying he, sizeOf, typeInfo, zeroValue, hti, hz, hlen, hroom, h63, h48, Question.forced, hfc1, hfo1, newRow, grownCap]
        congr 2
        apply Array.ext'
        simp [List.append_assoc]
      · simp [Builtin.append_, run_underlying hu, run_underlying (shapeT_str h), sizeOf, typeInfo, zeroValue, hti, hz, hlen, hroom, h63, h48, Question.forced, hfc1, hfo1, newRow, grownCap]
        congr 2
        apply Array.ext'
        simp [List.append_assoc]
    · simp only [Array.size_append, List.size_toArray, size_zeroCells, hzs, hold, hnl, ← Nat.add_mul]
      congr 1
      omega
    · simp only [Array.toList_append, List.append_assoc]
      rw [← List.append_assoc]
      exact List.take_left' (by simp [hold, hnl, Nat.add_mul])
  rcases hx with ⟨rfl, rfl, rfl⟩ | ⟨b, cap, cs, fr, rfl, hh, hunf, hcs, hnc, hcm, rfl⟩
  · by_cases hm : m = 0
    · subst hm
      have hn : news = [] := List.eq_nil_of_length_eq_zero (by simpa using hnl)
      subst hn
      have hfc := hfc w rfl
      refine ⟨.slice none 0 0, w, ?_, rfl, rfl, rfl, .inl ⟨rfl, rfl, rfl, rfl⟩⟩
      rcases ht' with h | h
      · obtain ⟨e', he⟩ := shapeT_slice h
        simp [Builtin.append_, run_underlying hu, run_underlying he, sizeOf, typeInfo, hti, hlen, hfc]
      · simp [Builtin.append_, run_underlying hu, run_underlying (shapeT_str h), sizeOf, typeInfo, hti, hlen, hfc]
    · obtain ⟨cap', cs', h1, h2, h3, h4, h5⟩ := grow none 0 rfl (by omega) (fun W _ => by simp [Builtin.firstCells])
      exact ⟨_, _, h1, rfl, rfl, rfl, .inr (.inr ⟨cap', cs', rfl, rfl, h2, h3, h4, h5⟩)⟩
  · by_cases hroom : n + m ≤ cap
    · have hfc := hfc w rfl
      have hle : (n + m) * ti.size ≤ cap * ti.size := Nat.mul_le_mul_right _ hroom
      rw [Nat.add_mul] at hle
      obtain ⟨cs', h1, h2⟩ := run_storeCells (P := P) (b := b) (off := n * ti.size) (e := e) (fr := fr) news 0 cs w hh hunf (by omega) hone
      have hsz' : cs'.size = cs.size := by
        have := congrArg List.length h2
        simp at this
        omega
      refine ⟨.slice (some ⟨b, 0, none⟩) (n + m) cap, setB w b (.cells cs' e fr), ?_, rfl, rfl, rfl, .inr (.inl ⟨b, cap, cs, fr, cs', rfl, hh, rfl, rfl, fun i hi => hunf i (by omega), by omega, hroom, hcm, ?_⟩)⟩
      · have ha : (⟨b, 0, none⟩ : Addr).add (n * ti.size) = ⟨b, n * ti.size, none⟩ := by rw [add_plain, Nat.zero_add]
        rcases ht' with h | h
        · obtain ⟨e', he⟩ := shapeT_slice h
          simp [Builtin.append_, run_underlying hu, run_underlying he, sizeOf, typeInfo, hti, hlen, hfc, hroom, ha, h1]
        · simp [Builtin.append_, run_underlying hu, run_underlying (shapeT_str h), sizeOf, typeInfo, hti, hlen, hfc, hroom, ha, h1]
      · rw [h2, Nat.add_zero]
        refine List.take_left' ?_
        simp [hnl, Nat.add_mul]
        omega
    · have hfo : ∀ W : World, W.heap = w.heap → (Builtin.firstCells ti.size n (.slice (some ⟨b, 0, none⟩) n cap)).run P W = .ok (cs.toList.take (n * ti.size)).toArray W := by
        intro W hW
        refine run_firstCells_some (P := P) W ti.size n ⟨b, 0, none⟩ n cap _ hold ?_
        have := Cells_of_block (w := W) (by rw [hW]; exact hh) 0 (n * ti.size)
        rw [List.drop_zero] at this
        exact this
      obtain ⟨cap', cs', h1, h2, h3, h4, h5⟩ := grow (some ⟨b, 0, none⟩) cap rfl hroom hfo
      exact ⟨_, _, h1, rfl, rfl, rfl, .inr (.inr ⟨cap', cs', rfl, rfl, h2, h3, h4, h5⟩)⟩
end
end Go.Fw
namespace Go.Fw
open Go
set_option linter.unusedVariables false
set_option linter.unusedSimpArgs false
def rmKey (k : Option Key) (H : List (Key × Nat × AO)) : List (Key × Nat × AO) := match k with
  | none => H
  | some k => H.filter fun x => !(decide (x.1 = k))
 
def apBase (H : List (Key × Nat × AO)) (e sz : Nat) : AV → Option (List D × Option Key)
  | .nils => some ([], none)
  | .ref k g z off len => match objIn H k with
    | some (g', .row e' z' l) => if g' = g ∧ off = 0 ∧ len = l.length ∧ z' = sz ∧ z = sz ∧ e' = e then some (l, some k) else none
    | _ => none
  | _ => none
 
def apNew (P : Program) (H : List (Key × Nat × AO)) (e sz : Nat) : AV → Option (List D)
  | .nils => some []
  | .d (.sl z l) => if z = sz then some l else none
  | .ref k g z off len => match objIn H k with
    | some (g', .row _ z' l) => if g' = g ∧ z' = sz ∧ z = sz ∧ off + len ≤ l.length then some ((l.drop off).take len) else none
    | _ => none
  | .d (.str s) => if sz = 1 then some (s.data.toList.map byteD) else none
  | _ => none
def appendV (P : Program) (ats : Array TypeId) (x y : AV) (d : Nat) (S : St) (K : St → Prop) : Prop := match ats.toList with
  | [t, t'] => match elemI P t with
    | some (e, sz, _) => (zeroI P e).map List.length = some sz ∧ (shapeT P t' = .slice ∨ shapeT P t' = .str) ∧ 0 < P.bytesOf e ∧
        match apBase S.H e sz x, apNew P S.H e sz y with
        | some (l, k), some ys => (l.length + ys.length) * P.bytesOf e ≤ 140737488355328 ∧
            K { E := putIn S.E d (.ref [d] S.c sz 0 (l.length + ys.length)), H := ([d], S.c, .row e sz (l ++ ys)) :: dropKey [d] (rmKey k S.H), c := S.c + 1 }
        | _, _ => False
    | none => False
  | _ => False
 
def mvKey (k k' : Key) (x : Key) : Key := if k.isPrefixOf x then k' ++ x.drop k.length else x
mutual
def mvAV (k k' : Key) : AV → AV
  | .ref q g sz off len => .ref (mvKey k k' q) g sz off len
  | .elt q g sz j o => .elt (mvKey k k' q) g sz j o
  | .addr q g c => .addr (mvKey k k' q) g c
  | .agg l => .agg (mvAVs k k' l)
  | .tup l => .tup (mvAVs k k' l)
  | .clo fn f c => .clo fn (mvAVs k k' f) (mvAVs k k' c)
  | x => x
def mvAVs (k k' : Key) : List AV → List AV
  | [] => []
  | x :: r => mvAV k k' x :: mvAVs k k' r
end
def mvAO (k k' : Key) : AO → AO
  | .box e l => .box e (mvAVs k k' l)
  | o => o
 
def mvH (k k' : Key) (H : List (Key × Nat × AO)) : List (Key × Nat × AO) := (dropKey k' H).map fun x => (mvKey k k' x.1, x.2.1, mvAO k k' x.2.2)
 
def tmpKey (nv : Nat) (k : Key) : Bool := match k with
  | i :: _ => nv ≤ i
  | [] => false
def assignV (P : Program) (nv : Nat) (ty : TypeId) (d : Nat) (x : AV) (S : St) (K : St → Prop) : Prop := match x with
  | .ref k g sz off len => if tmpKey nv k && !([d].isPrefixOf k) then K { S with E := putIn S.E d (.ref (mvKey k [d] k) g sz off len), H := mvH k [d] S.H } else K (S.put (some d) x)
  | .addr k g c => if tmpKey nv k && !([d].isPrefixOf k) then K { S with E := putIn S.E d (.addr (mvKey k [d] k) g c), H := mvH k [d] S.H } else K (S.put (some d) x)
  | .nils => match elemI P ty with
    | some (e, sz, _) => K { E := putIn S.E d (.ref [d] S.c sz 0 0), H := ([d], S.c, .row e sz []) :: dropKey [d] S.H, c := S.c + 1 }
    | none => K (S.put (some d) x)
  | x => K (S.put (some d) x)
def dset (l : List D) (o : Nat) (new : List D) : List D := l.take o ++ new ++ l.drop (o + new.length)
def D.cells : D → List D
  | .agg l => l
  | x => [x]
def storeV (P : Program) (nv : Nat) (t : TypeId) (p x : AV) (S : St) (K : St → Prop) : Prop := match varI P t with
  | some (sz, b) => match p with
    | .addr k g c => match objIn S.H k with
      | some (g', .box e l) => g' = g ∧ (avCells x).length = sz ∧ cellsOK (avCells x) = true ∧ c + sz ≤ l.length ∧
          (match x with
           | .ref k' g1 z off len => if tmpKey nv k' then K { S with H := mvH k' (k ++ [c]) (setO S.H k (.box e (setCells l c [.ref (mvKey k' (k ++ [c]) k') g1 z off len]))) }
              else K { S with H := setO S.H k (.box e (setCells l c (avCells x))) }
           | _ => K { S with H := setO S.H k (.box e (setCells l c (avCells x))) })
      | _ => False
    | .elt k g z j o => match objIn S.H k with
      | some (g', .row e z' l) => g' = g ∧ z' = z ∧ j < l.length ∧ match toD P S.H 60 x with
          | some (y, []) => y.isAgg = b ∧ y.ncells = sz ∧
              ((o = 0 ∧ z = sz ∧ K { S with H := setO S.H k (.row e z (l.set j y)) }) ∨
               (match l.getD j default with
                | .agg fs => o + sz ≤ fs.length ∧ K { S with H := setO S.H k (.row e z (l.set j (.agg (dset fs o y.cells)))) }
                | _ => False))
          | _ => False
      | _ => False
    | _ => False
  | none => False
 
def effV (P : Program) (nv : Nat) (o : Oper) (S : St) (K : St → Prop) : Prop := match o.op with
  | .alloc t => match o.dst, varI P t, zeroI P t with
    | some d, some _, some z => cellsOK z = true ∧ K (S.newObj d (.box t z) (.addr [d] S.c 0))
    | _, _, _ => False
  | .box t x => match o.dst with
    | some d => (avCells (S.ev x)).isEmpty = false ∧ cellsOK (avCells (S.ev x)) = true ∧ K (S.newObj d (.box t (avCells (S.ev x))) (.addr [d] S.c 0))
    | none => False
  | .buildSlice t len parts => match o.dst, elemI P t with
    | some d, some (e, sz, b) => (zeroI P e).isSome = true ∧ seqParts 0 (parts.toList.map (·.1)) = true ∧ len = parts.size ∧ len * sz ≤ 16777216 ∧
        match toDl P S.H 60 (parts.toList.map fun p => S.ev p.2) with
        | some (xs, ks) => elemsP b sz xs ∧ K ((S.freeze ks).newObj d (.row e sz xs) (.ref [d] S.c sz 0 len))
        | none => False
    | _, _ => False
  | .makeSlice t l c => match o.dst, elemI P t, S.ev l, S.ev c with
    | some d, some (e, sz, b), .d (.int .i64 n), .d (.int .i64 m) => n = m ∧ 0 ≤ n ∧ n.toNat * P.bytesOf e ≤ 281474976710656 ∧ 0 < P.bytesOf e ∧ match zeroD P e with
        | some z => z.isAgg = b ∧ z.ncells = sz ∧ (zeroI P e).map List.length = some sz ∧ K (S.newObj d (.row e sz (List.replicate n.toNat z)) (.ref [d] S.c sz 0 n.toNat))
        | none => False
    | _, _, _, _ => False
  | .convert src dst x => match o.dst, shapeT P src, P.underlying dst, S.ev x with
    | some d, .str, some (.slice e), .d (.str s) => shapeT P e = .int .u8 ∧ s.size ≤ 4611686018427387904 ∧ K (S.newObj d (.row e 1 (s.data.toList.map byteD)) (.ref [d] S.c 1 0 s.size))
    | _, _, _, _ => False
  | .store t p x => o.dst = none ∧ storeV P nv t (S.ev p) (S.ev x) S K
  | .assign x => match o.dst with
    | some d => assignV P nv o.type d (S.ev x) S K
    | none => False
  | .range t x => match o.dst, shapeT P t, S.ev x with
    | some d, .str, .d (.str s) => K (S.newObj d (.iter s 0) (.addr [d] S.c 0))
    | _, _, _ => False
  | .next x b => match b, o.dst, S.ev x with
    | true, some d, .addr k g c => match objIn S.H k with
      | some (g', .iter s pos) => g' = g ∧ c = 0 ∧
          (pos < s.size → K { S with E := putIn S.E d (.tup [.d (.bool true), .d (.int .i64 pos), .d (.int .i32 (Utf8.decode s pos).1)]), H := setO S.H k (.iter s (pos + (Utf8.decode s pos).2)) }) ∧
          (s.size ≤ pos → K (S.put (some d) (.tup [.d (.bool false)])))
      | _ => False
    | _, _, _ => False
  | .call c => match c.callee, o.dst with
    | .builtin .append, some d => match c.args.toList with
      | [x, y] => appendV P c.argTypes (S.ev x) (S.ev y) d S K
      | _ => False
    | _, _ => False
  | _ => False
end Go.Fw
namespace Go.Fw
open Go
set_option linter.unusedVariables false
set_option linter.unusedSimpArgs false
 
def isDs (o : Oper) : Bool := match o.op with
  | .store .. | .next .. => true
  | .call c => match c.callee with
    | .builtin .append => true
    | _ => false
  | _ => false
section
variable {P : Program} {F : Nat → Prop} {B : Blk} {w w' : World} {S : St} {a : Act} {N nv : Nat} {K : St → Prop}
mutual
theorem VR_mv (k k' : Key) {c : Nat} : ∀ (x : AV) (v : Value), VR w F B c x v → VR w F B c (mvAV k k' x) v
  | .ref q g sz off len, v, h => by simpa only [mvAV, VR] using h
  | .elt q g sz j o, v, h => by simpa only [mvAV, VR] using h
  | .addr q g o, v, h => by simpa only [mvAV, VR] using h
  | .agg l, v, h => by
    simp only [mvAV, VR] at h ⊢
    obtain ⟨cs, e, h0, h1⟩ := h
    have := VRl_mv k k' l _ h1
    exact ⟨cs, e, by rw [this.2]; exact h0, this.1⟩
  | .tup l, v, h => by
    simp only [mvAV, VR] at h ⊢
    obtain ⟨cs, e, h1⟩ := h
    exact ⟨cs, e, (VRl_mv k k' l _ h1).1⟩
  | .clo fn f cp, v, h => by
    simp only [mvAV, VR] at h ⊢
    obtain ⟨fv, cv, e, h1, h2⟩ := h
    exact ⟨fv, cv, e, (VRl_mv k k' f _ h1).1, (VRl_mv k k' cp _ h2).1⟩
  | .d x, v, h => h
  | .nils, v, h => h
  | .dead, v, h => h
  | .opt .., v, h => h
theorem VRl_mv (k k' : Key) {c : Nat} : ∀ (l : List AV) (vs : List Value), VRl w F B c l vs → VRl w F B c (mvAVs k k' l) vs ∧ cellsOK (mvAVs k k' l) = cellsOK l
  | [], vs, h => ⟨h, rfl⟩
  | x :: r, vs, h => by
    simp only [mvAVs, VRl] at h ⊢
    obtain ⟨v, vs', e, h1, h2⟩ := h
    have := VRl_mv k k' r _ h2
    refine ⟨⟨v, vs', e, VR_mv k k' x v h1, this.1⟩, ?_⟩
    simp only [cellsOK, this.2]
    cases x <;> rfl
end
theorem OR_mv (k k' : Key) {c g : Nat} {o : AO} (h : OR w F B c g o) : OR w F B c g (mvAO k k' o) := by
  cases o with
  | row e sz l => exact h
  | box e l =>
    simp only [mvAO, OR] at h ⊢
    obtain ⟨b, n, cs, fr, h1, h2, h3, h4, h5⟩ := h
    have := VRl_mv k k' l _ h5
    exact ⟨b, n, cs, fr, h1, h2, h3, by rw [this.2]; exact h4, this.1⟩
  | iter s pos => exact h
theorem mvH_own {k k' : Key} {H : List (Key × Nat × AO)} {b : Nat} (h : Own (mvH k k' H) B b) : Own H B b := by
  obtain ⟨q, g, o, n, hm, hB⟩ := h
  obtain ⟨x, hx, e⟩ := List.mem_map.1 hm
  simp only [Prod.mk.injEq] at e
  obtain ⟨_, rfl, _⟩ := e
  exact ⟨x.1, x.2.1, x.2.2, n, (dropKey_sub _ _).subset hx, hB⟩
theorem FR.mv {E : List (Nat × AV)} {H : List (Key × Nat × AO)} {c : Nat} (hf : FR F B w ⟨E, H, c⟩ a) (k k' : Key) : FR F B w ⟨E, mvH k k' H, c⟩ a where
  slots := hf.slots
  objs q g o hm := by
    obtain ⟨x, hx, e⟩ := List.mem_map.1 hm
    simp only [Prod.mk.injEq] at e
    obtain ⟨_, rfl, rfl⟩ := e
    have := hf.objs x.1 x.2.1 x.2.2 ((dropKey_sub _ _).subset hx)
    exact ⟨this.1, OR_mv k k' this.2⟩
  sep b hb := hf.sep b (mvH_own hb)
  inj := by
    have : ((mvH k k' H).map fun x => x.2.1) = (dropKey k' H).map fun x => x.2.1 := by simp [mvH, List.map_map]
    rw [this]
    exact hf.inj.sublist ((dropKey_sub _ _).map _)
  Flt := hf.Flt
  defers := hf.defers
  pin := hf.pin
 
theorem Tr.still (hf : FR F B w S a) (hN : a.tmps.size = N) {S' : St} {a' : Act} (hf' : FR F B w S' a') (hn : a'.tmps.size = N) (ho : ∀ b, Own S'.H B b → Own S.H B b) (hc : S.c ≤ S'.c := by exact Nat.le_refl _) : Tr N F B w S F B w S' a' :=
  ⟨hf', hn, fun _ h => h, fun _ _ _ => rfl, fun b hb => hb.elim .inl fun h => .inr (.inl (ho b h)), rfl, rfl, rfl, Nat.le_refl _, fun _ _ => rfl⟩
 
theorem assignV_run (hf : FR F B w S a) (hN : a.tmps.size = N) {d : Nat} (hd : dstOK N (some d) = true) {x : AV} {v : Value} (hx : VR w F B S.c x v) {ty : TypeId} (h : assignV P nv ty d x S K) :
    ∃ S' B', K S' ∧ Tr N F B w S F B' w S' (a.put (some d) v) := by
  have plain : ∀ {y : AV}, VR w F B S.c y v → K (S.put (some d) y) → ∃ S' B', K S' ∧ Tr N F B w S F B' w S' (a.put (some d) v) := fun hy hk =>
    ⟨_, B, hk, Tr.still hf hN (hf.put hN hd hy) (by rw [Act.put_size]; exact hN) (fun b h => h)⟩
  cases x with
  | ref k g sz off len =>
    simp only [assignV] at h
    split at h
    · refine ⟨_, B, h, Tr.still hf hN ?_ (by rw [Act.put_size]; exact hN) (fun b h => mvH_own h)⟩
      have h1 := (FR.mv (E := S.E) (H := S.H) (c := S.c) hf k [d]).put hN hd (av := .ref (mvKey k [d] k) g sz off len) (v := v) (by simpa only [VR] using hx)
      exact h1
    · exact plain hx h
  | addr k g c =>
    simp only [assignV] at h
    split at h
    · refine ⟨_, B, h, Tr.still hf hN ?_ (by rw [Act.put_size]; exact hN) (fun b h => mvH_own h)⟩
      have h1 := (FR.mv (E := S.E) (H := S.H) (c := S.c) hf k [d]).put hN hd (av := .addr (mvKey k [d] k) g c) (v := v) (by simpa only [VR] using hx)
      exact h1
    · exact plain hx h
  | nils =>
    simp only [assignV] at h
    split at h
    · rename_i e sz b hei
      simp only [VR] at hx
      subst hx
      have h1 := newObj_Tr (o := .row e sz []) (av := .ref [d] S.c sz 0 0) (v := .slice none 0 0) (bo := none) (w' := w) hf hN hd [] (Ext.refl w) rfl rfl rfl (fun b n hb => by cases hb) (by simp only [OR, updB_new]) (by simp only [VR, updB_new]; exact ⟨Nat.lt_succ_self _, by simp⟩)
      have hFe : (fun b => F b ∨ FK S.H B [] b) = F := by
        funext b
        refine propext ⟨fun h => h.elim id ?_, .inl⟩
        rintro ⟨k, g, o, n, h, _⟩
        simp at h
      rw [hFe] at h1
      exact ⟨_, _, h, h1⟩
    · exact plain hx h
  | d x => exact plain hx (by simpa only [assignV] using h)
  | elt _ _ _ _ _ => exact plain hx (by simpa only [assignV] using h)
  | agg _ => exact plain hx (by simpa only [assignV] using h)
  | tup _ => exact plain hx (by simpa only [assignV] using h)
  | clo _ _ _ => exact plain hx (by simpa only [assignV] using h)
  | dead => exact plain hx (by simpa only [assignV] using h)
  | opt q x => exact plain hx (by simpa only [assignV] using h)
 
theorem box_store (hf : FR F B w S a) {k : Key} {g e : Nat} {l : List AV} (hob : objIn S.H k = some (g, .box e l)) {b n : Nat} (hB : B g = some (b, n)) {o : Nat} {new : List AV} {nv : List Value} (hn : VRl w F B S.c new nv) (hc : cellsOK new = true) (hlen : o + new.length ≤ l.length) :
    ∃ w', (storeCells ⟨b, o, none⟩ nv).run P w = .ok () w' ∧ FR F B w' ⟨S.E, setO S.H k (.box e (setCells l o new)), S.c⟩ a ∧ (∀ i, i ≠ b → w'.heap[i]? = w.heap[i]?) ∧ w'.os = w.os ∧ w'.tape = w.tape ∧ w'.output = w.output ∧ w'.heap.size = w.heap.size := by
  have hor := hf.objsIn hob
  simp only [OR] at hor
  obtain ⟨b', n', cs, fr, hB', hh, hun, hco, hvl⟩ := hor
  rw [hB] at hB'
  simp only [Option.some.injEq, Prod.mk.injEq] at hB'
  obtain ⟨rfl, rfl⟩ := hB'
  have hll : cs.size = l.length := by simpa using hvl.length
  have hnl := hn.length
  obtain ⟨cs', h1, h2⟩ := run_storeCells (P := P) (b := b) (off := o) (e := e) (fr := fr) nv 0 cs w hh hun (by omega) (VRl_one hc hn)
  have hlt := lt_heap hh
  have hF : ∀ i, F i → (setB w b (.cells cs' e fr)).heap[i]? = w.heap[i]? := fun i hi => setB_ne w b i _ fun e => (hf.sep b ⟨k, g, _, n, mem_of_objIn hob, hB⟩).1 (e ▸ hi)
  refine ⟨_, h1, ?_, fun i hi => setB_ne w b i _ hi, rfl, rfl, rfl, setB_size w b _⟩
  refine hf.upd hob hB (by rw [setB_size]; omega) (fun i _ hi => setB_ne w b i _ hi) ?_
  simp only [OR]
  have hsz : cs'.size = cs.size := by
    have := congrArg List.length h2
    simp at this
    omega
  refine ⟨b, n, cs', fr, hB, setB_at w b _ hlt, fun i hi => hun i (by omega), cellsOK_setCells hco hc, ?_⟩
  rw [h2, Nat.add_zero]
  exact VRl.mono hF (fun _ h => h) (fun _ _ => rfl) (Nat.le_refl _) _ _ (VRl_setCells hvl hn)
theorem DRr_set {sz : Nat} : ∀ {l : List D} {vs : List Value} {j : Nat} {y : D} {ys : List Value}, DRr w F sz l vs → j < l.length → DRc w F y ys → ys.length = sz → DRr w F sz (l.set j y) (vs.take (j * sz) ++ ys ++ vs.drop (j * sz + sz))
  | [], vs, j, y, ys, h, hj, hy, hl => by simp at hj
  | x :: r, vs, 0, y, ys, h, hj, hy, hl => by
    simp only [DRr] at h
    obtain ⟨a, b, rfl, h0, h1, h2⟩ := h
    simp only [List.set_cons_zero, DRr, Nat.zero_mul, List.take_zero, List.nil_append, Nat.zero_add]
    exact ⟨ys, b, by rw [← h0, List.drop_left], hl, hy, h2⟩
  | x :: r, vs, j + 1, y, ys, h, hj, hy, hl => by
    simp only [DRr] at h
    obtain ⟨a, b, rfl, h0, h1, h2⟩ := h
    have ih := DRr_set (j := j) h2 (by simpa using hj) hy hl
    simp only [List.set_cons_succ, DRr]
    refine ⟨a, _, ?_, h0, h1, ih⟩
    have e1 : (j + 1) * sz = a.length + j * sz := by rw [Nat.add_mul, Nat.one_mul, h0, Nat.add_comm]
    rw [e1, List.take_append, List.take_of_length_le (by omega), Nat.add_sub_cancel_left]
    rw [show a.length + j * sz + sz = a.length + (j * sz + sz) by omega, ← List.drop_drop, List.drop_left]
    simp
theorem DRl_dset {l new : List D} {vs nv : List Value} {o : Nat} (h : DRl w F l vs) (hn : DRl w F new nv) : DRl w F (dset l o new) (vs.take o ++ nv ++ vs.drop (o + nv.length)) := by
  have app : ∀ {a b : List D} {u v : List Value}, DRl w F a u → DRl w F b v → DRl w F (a ++ b) (u ++ v) := by
    intro a
    induction a with
    | nil => intro b u v h1 h2; simp only [DRl] at h1; simpa [h1] using h2
    | cons x r ih =>
      intro b u v h1 h2
      simp only [DRl] at h1
      obtain ⟨v1, u', rfl, h0, h3, h4⟩ := h1
      simp only [List.cons_append, DRl]
      exact ⟨v1, u' ++ v, by simp, h0, h3, ih h4 h2⟩
  unfold dset
  rw [hn.length]
  exact app (app (h.take o) hn) (h.drop _)
theorem DRl_cells {y : D} {cs : List Value} (h : DRc w F y cs) : DRl w F y.cells cs := by
  have one : ∀ {x : D}, x.isAgg = false → DRc w F x cs → cs.length = 1 → DRl w F [x] cs := by
    intro x hx hc hl
    match cs, hl with
    | [v], _ => simp only [DRl]; exact ⟨v, [], rfl, hx, hc, rfl⟩
  cases y with
  | agg l => simpa [DRc, D.cells] using h
  | _ => exact one rfl h (by have := h.len; simpa [D.ncells] using this)
 
theorem row_store (hf : FR F B w S a) {k : Key} {g e sz : Nat} {l : List D} (hob : objIn S.H k = some (g, .row e sz l)) {b n : Nat} (hB : B g = some (b, n)) {j o : Nat} (hj : j < l.length) {y : D} {nv : List Value} (hnl : o + nv.length ≤ sz) (hone : ∀ v ∈ nv, v.oneCell' = true)
    (hy : ∀ old : List Value, DRc w F (l.getD j default) old → old.length = sz → DRc w F y (old.take o ++ nv ++ old.drop (o + nv.length))) :
    ∃ w', (storeCells ⟨b, j * sz + o, none⟩ nv).run P w = .ok () w' ∧ FR F B w' ⟨S.E, setO S.H k (.row e sz (l.set j y)), S.c⟩ a ∧ (∀ i, i ≠ b → w'.heap[i]? = w.heap[i]?) ∧ w'.os = w.os ∧ w'.tape = w.tape ∧ w'.output = w.output ∧ w'.heap.size = w.heap.size := by
  have hor := hf.objsIn hob
  simp only [OR, hB] at hor
  obtain ⟨cs, fr, hh, hun, h0, hcs, hln, hmx, hdr⟩ := hor
  have hjn : (j + 1) * sz ≤ l.length * sz := Nat.mul_le_mul_right _ hj
  rw [Nat.add_mul, Nat.one_mul] at hjn
  have hln2 : l.length * sz ≤ n * sz := Nat.mul_le_mul_right _ hln
  obtain ⟨cs', h1, h2⟩ := run_storeCells (P := P) (b := b) (off := j * sz + o) (e := e) (fr := fr) nv 0 cs w hh hun (by omega) hone
  have hlt := lt_heap hh
  have hF : ∀ i, F i → (setB w b (.cells cs' e fr)).heap[i]? = w.heap[i]? := fun i hi => setB_ne w b i _ fun e => (hf.sep b ⟨k, g, _, n, mem_of_objIn hob, hB⟩).1 (e ▸ hi)
  refine ⟨_, h1, ?_, fun i hi => setB_ne w b i _ hi, rfl, rfl, rfl, setB_size w b _⟩
  refine hf.upd hob hB (by rw [setB_size]; omega) (fun i _ hi => setB_ne w b i _ hi) ?_
  have hsz : cs'.size = cs.size := by
    have := congrArg List.length h2
    simp at this
    omega
  simp only [OR, hB]
  refine ⟨cs', fr, setB_at w b _ hlt, fun i hi => hun i (by omega), h0, by omega, by simpa using hln, hmx, ?_⟩
  have hget := hdr.get j hj
  have htk : (List.drop (j * sz) (List.take (l.length * sz) cs.toList)).take sz = (cs.toList.drop (j * sz)).take sz := by
    rw [List.drop_take, List.take_take, Nat.min_eq_left (by omega)]
  rw [htk] at hget
  have hset := DRr_set hdr hj (hy _ hget.1 hget.2) (by rw [List.length_append, List.length_append, List.length_take, List.length_drop, hget.2]; omega)
  refine DRr.mono hF (fun _ h => h) _ _ _ ?_
  rw [List.length_set]
  have e3 : cs'.toList.take (l.length * sz) = (cs.toList.take (l.length * sz)).take (j * sz) ++ (((cs.toList.drop (j * sz)).take sz).take o ++ nv ++ ((cs.toList.drop (j * sz)).take sz).drop (o + nv.length)) ++ (cs.toList.take (l.length * sz)).drop (j * sz + sz) := by
    rw [h2, Nat.add_zero]
    apply List.ext_getElem?
    intro i
    simp only [List.getElem?_take, List.getElem?_append, List.getElem?_drop, List.length_take, List.length_append, List.length_drop, Array.length_toList]
    have c1 : min (j * sz + o) cs.size = j * sz + o := by omega
    have c2 : min (j * sz) (min (l.length * sz) cs.size) = j * sz := by omega
    have c3 : min o (min sz (cs.size - j * sz)) = o := by omega
    have c4 : min sz (cs.size - j * sz) = sz := by omega
    rw [c1, c2, c3, c4]
    by_cases hi : i < l.length * sz
    · rw [if_pos hi]
      by_cases h3 : i < j * sz
      · rw [if_pos (by omega), if_pos (by omega), if_pos (by omega), if_pos (by omega), if_pos (by omega), if_pos h3, if_pos hi]
      · by_cases h4 : i < j * sz + o
        · rw [if_pos (by omega), if_pos (by omega), if_pos (by omega), if_pos (by omega), if_neg (by omega), if_pos (by omega), if_pos (by omega), if_pos (by omega), if_pos (by omega)]
          congr 1; omega
        · by_cases h5 : i < j * sz + o + nv.length
          · rw [if_pos (by omega), if_neg (by omega), if_pos (by omega), if_neg (by omega), if_pos (by omega), if_neg (by omega)]
            congr 1; omega
          · by_cases h6 : i < j * sz + sz
            · rw [if_neg (by omega), if_pos (by omega), if_neg (by omega), if_neg (by omega), if_pos (by omega)]
              congr 1; omega
            · rw [if_neg (by omega), if_neg (by omega), if_pos (by omega)]
              congr 1; omega
    · rw [if_neg hi]
      rw [if_neg (by omega), if_neg (by omega)]
  rw [e3]
  exact hset
end
end Go.Fw
namespace Go.Fw
open Go
set_option linter.unusedVariables false
set_option linter.unusedSimpArgs false
section
variable {P : Program} {F : Nat → Prop} {B : Blk} {w w' : World} {S : St} {a : Act} {N nv : Nat} {K : St → Prop}
theorem own_setO {k : Key} {g : Nat} {o0 o : AO} (hob : objIn S.H k = some (g, o0)) {i : Nat} (h : Own (setO S.H k o) B i) : Own S.H B i := by
  obtain ⟨k', g', o', m, hm', hb'⟩ := h
  rcases mem_setO hob _ hm' with h | h | h
  · simp only [Prod.mk.injEq] at h
    obtain ⟨rfl, rfl, rfl⟩ := h
    exact ⟨_, _, _, _, mem_of_objIn hob, hb'⟩
  · exact ⟨_, _, _, _, h.1, hb'⟩
  · exact ⟨_, _, _, _, h.1, hb'⟩
 
theorem Tr.stored (hf : FR F B w S a) (hN : a.tmps.size = N) {k : Key} {g : Nat} {o0 : AO} (hob : objIn S.H k = some (g, o0)) {b n : Nat} (hB : B g = some (b, n)) {S' : St} (hf' : FR F B w' S' a)
    (hw : ∀ i, i ≠ b → w'.heap[i]? = w.heap[i]?) (hos : w'.os = w.os) (htp : w'.tape = w.tape) (hout : w'.output = w.output) (hsz : w'.heap.size = w.heap.size) (ho : ∀ i, Own S'.H B i → Own S.H B i) (hc : S.c ≤ S'.c := by exact Nat.le_refl _) : Tr N F B w S F B w' S' a :=
  ⟨hf', hN, fun _ h => h, fun i hi hn => hw i fun e => hn ⟨k, g, o0, n, mem_of_objIn hob, e ▸ hB⟩, fun i hi => hi.elim .inl fun h => .inr (.inl (ho i h)), hos, htp, hout, by omega, fun _ _ => rfl⟩
theorem run_storeVar {t : TypeId} {i : TypeInfo} (hi : P.info? t = some i) {ad : Addr} {v : Value} (hv : v.cells.size = i.size) (W : World) : (storeVar t ad v).run P W = (storeCells ad v.cells.toList).run P W := by
  simp [storeVar, run_sizeOf hi, hv]
theorem storeV_run (hf : FR F B w S a) (hN : a.tmps.size = N) {t : TypeId} {p x : AV} {u v : Value} (hp : VR w F B S.c p u) (hx : VR w F B S.c x v) (h : storeV P nv t p x S K) :
    ∃ w', (Instr.storeAt t u v).run P w = .ok () w' ∧ ∃ S' F' B', K S' ∧ Tr N F B w S F' B' w' S' a := by
  unfold storeV at h
  split at h
  · rename_i sz b hvi
    obtain ⟨i, hi, hsz, h0, hag, hb1⟩ := varI_spec hvi
    split at h
    · rename_i k g c
      split at h
      · rename_i g' e l hob
        obtain ⟨rfl, h1, h2, h3, h⟩ := h
        have hor := hf.objsIn hob
        simp only [OR] at hor
        obtain ⟨bb, n, cs, fr, hB, hh, hun, hco, hvl⟩ := hor
        simp only [VR] at hp
        obtain ⟨hg, bb', n', hB', rfl⟩ := hp
        rw [hB] at hB'
        simp only [Option.some.injEq, Prod.mk.injEq] at hB'
        obtain ⟨rfl, rfl⟩ := hB'
        have hne : avCells x ≠ [] := by intro e; rw [e] at h1; simp at h1; omega
        have hcx := avCells_VR hx hne
        have hvs : v.cells.size = sz := by have := hcx.length; rw [h1] at this; simpa using this
        have hrun : ∀ W, (Instr.storeAt t (.pointer (some ⟨bb, c, none⟩)) v).run P W = (storeCells ⟨bb, c, none⟩ v.cells.toList).run P W := by
          intro W
          simp [Instr.storeAt, Instr.sureAddr, run_storeVar (P := P) hi (v := v) (by rw [hsz]; exact hvs)]
        have plain : K { S with H := setO S.H k (.box e (setCells l c (avCells x))) } → ∃ w', (Instr.storeAt t (.pointer (some ⟨bb, c, none⟩)) v).run P w = .ok () w' ∧ ∃ S' F' B', K S' ∧ Tr N F B w S F' B' w' S' a := by
          intro hk
          obtain ⟨w', e1, e2, e3, e4, e5, e6, e7⟩ := box_store (P := P) (o := c) (new := avCells x) hf hob hB hcx h2 (by omega)
          exact ⟨w', by rw [hrun]; exact e1, _, F, B, hk, Tr.stored hf hN hob hB e2 e3 e4 e5 e6 e7 (fun i hi => own_setO hob hi)⟩
        split at h
        · rename_i k' g1 z off len
          split at h
          · have hcx' : VRl w F B S.c [AV.ref (mvKey k' (k ++ [c]) k') g1 z off len] v.cells.toList := by
              simp only [avCells, VRl] at hcx ⊢
              obtain ⟨v1, vs', e1, e2, e3⟩ := hcx
              exact ⟨v1, vs', e1, by simpa only [VR] using e2, e3⟩
            obtain ⟨w', e1, e2, e3, e4, e5, e6, e7⟩ := box_store (P := P) (new := [.ref (mvKey k' (k ++ [c]) k') g1 z off len]) hf hob hB hcx' rfl (by simpa [avCells, ← h1] using h3)
            refine ⟨w', by rw [hrun]; exact e1, _, F, B, h, Tr.stored hf hN hob hB (FR.mv e2 k' (k ++ [c])) e3 e4 e5 e6 e7 (fun i hi => own_setO hob (mvH_own hi))⟩
          · exact plain h
        · exact plain h
      · exact h.elim
    · rename_i k g z j o
      split at h
      · rename_i g' e z' l hob
        obtain ⟨rfl, rfl, hj, h⟩ := h
        split at h
        · rename_i y htd
          obtain ⟨h1, h2, h⟩ := h
          have hD := toD_DR hf 60 x y [] v htd hx
          have hFe : (fun b => F b ∨ FK S.H B [] b) = F := by
            funext b
            refine propext ⟨fun h => h.elim id ?_, .inl⟩
            rintro ⟨k, g, o, n, h, _⟩
            simp at h
          rw [hFe] at hD
          have hDc := DRc_of_DRv hD
          have hvl : v.cells.toList.length = sz := by rw [hDc.len, h2]
          have hvs : v.cells.size = sz := by simpa using hvl
          simp only [VR] at hp
          obtain ⟨hg, bb, n, hB, rfl⟩ := hp
          have hor := hf.objsIn hob
          simp only [OR, hB] at hor
          obtain ⟨cs, fr, hh, hun, hz0, hcs, hln, hmx, hdr⟩ := hor
          have hrun : ∀ W, (Instr.storeAt t (.pointer (some ⟨bb, j * z' + o, none⟩)) v).run P W = (storeCells ⟨bb, j * z' + o, none⟩ v.cells.toList).run P W := by
            intro W
            simp [Instr.storeAt, Instr.sureAddr, run_storeVar (P := P) hi (v := v) (by rw [hsz]; exact hvs)]
          rcases h with ⟨rfl, rfl, hk⟩ | h
          · obtain ⟨w', e1, e2, e3, e4, e5, e6, e7⟩ := row_store (P := P) (o := 0) (y := y) (nv := v.cells.toList) hf hob hB hj (by omega) (DRc_one hDc) (fun old ho hl => by
              have : List.drop (0 + v.cells.toList.length) old = [] := List.drop_eq_nil_of_le (by omega)
              rw [this]
              simpa using hDc)
            exact ⟨w', by rw [hrun]; exact e1, _, F, B, hk, Tr.stored hf hN hob hB e2 e3 e4 e5 e6 e7 (fun i hi => own_setO hob hi)⟩
          · split at h
            · rename_i fs hfs
              obtain ⟨h3, hk⟩ := h
              have hget := hdr.get j hj
              rw [hfs] at hget
              have hfl : fs.length = z' := by have h8 := hget.1.len; rw [hget.2] at h8; exact h8.symm
              obtain ⟨w', e1, e2, e3, e4, e5, e6, e7⟩ := row_store (P := P) (o := o) (y := .agg (dset fs o y.cells)) (nv := v.cells.toList) hf hob hB hj (by omega) (DRc_one hDc) (fun old ho hl => by
                rw [hfs] at ho
                simp only [DRc] at ho ⊢
                exact DRl_dset ho (DRl_cells hDc))
              exact ⟨w', by rw [hrun]; exact e1, _, F, B, hk, Tr.stored hf hN hob hB e2 e3 e4 e5 e6 e7 (fun i hi => own_setO hob hi)⟩
            · exact h.elim
        · exact h.elim
      · exact h.elim
    · exact h.elim
  · exact h.elim
theorem apNew_run (hf : FR F B w S a) {e sz : Nat} {y : AV} {v : Value} (hy : VR w F B S.c y v) {ys : List D} (h : apNew P S.H e sz y = some ys) :
    ∃ news : List Value, (∀ W, (Builtin.lenOf v).run P W = .ok ys.length W) ∧ (∀ W : World, W.heap = w.heap → (Builtin.firstCells sz ys.length v).run P W = .ok news.toArray W) ∧ news.length = ys.length * sz ∧ DRr w F sz ys news := by
  unfold apNew at h
  split at h
  · simp only [Option.some.injEq] at h
    subst h
    simp only [VR] at hy
    subst hy
    exact ⟨[], fun W => by simp [Builtin.lenOf], fun W _ => by simp [Builtin.firstCells], by simp, by simp [DRr]⟩
  · rename_i z l
    split at h
    · rename_i hz
      subst hz
      simp only [Option.some.injEq] at h
      subst h
      simp only [VR, DRv, DRc] at hy
      obtain ⟨A, cc, hu, hl, hm, hr⟩ := hy
      simp only [List.cons.injEq, and_true] at hu
      subst hu
      rcases hr with rfl | ⟨ad, cs, rfl, hF, hC, hD⟩
      · refine ⟨[], fun W => by simp [Builtin.lenOf], fun W _ => ?_, by simp, by simp [DRr]⟩
        cases A with
        | none => simp [Builtin.firstCells]
        | some ad => simp [Builtin.firstCells, loadCells, loadCellsFrom]
      · refine ⟨cs, fun W => by simp [Builtin.lenOf], fun W hW => run_firstCells_some (P := P) W z _ ad _ cc cs hD.length ?_, hD.length, hD⟩
        have := hC.keep (w' := W) (F := F) (fun b hb => by rw [hW]) hF
        exact this
    · cases h
  · rename_i k g z off len
    split at h
    · rename_i g' e' z' l hob
      split at h
      · rename_i hc
        obtain ⟨rfl, rfl, rfl, hol⟩ := hc
        simp only [Option.some.injEq] at h
        subst h
        have hor := hf.objsIn hob
        simp only [VR] at hy
        obtain ⟨hg, hy⟩ := hy
        have hlen : ((l.drop off).take len).length = len := by simp; omega
        split at hy
        · obtain ⟨rfl, rfl, rfl⟩ := hy
          exact ⟨[], fun W => by simp [Builtin.lenOf], fun W _ => by simp [Builtin.firstCells], by simp, by simp [DRr]⟩
        · rename_i b n hB
          obtain ⟨ad, rfl, hcap, had⟩ := hy
          simp only [OR, hB] at hor
          obtain ⟨cs, fr, hh, hun, hz0, hcs, hln, hmx, hdr⟩ := hor
          rcases had with rfl | ⟨rfl, _⟩
          · have hD := (hdr.drop off).take len
            have e1 : ((cs.toList.take (l.length * z)).drop (off * z)).take (len * z) = (cs.toList.drop (off * z)).take (len * z) := by
              have h6 : (off + len) * z ≤ l.length * z := Nat.mul_le_mul_right _ hol
              rw [Nat.add_mul] at h6
              rw [List.drop_take, List.take_take, Nat.min_eq_left (by omega)]
            rw [e1] at hD
            refine ⟨(cs.toList.drop (off * z)).take (len * z), fun W => by simp [Builtin.lenOf, hlen], fun W hW => ?_, hD.length, hD⟩
            rw [hlen]
            refine run_firstCells_some (P := P) W z len _ _ _ _ (by rw [hD.length, hlen]) ?_
            exact Cells_of_block (w := W) (by rw [hW]; exact hh) _ _
          · refine ⟨[], fun W => by simp [Builtin.lenOf], fun W _ => by simp [Builtin.firstCells, loadCells, loadCellsFrom], by simp, by simp [DRr]⟩
      · cases h
    · cases h
  · rename_i s
    split at h
    · rename_i hz
      subst hz
      simp only [Option.some.injEq] at h
      subst h
      have := val_of_scalar rfl hy
      subst this
      refine ⟨s.data.toList.map fun b => .int .u8 b.toNat, fun W => by simp [Builtin.lenOf, valD], fun W _ => ?_, by simp, ?_⟩
      · simp only [valD, Builtin.firstCells, Sem.run_pure]
        congr 1
        apply Array.ext'
        have e1 : (s.extract 0 (List.map byteD s.data.toList).length) = s := by
          have : (List.map byteD s.data.toList).length = s.size := by simp
          rw [this]
          exact ByteArray.extract_zero_size
        rw [e1]
        simp
      · generalize s.data.toList = l
        induction l with
        | nil => simp [DRr]
        | cons b r ih => simp only [List.map_cons, DRr]; exact ⟨[.int .u8 b.toNat], _, rfl, rfl, by simp [DRc, byteD], ih⟩
    · cases h
  · cases h
theorem appendV_run (hf : FR F B w S a) (hN : a.tmps.size = N) {d : Nat} (hd : dstOK N (some d) = true) {ats : Array TypeId} {ty : TypeId} {x y : AV} {u v : Value} (hx : VR w F B S.c x u) (hy : VR w F B S.c y v) (h : appendV P ats x y d S K) :
    ∃ r w', (Builtin.append_ ats ty #[u, v]).run P w = .ok r w' ∧ ∃ S' F' B', K S' ∧ Tr N F B w S F' B' w' S' (a.put (some d) r) := by
  unfold appendV at h
  split at h
  · rename_i t t' ht
    have hats' : ats = #[t, t'] := Array.ext' (by simpa using ht)
    subst hats'
    split at h
    · rename_i e sz b hei
      obtain ⟨ti, hu, hti, hsz, h0, hag, hb1⟩ := elemI_spec hei
      obtain ⟨hzl, hsh, hby0, h⟩ := h
      have hbo : P.bytesOf e = ti.bytes := by simp [Program.bytesOf, hti]
      rw [hbo] at hby0 h
      have hz : ∃ z, ti.zero = some z ∧ z.cells.size = sz := by
        unfold zeroI at hzl
        rw [hti] at hzl
        simp only at hzl
        cases hzz : ti.zero with
        | none => simp [hzz] at hzl
        | some z => exact ⟨z, rfl, by simpa [hzz] using hzl⟩
      obtain ⟨z, hz, hzs⟩ := hz
      split at h
      · rename_i l k ys hap han
        obtain ⟨hby, hk⟩ := h
        obtain ⟨news, n1, n2, n3, n4⟩ := apNew_run (P := P) hf hy han
        have hbase : ∃ old : List Value, DRr w F sz l old ∧ ((u = .slice none 0 0 ∧ l.length = 0 ∧ old = []) ∨ ∃ b cap cs fr, u = .slice (some ⟨b, 0, none⟩) l.length cap ∧ w.heap[b]? = some (.cells cs e fr) ∧ Unf cs fr ∧ cs.size = cap * sz ∧ l.length ≤ cap ∧ cap ≤ maxLen ∧ old = cs.toList.take (l.length * sz)) ∧
            (∀ b, u.ownBlock = some b → ∃ k0 g n, k = some k0 ∧ objIn S.H k0 = some (g, .row e sz l) ∧ B g = some (b, n)) := by
          unfold apBase at hap
          split at hap
          · simp only [Option.some.injEq, Prod.mk.injEq] at hap
            obtain ⟨rfl, rfl⟩ := hap
            simp only [VR] at hx
            subst hx
            exact ⟨[], by simp [DRr], .inl ⟨rfl, rfl, rfl⟩, fun b hb => by simp [Value.ownBlock] at hb⟩
          · rename_i k0 g z1 off len
            split at hap
            · rename_i g' e' z' l' hob
              split at hap
              · rename_i hc
                obtain ⟨rfl, rfl, rfl, rfl, rfl, rfl⟩ := hc
                simp only [Option.some.injEq, Prod.mk.injEq] at hap
                obtain ⟨rfl, rfl⟩ := hap
                have hor := hf.objsIn hob
                simp only [VR] at hx
                obtain ⟨hg, hx⟩ := hx
                split at hx
                · rename_i hB
                  obtain ⟨rfl, _, hl0⟩ := hx
                  have : l' = [] := List.eq_nil_of_length_eq_zero hl0
                  subst this
                  exact ⟨[], by simp [DRr], .inl ⟨rfl, rfl, rfl⟩, fun b hb => by simp [Value.ownBlock] at hb⟩
                · rename_i bb n hB
                  obtain ⟨ad, rfl, hcap, had⟩ := hx
                  have had' : ad = ⟨bb, 0, none⟩ := by rcases had with h | h; simpa using h; omega
                  subst had'
                  simp only [OR, hB] at hor
                  obtain ⟨cs, fr, hh, hun, hz0, hcs, hln, hmx, hdr⟩ := hor
                  refine ⟨_, hdr, .inr ⟨bb, n, cs, fr, rfl, hh, hun, hcs, hln, hmx, rfl⟩, fun b hb => ?_⟩
                  simp only [Value.ownBlock, Option.some.injEq] at hb
                  subst hb
                  exact ⟨k0, _, n, rfl, hob, hB⟩
              · cases hap
            · cases hap
          · cases hap
        obtain ⟨old, ho1, ho2, ho3⟩ := hbase
        obtain ⟨v', w', hr, hos, htp, hout, hcase⟩ := run_append (P := P) (ty := ty) hu hti hsz hz hzs h0 hsh n1 (by rw [hsz] at *; exact n2) n3 (DRr_one n4) ho2 hby hby0
        refine ⟨v', w', hr, ?_⟩
        have hsub : (dropKey [d] (rmKey k S.H)).Sublist S.H := by
          refine (dropKey_sub _ _).trans ?_
          cases k with
          | none => exact List.Sublist.refl _
          | some k0 => exact List.filter_sublist
        have hrest : ∀ x ∈ dropKey [d] (rmKey k S.H), ∀ b n, u.ownBlock = some b → B x.2.1 ≠ some (b, n) := by
          intro x hx b n hb hB
          obtain ⟨k0, g, m, rfl, hob, hBg⟩ := ho3 b hb
          have hm := mem_of_objIn hob
          have hxm := hsub.subset hx
          have hxk : x.1 ≠ k0 := by
            have := (dropKey_sub _ _).subset hx
            simp only [rmKey, List.mem_filter] at this
            simpa using this.2
          by_cases hg : x.2.1 = g
          · have := same_entry hf.gensNodup hxm hm hg
            exact hxk (by rw [this])
          · exact hf.apart hxm hm hg hB hBg
        have finish : ∀ (bo : Option (Nat × Nat)), w.heap.size ≤ w'.heap.size → (∀ i, i < w.heap.size → u.ownBlock ≠ some i → w'.heap[i]? = w.heap[i]?) →
            (∀ b n, bo = some (b, n) → b < w'.heap.size ∧ (w.heap.size ≤ b ∨ u.ownBlock = some b)) → OR w' F (updB B S.c bo) (S.c + 1) S.c (.row e sz (l ++ ys)) →
            VR w' F (updB B S.c bo) (S.c + 1) (.ref [d] S.c sz 0 (l.length + ys.length)) v' →
            ∃ S' F' B', K S' ∧ Tr N F B w S F' B' w' S' (a.put (some d) v') := by
          intro bo hle hkeep hbo hor hvr
          have hFb : ∀ i, F i → u.ownBlock ≠ some i := by
            intro i hi hb
            obtain ⟨k0, g, m, _, hob, hBg⟩ := ho3 i hb
            exact (hf.sep i ⟨k0, g, _, m, mem_of_objIn hob, hBg⟩).1 hi
          have hf2 := FR.add (w' := w') (bo := bo) (k := [d]) (o := .row e sz (l ++ ys)) hf hsub hle (fun i hi => hkeep i (hf.Flt i hi) (hFb i hi))
            (fun x hx b n hb => hkeep b (hf.sep b ⟨x.1, x.2.1, x.2.2, n, hsub.subset hx, hb⟩).2 (fun hub => hrest x hx b n hub hb))
            (fun b n hb => by
              obtain ⟨h1, h2⟩ := hbo b n hb
              refine ⟨fun hF => ?_, h1, fun x hx n' hx' => ?_⟩
              · rcases h2 with h2 | h2
                · have := hf.Flt b hF; omega
                · exact hFb b hF h2
              · rcases h2 with h2 | h2
                · have := (hf.sep b ⟨x.1, x.2.1, x.2.2, n', hsub.subset hx, hx'⟩).2; omega
                · exact hrest x hx b n' h2 hx') hor
          have hf3 := hf2.put (S := ⟨S.E, ([d], S.c, .row e sz (l ++ ys)) :: dropKey [d] (rmKey k S.H), S.c + 1⟩) hN hd hvr
          refine ⟨_, F, _, hk, hf3, by rw [Act.put_size]; exact hN, fun _ h => h, fun i hi hn => hkeep i hi fun hub => ?_, fun i hi => ?_, hos, htp, hout, hle, fun g hg => updB_old (Nat.lt_of_lt_of_le hg hf.pin)⟩
          · obtain ⟨k0, g, m, _, hob, hBg⟩ := ho3 i hub
            exact hn ⟨k0, g, _, m, mem_of_objIn hob, hBg⟩
          · rcases hi with hi | ⟨k1, g, o', n, hm, hB⟩
            · exact .inl hi
            · have hm' : (k1, g, o') ∈ ([d], S.c, AO.row e sz (l ++ ys)) :: dropKey [d] (rmKey k S.H) := hm
              rcases List.mem_cons.1 hm' with h | h
              · simp only [Prod.mk.injEq] at h
                obtain ⟨rfl, rfl, rfl⟩ := h
                rw [updB_new] at hB
                rcases (hbo i n hB).2 with h2 | h2
                · exact .inr (.inr h2)
                · obtain ⟨k0, g, m, _, hob, hBg⟩ := ho3 i h2
                  exact .inr (.inl ⟨k0, g, _, m, mem_of_objIn hob, hBg⟩)
              · have hmS := hsub.subset h
                rw [updB_old (hf.objs k1 g o' hmS).1] at hB
                exact .inr (.inl ⟨k1, g, o', n, hmS, hB⟩)
        rcases hcase with ⟨rfl, rfl, rfl, hnm⟩ | ⟨b, cap, cs, fr, cs', rfl, hh, rfl, hheap, hun', hcs', hroom, hcm, htake⟩ | ⟨cap, cs', rfl, hheap, hcs', hroom, hcm, htake⟩
        · refine finish none (Nat.le_refl _) (fun _ _ _ => rfl) (fun b n hb => by cases hb) ?_ ?_
          · simp only [OR, updB_new]
            exact List.eq_nil_of_length_eq_zero (by simpa using hnm)
          · simp only [VR, updB_new]
            exact ⟨Nat.lt_succ_self _, by simpa using hnm⟩
        · have hlt := lt_heap hh
          have hFk : ∀ i, F i → w'.heap[i]? = w.heap[i]? := fun i hi => by
            rw [hheap]
            refine setB_ne w b i _ fun e => ?_
            obtain ⟨k0, g, m, _, hob, hBg⟩ := ho3 b rfl
            exact (hf.sep b ⟨k0, g, _, m, mem_of_objIn hob, hBg⟩).1 (e ▸ hi)
          refine finish (some (b, cap)) (by rw [hheap, setB_size]; omega) (fun i hi hne => ?_) (fun b' n hb => ?_) ?_ ?_
          · rw [hheap]
            exact setB_ne w b i _ fun e => hne (by simp [Value.ownBlock, e])
          · simp only [Option.some.injEq, Prod.mk.injEq] at hb
            obtain ⟨rfl, rfl⟩ := hb
            exact ⟨by rw [hheap, setB_size]; exact hlt, .inr rfl⟩
          · simp only [OR, updB_new]
            refine ⟨cs', fr, by rw [hheap]; exact setB_at w b _ hlt, hun', h0, hcs', by simpa using hroom, hcm, ?_⟩
            rw [List.length_append, htake]
            exact DRr.mono hFk (fun _ h => h) _ _ _ (ho1.append n4)
          · simp only [VR, updB_new]
            exact ⟨Nat.lt_succ_self _, _, rfl, by omega, .inl (by simp)⟩
        · have hext : ∀ i, i < w.heap.size → w'.heap[i]? = w.heap[i]? := fun i hi => by rw [hheap]; exact ext_alloc w _ i hi
          refine finish (some (w.heap.size, cap)) (by rw [hheap, alloc_size]; omega) (fun i hi _ => hext i hi) (fun b' n hb => ?_) ?_ ?_
          · simp only [Option.some.injEq, Prod.mk.injEq] at hb
            obtain ⟨rfl, rfl⟩ := hb
            exact ⟨by rw [hheap, alloc_size]; omega, .inl (Nat.le_refl _)⟩
          · simp only [OR, updB_new]
            refine ⟨cs', (0, 0), by rw [hheap]; exact alloc_at w _, unf0 cs', h0, hcs', by simpa using hroom, hcm, ?_⟩
            rw [List.length_append, htake]
            exact DRr.mono (fun i hi => hext i (hf.Flt i hi)) (fun _ h => h) _ _ _ (ho1.append n4)
          · simp only [VR, updB_new]
            exact ⟨Nat.lt_succ_self _, _, rfl, by omega, .inl (by simp)⟩
      · exact h.elim
    · exact h.elim
  · exact h.elim
end
end Go.Fw
namespace Go.Fw
open Go
set_option linter.unusedVariables false
set_option linter.unusedSimpArgs false
section
variable {P : Program} {F : Nat → Prop} {B : Blk} {w w' : World} {S : St} {a : Act} {N nv : Nat} {K : St → Prop}
theorem FK_nil (F : Nat → Prop) (H : List (Key × Nat × AO)) (B : Blk) : (fun b => F b ∨ FK H B [] b) = F := by
  funext b
  refine propext ⟨fun h => h.elim id ?_, .inl⟩
  rintro ⟨k, g, o, n, h, _⟩
  simp at h
theorem zeroI_spec {t : TypeId} {z : List AV} (h : zeroI P t = some z) : ∃ i v, P.info? t = some i ∧ i.zero = some v ∧ z = v.cells.toList.map cAV := by
  unfold zeroI at h
  split at h
  · rename_i i hi
    split at h
    · rename_i v hv
      simp only [Option.some.injEq] at h
      exact ⟨i, v, hi, hv, h.symm⟩
    · cases h
  · cases h
theorem zeroD_spec {e : TypeId} {z : D} (hF : FL F w) (h : zeroD P e = some z) : ∃ i v, P.info? e = some i ∧ i.zero = some v ∧ DRc w F z v.cells.toList := by
  unfold zeroD at h
  split at h
  · rename_i zs b hz hb
    obtain ⟨i, v, hi, hv, rfl⟩ := zeroI_spec hz
    split at h
    · rename_i xs hxs
      split at h
      · rename_i hco
        have hf0 : FR F (fun _ => none) w ⟨[], [], 16⟩ { tmps := #[], defers := [] } :=
          ⟨fun t => by simp [getIn, VR], fun k g o h => by simp at h, fun b hb => by obtain ⟨_, _, _, _, h, _⟩ := hb; simp at h, by simp, hF, rfl, Nat.le_refl _⟩
        have hD := toDl_DR (P := P) hf0 99 _ xs [] v.cells.toList hxs hco (zero_VR v w _ _ _ _)
        have hD' : DRl w F xs v.cells.toList := DRl.mono (fun _ _ => rfl) (fun b hb => by
          rcases hb with hb | ⟨k, g, o, n, h, _⟩
          · exact hb
          · simp at h) _ _ hD
        split at h
        · simp only [Option.some.injEq] at h
          subst h
          exact ⟨i, v, hi, hv, by simpa [DRc] using hD'⟩
        · split at h
          · rename_i y
            simp only [Option.some.injEq] at h
            subst h
            simp only [DRl] at hD'
            obtain ⟨v1, _, e1, h0, h1, rfl⟩ := hD'
            exact ⟨i, v, hi, hv, by rw [e1]; exact h1⟩
          · cases h
      · cases h
    · cases h
  · cases h
theorem rep_cells (zc : List Value) : ∀ (n : Nat), (List.range (n * zc.length)).map (fun i => zc.toArray[i % zc.length]!) = (List.replicate n zc).flatten
  | 0 => by simp
  | n + 1 => by
    rw [Nat.add_mul, Nat.one_mul, List.range_add, List.map_append, rep_cells zc n, List.replicate_succ', List.flatten_append]
    congr 1
    simp only [List.map_map, List.flatten_cons, List.flatten_nil, List.append_nil]
    apply List.ext_getElem
    · simp
    · intro i h1 h2
      simp only [List.length_map, List.length_range] at h1
      simp [Nat.mod_eq_of_lt h1, h1]
theorem DRr_rep {z : D} {zc : List Value} {sz : Nat} (hz : DRc w F z zc) (hl : zc.length = sz) : ∀ n, DRr w F sz (List.replicate n z) (List.replicate n zc).flatten
  | 0 => by simp [DRr]
  | n + 1 => by
    simp only [List.replicate_succ, List.flatten_cons, DRr]
    exact ⟨zc, _, rfl, hl, hz, DRr_rep hz hl n⟩
theorem makeSlice_run (hF : FL F w) {t e sz : Nat} {b : Bool} (hei : elemI P t = some (e, sz, b)) {n : Int} (h0 : 0 ≤ n) (hby : n.toNat * P.bytesOf e ≤ 281474976710656) (hb0 : 0 < P.bytesOf e) {z : D} (hz : zeroD P e = some z) (hzl : (zeroI P e).map List.length = some sz) :
    ∃ cs : Array Value, (Instr.makeSlice t (.int .i64 n) (.int .i64 n)).run P w = .ok (.slice (some ⟨w.heap.size, 0, none⟩) n.toNat n.toNat) (w.alloc (.cells cs e)) ∧ cs.size = n.toNat * sz ∧ DRr w F sz (List.replicate n.toNat z) (cs.toList.take (n.toNat * sz)) := by
  obtain ⟨ti, hu, hti, hsz, hs0, hag, hb1⟩ := elemI_spec hei
  obtain ⟨i, v, hi, hv, hD⟩ := zeroD_spec (w := w) (F := F) hF hz
  rw [hti] at hi
  cases hi
  have hbo : P.bytesOf e = ti.bytes := by simp [Program.bytesOf, hti]
  rw [hbo] at hby hb0
  have hvl : v.cells.size = sz := by
    unfold zeroI at hzl
    rw [hti] at hzl
    simp only [hv] at hzl
    simpa using hzl
  have hn48 : n.toNat ≤ 281474976710656 := Nat.le_trans (Nat.le_mul_of_pos_right _ hb0) hby
  have hnn : (n.toNat : Int) = n := by omega
  have hw : IntKind.i64.wrap n = n := wrap_id (by omega) (by omega)
  have hlt : ¬ ((ti.bytes : Int) * n > 281474976710656) := by
    rw [← hnn]
    have h9 : ((n.toNat * ti.bytes : Nat) : Int) ≤ ((281474976710656 : Nat) : Int) := Int.ofNat_le.2 hby
    rw [Int.natCast_mul] at h9
    rw [Int.mul_comm]
    exact Int.not_lt.2 h9
  have hneg : ¬ (n < 0) := by omega
  have ask : (askRoom (n.toNat * ti.bytes)).run P w = .ok () w := by unfold askRoom; split <;> rfl
  have hzr : (zeroValue e).run P w = .ok v w := by simp [zeroValue, typeInfo, hti, hv]
  have hty : (typeInfo e).run P w = .ok ti w := by simp [typeInfo, hti]
  refine ⟨((Array.range (n.toNat * sz)).map ((if n.toNat * sz = 0 then #[] else v.cells)[· % (if n.toNat * sz = 0 then #[] else v.cells).size]!)), ?_, by simp, ?_⟩
  · have h1 : (decide (n < 0) || decide ((ti.bytes : Int) * n > 2 ^ 48)) = false := by simp; omega
    simp only [Instr.makeSlice, Sem.run_bind, run_underlying hu, Result.andThen_ok, asInt, asIntOf, Sem.run_pure, hty, hw, h1, Bool.false_or]
    have h2 : (decide (n < 0) || decide (n > n)) = false := by simp; omega
    simp only [h2, Bool.false_eq_true, if_false, Sem.run_bind, ask, Result.andThen_ok, run_sizeOf hti, hsz, Sem.run_pure]
    by_cases hzz : n.toNat * sz = 0
    · simp only [if_pos hzz, Sem.run_bind, Sem.run_pure, Result.andThen_ok, run_newRow]
    · simp only [if_neg hzz, Sem.run_bind, hzr, Sem.run_pure, Result.andThen_ok, run_newRow]
  · by_cases hzz : n.toNat * sz = 0
    · have : n.toNat = 0 := by rcases Nat.mul_eq_zero.1 hzz with h | h <;> omega
      simp [this, DRr]
    · simp only [if_neg hzz]
      have e1 : ((Array.range (n.toNat * sz)).map (v.cells[· % v.cells.size]!)).toList = (List.replicate n.toNat v.cells.toList).flatten := by
        rw [Array.toList_map, Array.toList_range, ← rep_cells v.cells.toList n.toNat]
        simp [hvl]
      rw [e1, List.take_of_length_le (by simp [hvl])]
      exact DRr_rep hD (by simpa using hvl) n.toNat
theorem unfL (cs : Array Value) : Unf cs (cs.size, cs.size + 1) := fun i hi => by simp; omega
theorem toBytes_run {e : TypeId} {s : ByteArray} (hs : s.size ≤ 4611686018427387904) :
    ∃ (w' : World) (cs : Array Value) (n : Nat), (Conv.stringToBytes e s).run P w = .ok (.slice (some ⟨w.heap.size, 0, none⟩) s.size n) w' ∧ w'.heap = (w.alloc (.cells cs e (cs.size, cs.size + 1))).heap ∧ cs.size = n ∧ s.size ≤ n ∧ n ≤ maxLen ∧
      cs.toList.take s.size = s.data.toList.map (fun b => .int .u8 b.toNat) ∧ w'.os = w.os ∧ w'.tape = w.tape ∧ w'.output = w.output := by
  have hge := grownCap_ge w s.size 0 e
  have hle := grownCap_le_maxLen w s.size 0 e (by simp only [maxLen]; omega)
  generalize hn : grownCap w s.size 0 e = n at hge hle
  have hn' : (Question.appendCap s.size 0 e).cut (w.tape w.drawn (Question.appendCap s.size 0 e)) = n := by rw [← hn]; rfl
  let cs : Array Value := (s.data.map fun b => Value.int .u8 b.toNat) ++ Array.replicate (n - s.size) (.int .u8 0)
  have hcs : cs.size = n := by
    have h1 : s.data.size = s.size := rfl
    simp [cs, h1]
    omega
  refine ⟨((w.drew.alloc (.cells cs e)).freeze ⟨w.heap.size, n, none⟩ 1), cs, n, ?_, ?_, hcs, hge, hle, ?_, ?_, ?_, ?_⟩
  · have hsh : (w.drew.alloc (.cells cs e)).shape? w.heap.size = some (e, n) := by
      have : (w.drew.alloc (.cells cs e)).heap[w.heap.size]? = some (.cells cs e) := alloc_at w.drew _
      simp only [World.shape?, this, hcs]
    have hmk : (markStringish ⟨w.heap.size, 0, none⟩).run P (w.drew.alloc (.cells cs e)) = .ok () ((w.drew.alloc (.cells cs e)).freeze ⟨w.heap.size, n, none⟩ 1) := by
      simp only [markStringish, shape, Sem.run_bind, Sem.run, hsh, Result.andThen_ok, freeze]
    have hch : (choose (.appendCap s.size 0 e)).run P w = .ok n w.drew := by
      simp only [choose, Sem.run, Question.forced, Bool.false_eq_true, if_false, hn']
      rfl
    simp only [Conv.stringToBytes, Sem.run_bind, hch, Result.andThen_ok, run_newRow]
    have e1 : (w.drew.heap.size) = w.heap.size := rfl
    rw [e1, hmk]
    rfl
  · simp only [World.freeze, Nat.one_ne_zero, if_false]
    have h1 : w.drew.alloc (.cells cs e) = w.drew.alloc (.cells cs e) := rfl
    apply Array.ext_getElem?
    intro i
    rw [Array.getElem?_modify]
    by_cases hi : w.heap.size = i
    · subst hi
      rw [if_pos rfl, alloc_at]
      have : (w.drew.alloc (.cells cs e)).heap[w.heap.size]? = some (.cells cs e) := alloc_at w.drew _
      rw [this]
      simp [hcs]
    · rw [if_neg hi]
      show (w.heap.push _)[i]? = (w.heap.push _)[i]?
      rw [Array.getElem?_push, Array.getElem?_push, if_neg (fun h => hi h.symm), if_neg (fun h => hi h.symm)]
  · have h1 : s.data.size = s.size := rfl
    have : cs.toList = (s.data.toList.map fun b => Value.int .u8 b.toNat) ++ List.replicate (n - s.size) (.int .u8 0) := by simp [cs]
    rw [this]
    exact List.take_left' (by simp)
  all_goals simp only [World.freeze, Nat.one_ne_zero, if_false]; rfl
theorem bytesD (l : List UInt8) : DRr w F 1 (l.map byteD) (l.map fun b => Value.int .u8 b.toNat) := by
  induction l with
  | nil => simp [DRr]
  | cons b r ih => simp only [List.map_cons, DRr]; exact ⟨[.int .u8 b.toNat], _, rfl, rfl, by simp [DRc, byteD], ih⟩
end
end Go.Fw
namespace Go.Fw
open Go
set_option linter.unusedVariables false
set_option linter.unusedSimpArgs false
section
variable {P : Program} {F : Nat → Prop} {B : Blk} {w w' : World} {S : St} {a : Act} {N nv : Nat} {K : St → Prop}
 
def Ends (P : Program) (N : Nat) (F : Nat → Prop) (B : Blk) (w : World) (S : St) (a : Act) (o : Oper) (K : St → Prop) : Prop :=
  ∃ r w' v, (execOp a.eval o).run P w = .ok r w' ∧ (r = .value v ∨ (r = .skip ∧ v = undef)) ∧ (isDs o = false → Ext w w') ∧ ∃ S' F' B', K S' ∧ Tr N F B w S F' B' w' S' (a.put o.dst v)
theorem evs_VRl (hf : FR F B w S a) : ∀ l : List Operand, VRl w F B S.c (l.map S.ev) (l.map a.eval)
  | [] => by simp [VRl]
  | x :: r => by simp only [List.map_cons, VRl]; exact ⟨_, _, rfl, ev_VR hf x, evs_VRl hf r⟩
theorem evs_VRl' (hf : FR F B w S a) : ∀ l : List (Nat × Operand), VRl w F B S.c (l.map fun p => S.ev p.2) (l.map fun p => a.eval p.2)
  | [] => by simp [VRl]
  | x :: r => by simp only [List.map_cons, VRl]; exact ⟨_, _, rfl, ev_VR hf x.2, evs_VRl' hf r⟩
theorem dropEmpty (K : St → Prop) {d : Nat} {o : AO} {av : AV} (h : K (S.newObj d o av)) : K ((S.freeze []).newObj d o av) := h
theorem elemsP_len {b : Bool} {sz : Nat} : ∀ {xs : List D}, elemsP b sz xs → ∀ {vs : List Value}, DRvl w F xs vs → vs.length = xs.length
  | [], _, vs, h => by simp only [DRvl] at h; simp [h]
  | x :: r, he, vs, h => by
    simp only [DRvl] at h
    obtain ⟨v, vs', rfl, _, h2⟩ := h
    simp only [elemsP] at he
    simp [elemsP_len he.2.2 h2]
theorem effV_run (hf : FR F B w S a) (hN : a.tmps.size = N) (o : Oper) (hd : dstOK N o.dst = true) (h : effV P nv o S K) : Ends P N F B w S a o K := by
  obtain ⟨dst, op, ty, pos, after, guard⟩ := o
  cases op <;> simp only [effV] at h <;> try exact h.elim
  case alloc t =>
    split at h
    · rename_i d p z hv hz
      obtain ⟨i, zv, hi, hzv, rfl⟩ := zeroI_spec hz
      have hzr : (zeroValue t).run P w = .ok zv w := by simp [zeroValue, typeInfo, hi, hzv]
      have ht := box_Tr (B := B) (t := t) (cs := zv.cells) hf hN hd h.1 (zero_VR zv w F B S.c _)
      refine ⟨.value (.pointer (some ⟨w.heap.size, 0, none⟩)), _, _, ?_, .inl rfl, fun _ => ext_alloc w _, _, _, _, h.2, ht⟩
      simp only [execOp, Instr.alloc, Sem.run_bind, hzr, Result.andThen_ok, newVar, run_newRow, Sem.run_pure]
    · exact h.elim
  case box t x =>
    split at h
    · rename_i d
      have hcx := avCells_VR (ev_VR hf x) (by intro e0; have := h.1; rw [e0] at this; cases this)
      have ht := box_Tr (B := B) (t := t) (cs := (a.eval x).cells) hf hN hd h.2.1 hcx
      refine ⟨.value (.pointer (some ⟨w.heap.size, 0, none⟩)), _, _, ?_, .inl rfl, fun _ => ext_alloc w _, _, _, _, h.2.2, ht⟩
      simp only [execOp, Instr.box, Sem.run_bind, Result.andThen_ok, newVar, run_newRow, Sem.run_pure]
    · exact h.elim
  case buildSlice t len parts =>
    split at h
    · rename_i d e sz b hei
      obtain ⟨hzs, hsq, rfl, hl24, h⟩ := h
      obtain ⟨ti, hu, hti, hsz, h0, hag, hb1⟩ := elemI_spec hei
      split at h
      · rename_i xs ks hxs
        obtain ⟨hel, hk⟩ := h
        have hz : ∃ z, ti.zero = some z := by
          obtain ⟨zz, hzz⟩ := Option.isSome_iff_exists.1 hzs
          obtain ⟨i, v, hi, hv, _⟩ := zeroI_spec hzz
          rw [hti] at hi
          cases hi
          exact ⟨v, hv⟩
        obtain ⟨z, hz⟩ := hz
        have hD := toDl_DRv hf 60 _ xs ks _ hxs (evs_VRl' hf parts.toList)
        obtain ⟨hr, hcs⟩ := DRr_of_vals hel hD
        have hxl : xs.length = parts.size := by have := elemsP_len hel hD; simpa using this.symm
        obtain ⟨cs, e1, e2, e3⟩ := run_buildSlice (P := P) (w := w) (f := a.eval) hei hti hz hsq hl24 (fun p hp => hcs _ (List.mem_map.2 ⟨p, hp, rfl⟩))
        have hm : parts.size ≤ maxLen := by
          have : parts.size ≤ parts.size * sz := Nat.le_mul_of_pos_right _ h0
          simp only [maxLen]; omega
        have ht := row_Tr (B := B) (e := e) (n := parts.size) (xs := xs) (cs := cs) (fr := (0, 0)) hf hN hd ks (unf0 cs) h0 e2 (by omega) hm (by rw [hxl, e3]; exact hr) (w' := w.alloc (.cells cs e)) rfl rfl rfl rfl
        rw [hxl] at ht
        refine ⟨.value (.slice (some ⟨w.heap.size, 0, none⟩) parts.size parts.size), _, _, ?_, .inl rfl, fun _ => ext_alloc w _, _, _, _, hk, ht⟩
        simp only [execOp, Sem.run_bind, e1, Result.andThen_ok, Sem.run_pure]
      · exact h.elim
    · exact h.elim
  case makeSlice t l c =>
    split at h
    · rename_i d e sz b n m hei hl hc
      obtain ⟨rfl, hn0, hby, hb0, h⟩ := h
      obtain ⟨ti, hu, hti, hsz, h0, hag, hb1⟩ := elemI_spec hei
      have hbo : P.bytesOf e = ti.bytes := by simp [Program.bytesOf, hti]
      split at h
      · rename_i z hz
        obtain ⟨hz1, hz2, hzl, hk⟩ := h
        have el : a.eval l = .int .i64 n := val_of_scalar rfl (by rw [← hl]; exact ev_VR hf l)
        have ec : a.eval c = .int .i64 n := val_of_scalar rfl (by rw [← hc]; exact ev_VR hf c)
        obtain ⟨cs, e1, e2, e3⟩ := makeSlice_run (P := P) (w := w) (F := F) hf.Flt hei hn0 hby hb0 hz hzl
        have hm : n.toNat ≤ maxLen := by
          have : n.toNat ≤ n.toNat * P.bytesOf e := Nat.le_mul_of_pos_right _ hb0
          simp only [maxLen]; omega
        have hrl : (List.replicate n.toNat z).length = n.toNat := by simp
        have ht := row_Tr (B := B) (e := e) (n := n.toNat) (xs := List.replicate n.toNat z) (cs := cs) (fr := (0, 0)) hf hN hd [] (unf0 cs) h0 e2 (by omega) hm (by rw [hrl, FK_nil]; exact e3) (w' := w.alloc (.cells cs e)) rfl rfl rfl rfl
        rw [hrl] at ht
        refine ⟨.value (.slice (some ⟨w.heap.size, 0, none⟩) n.toNat n.toNat), _, _, ?_, .inl rfl, fun _ => ext_alloc w _, _, _, _, hk, ht⟩
        simp only [execOp, el, ec, Sem.run_bind, e1, Result.andThen_ok, Sem.run_pure]
      · exact h.elim
    · exact h.elim
  case convert src dst' x =>
    split at h
    · rename_i d e s hs hu hx
      obtain ⟨he, hsz, hk⟩ := h
      have ex : a.eval x = .string s := val_of_scalar rfl (by rw [← hx]; exact ev_VR hf x)
      obtain ⟨w', cs, n, e1, e2, e3, e4, e5, e6, e7, e8, e9⟩ := toBytes_run (P := P) (w := w) (e := e) hsz
      have hl : (s.data.toList.map byteD).length = s.size := by simp
      have ht := row_Tr (B := B) (e := e) (sz := 1) (n := n) (xs := s.data.toList.map byteD) (cs := cs) (fr := (cs.size, cs.size + 1)) hf hN hd [] (unfL cs) (by omega) (by omega) (by omega) e5 (by rw [hl, FK_nil, Nat.mul_one, e6]; exact bytesD _) e2 e7 e8 e9
      rw [hl] at ht
      refine ⟨.value (.slice (some ⟨w.heap.size, 0, none⟩) s.size n), w', _, ?_, .inl rfl, fun _ b hb => by rw [e2]; exact ext_alloc w _ b hb, _, _, _, hk, ht⟩
      have hrun : (convert src dst' (.string s)).run P w = .ok (.slice (some ⟨w.heap.size, 0, none⟩) s.size n) w' := by
        simp only [convert, Sem.run_bind, run_underlying (shapeT_str hs), run_underlying hu, Result.andThen_ok, run_underlying (shapeT_int he), e1]
      simp only [execOp, ex, Sem.run_bind, hrun, Result.andThen_ok, Sem.run_pure]
    · exact h.elim
  case store t p x =>
    obtain ⟨hd0, h⟩ := h
    have hd0' : dst = none := hd0
    subst hd0'
    obtain ⟨w', e1, S', F', B', hk, ht⟩ := storeV_run hf hN (ev_VR hf p) (ev_VR hf x) h
    refine ⟨.skip, w', undef, ?_, .inr ⟨rfl, rfl⟩, fun hds => by simp [isDs] at hds, S', F', B', hk, ht⟩
    simp only [execOp, Sem.run_bind, e1, Result.andThen_ok, Sem.run_pure]
  case assign x =>
    split at h
    · rename_i d
      obtain ⟨S', B', hk, ht⟩ := assignV_run hf hN hd (ev_VR hf x) h
      exact ⟨.value (a.eval x), w, _, by simp [execOp], .inl rfl, fun _ => Ext.refl w, S', F, B', hk, ht⟩
    · exact h.elim
  case range t x =>
    split at h
    · rename_i d s hs hx
      have ex : a.eval x = .string s := val_of_scalar rfl (by rw [← hx]; exact ev_VR hf x)
      have hh := alloc_at w (.stringIter s 0)
      have ht := newObj_Tr (o := .iter s 0) (av := .addr [d] S.c 0) (v := .pointer (some ⟨w.heap.size, 0, none⟩)) (bo := some (w.heap.size, 0)) hf hN hd [] (ext_alloc w (.stringIter s 0)) rfl rfl rfl
        (fun b n hb => by simp only [Option.some.injEq, Prod.mk.injEq] at hb; obtain ⟨rfl, rfl⟩ := hb; exact ⟨Nat.le_refl _, by rw [alloc_size]; omega⟩)
        (by simp only [OR]; exact ⟨_, _, updB_new, hh⟩) (by simp only [VR]; exact ⟨Nat.lt_succ_self _, _, _, updB_new, rfl⟩)
      refine ⟨.value (.pointer (some ⟨w.heap.size, 0, none⟩)), _, _, ?_, .inl rfl, fun _ => ext_alloc w _, _, _, _, h, ht⟩
      simp [execOp, ex, Instr.range, run_underlying (shapeT_str hs), newObj]
      rfl
    · exact h.elim
  case next x isS =>
    split at h
    · rename_i d k g c hx
      split at h
      · rename_i g' s pos hob
        obtain ⟨rfl, rfl, h1, h2⟩ := h
        have hxv := ev_VR hf x
        rw [hx] at hxv
        simp only [VR] at hxv
        obtain ⟨hg, b, n, hB, hev⟩ := hxv
        have hor := hf.objsIn hob
        simp only [OR] at hor
        obtain ⟨b', n', hB', hh⟩ := hor
        rw [hB] at hB'
        simp only [Option.some.injEq, Prod.mk.injEq] at hB'
        obtain ⟨rfl, rfl⟩ := hB'
        have hlt := lt_heap hh
        have hgo : (getObj b).run P w = .ok (.stringIter s pos) w := by simp [getObj, Sem.run, hh]
        by_cases hp : pos < s.size
        · have hso : ∀ o', (setObj b o').run P w = .ok () (setB w b o') := by intro o'; simp [setObj, Sem.run, hh, setB]
          have hF : ∀ i, F i → (setB w b (.stringIter s (pos + (Utf8.decode s pos).2))).heap[i]? = w.heap[i]? := fun i hi => setB_ne w b i _ fun e => (hf.sep b ⟨k, g', _, n, mem_of_objIn hob, hB⟩).1 (e ▸ hi)
          have hf2 := FR.upd (w' := setB w b (.stringIter s (pos + (Utf8.decode s pos).2))) (o := .iter s (pos + (Utf8.decode s pos).2)) hf hob hB (by rw [setB_size]; omega) (fun i _ hi => setB_ne w b i _ hi) (by simp only [OR]; exact ⟨b, n, hB, setB_at w b _ hlt⟩)
          have hf3 := hf2.put (S := ⟨S.E, setO S.H k (.iter s (pos + (Utf8.decode s pos).2)), S.c⟩) hN hd (av := .tup [.d (.bool true), .d (.int .i64 pos), .d (.int .i32 (Utf8.decode s pos).1)]) (v := .tuple #[.bool true, .int .i64 pos, .int .i32 (Utf8.decode s pos).1]) (by simp [VR, VRl, DRv, DRc])
          have ht := Tr.stored (N := N) hf (by exact hN) hob hB hf2 (fun i hi => setB_ne w b i _ hi) rfl rfl rfl (setB_size w b _) (fun i hi => own_setO hob hi)
          refine ⟨.value (.tuple #[.bool true, .int .i64 pos, .int .i32 (Utf8.decode s pos).1]), _, _, ?_, .inl rfl, fun hds => by simp [isDs] at hds, _, F, B, h1 hp, ⟨hf3, by rw [Act.put_size]; exact hN, ht.sub, ht.keep, ht.new, ht.os, ht.tape, ht.output, ht.size, ht.old⟩⟩
          simp only [execOp, hev, Instr.next, Sem.run_bind, hgo, Result.andThen_ok, if_pos hp, hso, Sem.run_pure]
          rfl
        · refine ⟨.value (.tuple #[.bool false]), w, _, ?_, .inl rfl, fun hds => by simp [isDs] at hds, _, F, B, h2 (by omega), Tr.still hf hN (hf.put hN hd (by simp [VR, VRl, DRv, DRc])) (by rw [Act.put_size]; exact hN) (fun b h => h)⟩
          simp only [execOp, hev, Instr.next, Sem.run_bind, hgo, Result.andThen_ok, if_neg hp, Sem.run_pure]
      · exact h.elim
    · exact h.elim
  case call cl =>
    obtain ⟨callee, args, ats⟩ := cl
    split at h
    · rename_i d hcal
      have hcal' : callee = .builtin .append := hcal
      subst hcal'
      split at h
      · rename_i x y hxy
        have hxy' : args.toList = [x, y] := hxy
        obtain ⟨r, w', e1, S', F', B', hk, ht⟩ := appendV_run (ty := ty) hf hN hd (ev_VR hf x) (ev_VR hf y) h
        have hargs : args.map a.eval = #[a.eval x, a.eval y] := Array.ext' (by simp [hxy'])
        refine ⟨.value r, w', r, ?_, .inl rfl, fun hds => by simp [isDs] at hds, S', F', B', hk, ht⟩
        simp only [execOp, resolve, invoke, builtin, Sem.run_bind, Sem.run_pure, Result.andThen_ok, hargs]
        simp only [e1, Result.andThen_ok, Sem.run_pure]
      · exact h.elim
    · exact h.elim
end
end Go.Fw
namespace Go.Fw
open Go
set_option linter.unusedVariables false
set_option linter.unusedSimpArgs false
 
inductive CV where
  | d (x : D)
  | nils
  | own (e sz : Nat) (l : List D)
  | box (e : Nat) (l : List CV)
  | agg (l : List CV)
  | gone
def CV.cell : CV → Bool
  | .d x => !x.isAgg
  | .agg _ | .gone => false
  | _ => true
def cvCells : List CV → Bool
  | [] => true
  | x :: r => x.cell && cvCells r
mutual
def CR (w : World) (F : Nat → Prop) : CV → Value → List Nat → Prop
  | .d x, v, fp => DRv w F x v ∧ fp = []
  | .nils, v, fp => v = .slice none 0 0 ∧ fp = []
  | .own e sz l, v, fp => (v = .slice none 0 0 ∧ l = [] ∧ fp = []) ∨
      ∃ b n cs fr, v = .slice (some ⟨b, 0, none⟩) l.length n ∧ w.heap[b]? = some (.cells cs e fr) ∧ Unf cs fr ∧ 0 < sz ∧ cs.size = n * sz ∧ l.length ≤ n ∧ n ≤ maxLen ∧ DRr w F sz l (cs.toList.take (l.length * sz)) ∧ fp = [b]
  | .box e l, v, fp => ∃ b cs fr fp', v = .pointer (some ⟨b, 0, none⟩) ∧ w.heap[b]? = some (.cells cs e fr) ∧ Unf cs fr ∧ cvCells l = true ∧ CRl w F l cs.toList fp' ∧ fp = b :: fp'
  | .agg l, v, fp => ∃ cs, v = .agg cs ∧ cvCells l = true ∧ CRl w F l cs.toList fp
  | .gone, v, fp => fp = []
def CRl (w : World) (F : Nat → Prop) : List CV → List Value → List Nat → Prop
  | [], vs, fp => vs = [] ∧ fp = []
  | x :: r, vs, fp => ∃ v vs' f1 f2, vs = v :: vs' ∧ CR w F x v f1 ∧ CRl w F r vs' f2 ∧ fp = f1 ++ f2
end
mutual
 
def intern (k : Key) (c : Nat) : CV → AV × List (Key × Nat × AO) × Nat
  | .d x => (.d x, [], c)
  | .nils => (.nils, [], c)
  | .own e sz l => (.ref k c sz 0 l.length, [(k, c, .row e sz l)], c + 1)
  | .box e l => (.addr k c 0, (k, c, .box e (interns k 0 (c + 1) l).1) :: (interns k 0 (c + 1) l).2.1, (interns k 0 (c + 1) l).2.2)
  | .agg l => (mkAgg (interns k 0 c l).1, (interns k 0 c l).2.1, (interns k 0 c l).2.2)
  | .gone => (.dead, [], c)
def interns (k : Key) (i c : Nat) : List CV → List AV × List (Key × Nat × AO) × Nat
  | [] => ([], [], c)
  | x :: r => ((intern (k ++ [i]) c x).1 :: (interns k (i + 1) (intern (k ++ [i]) c x).2.2 r).1,
      (intern (k ++ [i]) c x).2.1 ++ (interns k (i + 1) (intern (k ++ [i]) c x).2.2 r).2.1, (interns k (i + 1) (intern (k ++ [i]) c x).2.2 r).2.2)
end
section
variable {P : Program} {F : Nat → Prop} {w w' : World}
 
structure Laid (w : World) (F : Nat → Prop) (B B' : Blk) (c c' : Nat) (hs : List (Key × Nat × AO)) (fp : List Nat) : Prop where
  old : ∀ g, g < c → B' g = B g
  le : c ≤ c'
  objs : ∀ x ∈ hs, c ≤ x.2.1 ∧ x.2.1 < c' ∧ OR w F B' c' x.2.1 x.2.2
  blk : ∀ x ∈ hs, ∀ b n, B' x.2.1 = some (b, n) → b ∈ fp
  inj : (hs.map fun x => x.2.1).Pairwise fun g g' => g ≠ g' ∧ ∀ b n n', B' g = some (b, n) → B' g' ≠ some (b, n')
theorem OR.lift {B B' : Blk} {c c' g : Nat} (hB : ∀ g, g < c → B' g = B g) (hc : c ≤ c') (hg : g < c) {o : AO} (h : OR w F B c g o) : OR w F B' c' g o :=
  OR.mono (fun _ _ => rfl) (fun _ h => h) hB hc hg (fun _ _ _ => rfl) h
theorem VR.lift {B B' : Blk} {c c' : Nat} (hB : ∀ g, g < c → B' g = B g) (hc : c ≤ c') {x : AV} {v : Value} (h : VR w F B c x v) : VR w F B' c' x v :=
  VR.mono (fun _ _ => rfl) (fun _ h => h) hB hc x v h
mutual
theorem intern_spec : ∀ (x : CV) (k : Key) (c : Nat) (v : Value) (fp : List Nat) (B : Blk), CR w F x v fp → fp.Nodup → ∃ B', Laid w F B B' c (intern k c x).2.2 (intern k c x).2.1 fp ∧ VR w F B' (intern k c x).2.2 (intern k c x).1 v ∧ (x.cell = true → (intern k c x).1.cell = true)
  | .d x, k, c, v, fp, B, h, hn => by
    simp only [CR] at h
    exact ⟨B, ⟨fun _ _ => rfl, Nat.le_refl _, by simp [intern], by simp [intern], by simp [intern]⟩, by simpa [intern, VR] using h.1, by simp [intern, CV.cell, AV.cell]⟩
  | .nils, k, c, v, fp, B, h, hn => by
    simp only [CR] at h
    exact ⟨B, ⟨fun _ _ => rfl, Nat.le_refl _, by simp [intern], by simp [intern], by simp [intern]⟩, by simpa [intern, VR] using h.1, by simp [intern, AV.cell]⟩
  | .gone, k, c, v, fp, B, h, hn => ⟨B, ⟨fun _ _ => rfl, Nat.le_refl _, by simp [intern], by simp [intern], by simp [intern]⟩, by simp [intern, VR], by simp [CV.cell]⟩
  | .own e sz l, k, c, v, fp, B, h, hn => by
    simp only [CR] at h
    simp only [intern]
    rcases h with ⟨rfl, rfl, rfl⟩ | ⟨b, n, cs, fr, rfl, hh, hu, h0, hcs, hln, hm, hd, rfl⟩
    · refine ⟨updB B c none, ⟨fun g hg => updB_old hg, Nat.le_succ _, fun x hx => ?_, fun x hx b n hb => ?_, by simp⟩, ?_, by simp [AV.cell]⟩
      · simp only [List.mem_singleton] at hx
        subst hx
        exact ⟨Nat.le_refl _, Nat.lt_succ_self _, by simp only [OR, updB_new]⟩
      · simp only [List.mem_singleton] at hx
        subst hx
        rw [updB_new] at hb
        cases hb
      · simp only [VR, updB_new]
        exact ⟨Nat.lt_succ_self _, by simp⟩
    · refine ⟨updB B c (some (b, n)), ⟨fun g hg => updB_old hg, Nat.le_succ _, fun x hx => ?_, fun x hx b' n' hb => ?_, by simp⟩, ?_, by simp [AV.cell]⟩
      · simp only [List.mem_singleton] at hx
        subst hx
        exact ⟨Nat.le_refl _, Nat.lt_succ_self _, by simp only [OR, updB_new]; exact ⟨cs, fr, hh, hu, h0, hcs, hln, hm, hd⟩⟩
      · simp only [List.mem_singleton] at hx
        subst hx
        rw [updB_new] at hb
        simp only [Option.some.injEq, Prod.mk.injEq] at hb
        simp [hb.1]
      · simp only [VR, updB_new]
        exact ⟨Nat.lt_succ_self _, _, rfl, by omega, .inl (by simp)⟩
  | .box e l, k, c, v, fp, B, h, hn => by
    simp only [CR] at h
    obtain ⟨b, cs, fr, fp', rfl, hh, hu, hc, hl, rfl⟩ := h
    simp only [List.nodup_cons] at hn
    obtain ⟨B', hL, hv, hcc⟩ := interns_spec l k 0 (c + 1) cs.toList fp' (updB B c (some (b, 0))) hl hn.2
    have hBc : B' c = some (b, 0) := by rw [hL.old c (Nat.lt_succ_self _), updB_new]
    simp only [intern]
    refine ⟨B', ⟨fun g hg => by rw [hL.old g (by omega), updB_old hg], Nat.le_trans (Nat.le_succ _) hL.le, fun x hx => ?_, fun x hx b' n' hb => ?_, ?_⟩, ?_, by simp [AV.cell]⟩
    · rcases List.mem_cons.1 hx with rfl | hx
      · exact ⟨Nat.le_refl _, hL.le, by simp only [OR]; exact ⟨b, 0, cs, fr, hBc, hh, hu, hcc hc, hv⟩⟩
      · obtain ⟨h1, h2, h3⟩ := hL.objs x hx
        exact ⟨by omega, h2, h3⟩
    · rcases List.mem_cons.1 hx with rfl | hx
      · simp only [hBc, Option.some.injEq, Prod.mk.injEq] at hb
        simp [hb.1]
      · exact List.mem_cons_of_mem _ (hL.blk x hx b' n' hb)
    · simp only [List.map_cons, List.pairwise_cons]
      refine ⟨fun g hg => ?_, hL.inj⟩
      obtain ⟨x, hx, rfl⟩ := List.mem_map.1 hg
      refine ⟨by have := (hL.objs x hx).1; omega, fun b' n n' h1 h2 => ?_⟩
      rw [hBc] at h1
      simp only [Option.some.injEq, Prod.mk.injEq] at h1
      exact hn.1 (h1.1 ▸ hL.blk x hx b' n' h2)
    · simp only [VR]
      exact ⟨by have := hL.le; omega, b, 0, hBc, rfl⟩
  | .agg l, k, c, v, fp, B, h, hn => by
    simp only [CR] at h
    obtain ⟨cs, rfl, hc, hl⟩ := h
    obtain ⟨B', hL, hv, hcc⟩ := interns_spec l k 0 c cs.toList fp B hl hn
    simp only [intern]
    exact ⟨B', hL, mkAgg_VR (hcc hc) hv, by simp [CV.cell]⟩
theorem interns_spec : ∀ (l : List CV) (k : Key) (i c : Nat) (vs : List Value) (fp : List Nat) (B : Blk), CRl w F l vs fp → fp.Nodup → ∃ B', Laid w F B B' c (interns k i c l).2.2 (interns k i c l).2.1 fp ∧ VRl w F B' (interns k i c l).2.2 (interns k i c l).1 vs ∧ (cvCells l = true → cellsOK (interns k i c l).1 = true)
  | [], k, i, c, vs, fp, B, h, hn => by
    simp only [CRl] at h
    obtain ⟨rfl, rfl⟩ := h
    exact ⟨B, ⟨fun _ _ => rfl, Nat.le_refl _, by simp [interns], by simp [interns], by simp [interns]⟩, by simp [interns, VRl], by simp [interns, cellsOK]⟩
  | x :: r, k, i, c, vs, fp, B, h, hn => by
    simp only [CRl] at h
    obtain ⟨v, vs', f1, f2, rfl, h1, h2, rfl⟩ := h
    have hn' := List.nodup_append.1 hn
    obtain ⟨B1, hL1, hv1, hc1⟩ := intern_spec x (k ++ [i]) c v f1 B h1 hn'.1
    simp only [interns]
    generalize intern (k ++ [i]) c x = p at *
    obtain ⟨B2, hL2, hv2, hc2⟩ := interns_spec r k (i + 1) p.2.2 vs' f2 B1 h2 hn'.2.1
    generalize interns k (i + 1) p.2.2 r = q at *
    refine ⟨B2, ⟨fun g hg => by rw [hL2.old g (Nat.lt_of_lt_of_le hg hL1.le), hL1.old g hg], Nat.le_trans hL1.le hL2.le, fun x hx => ?_, fun x hx b n hb => ?_, ?_⟩, ?_, fun hc => ?_⟩
    · rcases List.mem_append.1 hx with hx | hx
      · obtain ⟨a1, a2, a3⟩ := hL1.objs x hx
        exact ⟨a1, Nat.lt_of_lt_of_le a2 hL2.le, a3.lift hL2.old hL2.le a2⟩
      · obtain ⟨a1, a2, a3⟩ := hL2.objs x hx
        exact ⟨Nat.le_trans hL1.le a1, a2, a3⟩
    · rcases List.mem_append.1 hx with hx | hx
      · rw [hL2.old _ (hL1.objs x hx).2.1] at hb
        exact List.mem_append_left _ (hL1.blk x hx b n hb)
      · exact List.mem_append_right _ (hL2.blk x hx b n hb)
    · rw [List.map_append, List.pairwise_append]
      refine ⟨?_, hL2.inj, fun g hg g' hg' => ?_⟩
      · refine List.Pairwise.imp_of_mem (fun {g g'} hg hg' hh => ?_) hL1.inj
        obtain ⟨x, hx, rfl⟩ := List.mem_map.1 hg
        obtain ⟨y, hy, rfl⟩ := List.mem_map.1 hg'
        refine ⟨hh.1, fun b n n' => ?_⟩
        rw [hL2.old _ (hL1.objs x hx).2.1, hL2.old _ (hL1.objs y hy).2.1]
        exact hh.2 b n n'
      · obtain ⟨x, hx, rfl⟩ := List.mem_map.1 hg
        obtain ⟨y, hy, rfl⟩ := List.mem_map.1 hg'
        have a := (hL1.objs x hx).2.1
        have b' := (hL2.objs y hy).1
        refine ⟨by omega, fun b n n' e1 e2 => ?_⟩
        rw [hL2.old _ a] at e1
        exact hn'.2.2 b (hL1.blk x hx b n e1) b (hL2.blk y hy b n' e2) rfl
    · simp only [VRl]
      exact ⟨v, vs', rfl, hv1.lift hL2.old hL2.le, hv2⟩
    · simp only [cvCells, Bool.and_eq_true] at hc
      simp only [cellsOK, hc1 hc.1, hc2 hc.2, Bool.and_self]
end
end
end Go.Fw
namespace Go.Fw
open Go
set_option linter.unusedVariables false
set_option linter.unusedSimpArgs false
mutual
 
def ext (H : List (Key × Nat × AO)) : Nat → AV → Option (CV × List Key)
  | 0, _ => none
  | n + 1, .d x => some (.d x, [])
  | n + 1, .nils => some (.nils, [])
  | n + 1, .ref k g sz off len => match objIn H k with
    | some (g', .row e z l) => if g' = g ∧ z = sz ∧ off = 0 ∧ len ≤ l.length then some (.own e z (l.take len), [k]) else none
    | _ => none
  | n + 1, .addr k g c => match objIn H k with
    | some (g', .box e l) => if g' = g ∧ c = 0 then match exts H n l with
        | some (xs, ks) => some (.box e xs, k :: ks)
        | none => none
      else none
    | _ => none
  | n + 1, .agg l => match exts H n l with
    | some (xs, ks) => some (.agg xs, ks)
    | none => none
  | n + 1, .dead => some (.gone, [])
  | n + 1, _ => none
def exts (H : List (Key × Nat × AO)) : Nat → List AV → Option (List CV × List Key)
  | 0, _ => none
  | n + 1, [] => some ([], [])
  | n + 1, x :: r => match ext H n x, exts H n r with
    | some (y, k1), some (ys, k2) => some (y :: ys, k1 ++ k2)
    | _, _ => none
end
def blkOf (H : List (Key × Nat × AO)) (B : Blk) (k : Key) : Option Nat := match objIn H k with
  | some (g, _) => (B g).map Prod.fst
  | none => none
def fpOf (H : List (Key × Nat × AO)) (B : Blk) (ks : List Key) : List Nat := ks.filterMap (blkOf H B)
 
inductive Mode where
  | ro | frz | own
def argsC (P : Program) (H : List (Key × Nat × AO)) : List Mode → List AV → Option (List CV × List Key × List Key × List Key)
  | _, [] => some ([], [], [], [])
  | ms, x :: r => match argsC P H ms.tail r with
    | some (cs, kf, kr, ko) => match ms.headD .frz with
      | .own => match ext H 60 x with
        | some (c, ks) => some (c :: cs, kf, kr, ks ++ ko)
        | none => none
      | .ro => match toD P H 60 x with
        | some (y, ks) => some (.d y :: cs, kf, ks ++ kr, ko)
        | none => none
      | .frz => match toD P H 60 x with
        | some (y, ks) => some (.d y :: cs, ks ++ kf, kr, ko)
        | none => none
    | none => none
mutual
def CV.flat : CV → Bool
  | .d x => x.flat
  | .nils => true
  | .own _ _ l => D.flat.flats l
  | .box _ l => flats l
  | .agg l => flats l
  | .gone => true
def flats : List CV → Bool
  | [] => true
  | x :: r => x.flat && flats r
end
section
variable {P : Program} {F : Nat → Prop} {B : Blk} {w w' : World} {S : St} {a : Act}
theorem fpOf_mem {H : List (Key × Nat × AO)} {ks : List Key} {b : Nat} (h : b ∈ fpOf H B ks) : FK H B ks b := by
  obtain ⟨k, hk, hb⟩ := List.mem_filterMap.1 h
  unfold blkOf at hb
  split at hb
  · rename_i g o ho
    cases hB : B g with
    | none => simp [hB] at hb
    | some p =>
      obtain ⟨b', n⟩ := p
      simp [hB] at hb
      subst hb
      exact ⟨k, g, o, n, hk, mem_of_objIn ho, hB⟩
  · cases hb
theorem fpOf_nodup (hf : FR F B w S a) {ks : List Key} (h : ks.Nodup) : (fpOf S.H B ks).Nodup := by
  refine List.pairwise_filterMap.2 (h.imp fun {k k'} hne b hb b' hb' e => ?_)
  subst e
  unfold blkOf at hb hb'
  split at hb
  · rename_i g o ho
    split at hb'
    · rename_i g' o' ho'
      have m1 := mem_of_objIn ho
      have m2 := mem_of_objIn ho'
      cases hB : B g with
      | none => simp [hB] at hb
      | some p =>
        cases hB' : B g' with
        | none => simp [hB'] at hb'
        | some p' =>
          obtain ⟨b1, n1⟩ := p
          obtain ⟨b2, n2⟩ := p'
          simp [hB] at hb
          simp [hB'] at hb'
          subst hb
          subst hb'
          by_cases hg : g = g'
          · have := same_entry hf.gensNodup m1 m2 hg
            simp only [Prod.mk.injEq] at this
            exact hne this.1
          · exact hf.apart m1 m2 hg hB hB'
    · cases hb'
  · cases hb
theorem fpOf_append {H : List (Key × Nat × AO)} (k1 k2 : List Key) : fpOf H B (k1 ++ k2) = fpOf H B k1 ++ fpOf H B k2 := List.filterMap_append
mutual
theorem ext_spec (hf : FR F B w S a) : ∀ (n : Nat) (x : AV) (y : CV) (ks : List Key) (v : Value), ext S.H n x = some (y, ks) → VR w F B S.c x v → CR w F y v (fpOf S.H B ks) ∧ (x.cell = true → y.cell = true)
  | 0, x, y, ks, v, h, hv => by simp [ext] at h
  | n + 1, .d x, y, ks, v, h, hv => by
    simp only [ext, Option.some.injEq, Prod.mk.injEq] at h
    obtain ⟨rfl, rfl⟩ := h
    simp only [VR] at hv
    exact ⟨by simp only [CR]; exact ⟨hv, rfl⟩, by simp [AV.cell, CV.cell]⟩
  | n + 1, .nils, y, ks, v, h, hv => by
    simp only [ext, Option.some.injEq, Prod.mk.injEq] at h
    obtain ⟨rfl, rfl⟩ := h
    simp only [VR] at hv
    exact ⟨by simp only [CR]; exact ⟨hv, rfl⟩, by simp [CV.cell]⟩
  | n + 1, .ref k g sz off len, y, ks, v, h, hv => by
    simp only [ext] at h
    split at h
    · rename_i g' e z l hob
      split at h
      · rename_i hc
        obtain ⟨rfl, rfl, rfl, hle⟩ := hc
        simp only [Option.some.injEq, Prod.mk.injEq] at h
        obtain ⟨rfl, rfl⟩ := h
        have hor := hf.objsIn hob
        simp only [VR] at hv
        obtain ⟨hg, hv⟩ := hv
        refine ⟨?_, by simp [CV.cell]⟩
        simp only [CR]
        have htl : (l.take len).length = len := by simp; omega
        have hfp : fpOf S.H B [k] = match B g' with | some (b, _) => [b] | none => [] := by
          simp only [fpOf, List.filterMap_cons, blkOf, hob, List.filterMap_nil]
          cases hB : B g' with
          | none => simp
          | some p => simp
        split at hv
        · rename_i hB
          obtain ⟨rfl, _, hl⟩ := hv
          simp only [OR, hB] at hor
          exact .inl ⟨rfl, by rw [hor, List.take_nil], by rw [hfp, hB]⟩
        · rename_i b m hB
          obtain ⟨ad, rfl, hcap, had⟩ := hv
          simp only [OR, hB] at hor
          obtain ⟨cs, fr, hh, hun, hz0, hcs, hln, hmx, hdr⟩ := hor
          rcases had with rfl | ⟨_, h0⟩
          · refine .inr ⟨b, m, cs, fr, by rw [htl]; simp, hh, hun, hz0, hcs, by rw [htl]; omega, hmx, ?_, by rw [hfp, hB]⟩
            have h1 := hdr.take len
            rw [htl]
            have hmul : len * z ≤ l.length * z := Nat.mul_le_mul_right _ hle
            rwa [List.take_take, Nat.min_eq_left hmul] at h1
          · omega
      · cases h
    · cases h
  | n + 1, .addr k g c, y, ks, v, h, hv => by
    simp only [ext] at h
    split at h
    · rename_i g' e l hob
      split at h
      · rename_i hc
        obtain ⟨rfl, rfl⟩ := hc
        split at h
        · rename_i xs ks' hxs
          simp only [Option.some.injEq, Prod.mk.injEq] at h
          obtain ⟨rfl, rfl⟩ := h
          have hor := hf.objsIn hob
          simp only [OR] at hor
          obtain ⟨b, m, cs, fr, hB, hh, hun, hco, hvl⟩ := hor
          simp only [VR] at hv
          obtain ⟨hg, b', m', hB', rfl⟩ := hv
          rw [hB] at hB'
          simp only [Option.some.injEq, Prod.mk.injEq] at hB'
          obtain ⟨rfl, rfl⟩ := hB'
          obtain ⟨h1, h2⟩ := exts_spec hf n l xs ks' cs.toList hxs hvl
          refine ⟨?_, by simp [CV.cell]⟩
          simp only [CR]
          refine ⟨b, cs, fr, _, rfl, hh, hun, h2 hco, h1, ?_⟩
          simp only [fpOf, List.filterMap_cons, blkOf, hob, hB, Option.map_some]
        · cases h
      · cases h
    · cases h
  | n + 1, .agg l, y, ks, v, h, hv => by
    simp only [ext] at h
    split at h
    · rename_i xs ks' hxs
      simp only [Option.some.injEq, Prod.mk.injEq] at h
      obtain ⟨rfl, rfl⟩ := h
      simp only [VR] at hv
      obtain ⟨cs, rfl, hco, hvl⟩ := hv
      obtain ⟨h1, h2⟩ := exts_spec hf n l xs ks' cs.toList hxs hvl
      refine ⟨?_, by simp [AV.cell]⟩
      simp only [CR]
      exact ⟨cs, rfl, h2 hco, h1⟩
    · cases h
  | n + 1, .dead, y, ks, v, h, hv => by
    simp only [ext, Option.some.injEq, Prod.mk.injEq] at h
    obtain ⟨rfl, rfl⟩ := h
    exact ⟨by simp [CR, fpOf], by simp [AV.cell]⟩
  | n + 1, .elt .., y, ks, v, h, hv => by simp [ext] at h
  | n + 1, .tup _, y, ks, v, h, hv => by simp [ext] at h
  | n + 1, .clo .., y, ks, v, h, hv => by simp [ext] at h
  | n + 1, .opt .., y, ks, v, h, hv => by simp [ext] at h
theorem exts_spec (hf : FR F B w S a) : ∀ (n : Nat) (l : List AV) (xs : List CV) (ks : List Key) (vs : List Value), exts S.H n l = some (xs, ks) → VRl w F B S.c l vs → CRl w F xs vs (fpOf S.H B ks) ∧ (cellsOK l = true → cvCells xs = true)
  | 0, l, xs, ks, vs, h, hv => by simp [exts] at h
  | n + 1, [], xs, ks, vs, h, hv => by
    simp only [exts, Option.some.injEq, Prod.mk.injEq] at h
    obtain ⟨rfl, rfl⟩ := h
    simp only [VRl] at hv
    exact ⟨by simp only [CRl]; exact ⟨hv, rfl⟩, by simp [cvCells]⟩
  | n + 1, x :: r, xs, ks, vs, h, hv => by
    simp only [exts] at h
    split at h
    · rename_i y k1 ys k2 h1 h2
      simp only [Option.some.injEq, Prod.mk.injEq] at h
      obtain ⟨rfl, rfl⟩ := h
      simp only [VRl] at hv
      obtain ⟨v, vs', rfl, hv1, hv2⟩ := hv
      obtain ⟨a1, a2⟩ := ext_spec hf n x y k1 v h1 hv1
      obtain ⟨b1, b2⟩ := exts_spec hf n r ys k2 vs' h2 hv2
      refine ⟨?_, fun hc => ?_⟩
      · simp only [CRl]
        exact ⟨v, vs', _, _, rfl, a1, b1, fpOf_append k1 k2⟩
      · simp only [cellsOK, Bool.and_eq_true] at hc
        simp only [cvCells, a2 hc.1, b2 hc.2, Bool.and_self]
    · cases h
end
mutual
theorem CR.mono {F' : Nat → Prop} (hF : ∀ b, F b → F' b) : ∀ (x : CV) (v : Value) (fp : List Nat), CR w F x v fp → CR w F' x v fp
  | .d x, v, fp, h => by simp only [CR] at h ⊢; exact ⟨DRv_mono_F hF h.1, h.2⟩
  | .nils, v, fp, h => by simpa only [CR] using h
  | .own e sz l, v, fp, h => by
    simp only [CR] at h ⊢
    rcases h with h | ⟨b, n, cs, fr, h1, h2, h3, h4, h5, h6, h7, h8, h9⟩
    · exact .inl h
    · exact .inr ⟨b, n, cs, fr, h1, h2, h3, h4, h5, h6, h7, DRr.mono (fun _ _ => rfl) hF _ _ _ h8, h9⟩
  | .box e l, v, fp, h => by
    simp only [CR] at h ⊢
    obtain ⟨b, cs, fr, fp', h1, h2, h3, h4, h5, h6⟩ := h
    exact ⟨b, cs, fr, fp', h1, h2, h3, h4, CRl.mono hF _ _ _ h5, h6⟩
  | .agg l, v, fp, h => by
    simp only [CR] at h ⊢
    obtain ⟨cs, h1, h2, h3⟩ := h
    exact ⟨cs, h1, h2, CRl.mono hF _ _ _ h3⟩
  | .gone, v, fp, h => by simpa only [CR] using h
theorem CRl.mono {F' : Nat → Prop} (hF : ∀ b, F b → F' b) : ∀ (l : List CV) (vs : List Value) (fp : List Nat), CRl w F l vs fp → CRl w F' l vs fp
  | [], vs, fp, h => by simpa only [CRl] using h
  | x :: r, vs, fp, h => by
    simp only [CRl] at h ⊢
    obtain ⟨v, vs', f1, f2, e, h1, h2, e2⟩ := h
    exact ⟨v, vs', f1, f2, e, CR.mono hF _ _ _ h1, CRl.mono hF _ _ _ h2, e2⟩
end
mutual
theorem DRc.flat {F' : Nat → Prop} : ∀ (x : D) (vs : List Value), x.flat = true → DRc w F x vs → DRc w F' x vs
  | .int _ _, _, hx, h => by simpa only [DRc] using h
  | .bool _, _, hx, h => by simpa only [DRc] using h
  | .str _, _, hx, h => by simpa only [DRc] using h
  | .nilp, _, hx, h => by simpa only [DRc] using h
  | .nilm, _, hx, h => by simpa only [DRc] using h
  | .nilf, _, hx, h => by simpa only [DRc] using h
  | .sl sz l, vs, hx, h => by
    simp only [D.flat, List.isEmpty_iff] at hx
    subst hx
    simp only [DRc] at h ⊢
    obtain ⟨A, c, h1, h2, h3, _⟩ := h
    exact ⟨A, c, h1, h2, h3, .inl trivial⟩
  | .ptr x, vs, hx, h => by simp [D.flat] at hx
  | .agg l, vs, hx, h => by
    simp only [D.flat] at hx
    simp only [DRc] at h ⊢
    exact DRl.flat l vs hx h
  | .clo fn f c, vs, hx, h => by
    simp only [D.flat, Bool.and_eq_true, List.isEmpty_iff] at hx
    obtain ⟨rfl, rfl⟩ := hx
    simp only [DRc, DRl] at h ⊢
    exact h
theorem DRl.flat {F' : Nat → Prop} : ∀ (l : List D) (vs : List Value), D.flat.flats l = true → DRl w F l vs → DRl w F' l vs
  | [], _, hx, h => by simpa only [DRl] using h
  | x :: r, vs, hx, h => by
    simp only [D.flat.flats, Bool.and_eq_true] at hx
    simp only [DRl] at h ⊢
    obtain ⟨v, vs', e, h0, h1, h2⟩ := h
    exact ⟨v, vs', e, h0, DRc.flat x _ hx.1 h1, DRl.flat r _ hx.2 h2⟩
end
theorem DRr.flat {F' : Nat → Prop} {sz : Nat} : ∀ (l : List D) (vs : List Value), D.flat.flats l = true → DRr w F sz l vs → DRr w F' sz l vs
  | [], _, hx, h => by simpa only [DRr] using h
  | x :: r, vs, hx, h => by
    simp only [D.flat.flats, Bool.and_eq_true] at hx
    simp only [DRr] at h ⊢
    obtain ⟨a, b, e, hl, h1, h2⟩ := h
    exact ⟨a, b, e, hl, DRc.flat x _ hx.1 h1, DRr.flat r _ hx.2 h2⟩
theorem DRv.flat {F' : Nat → Prop} {x : D} {v : Value} (hx : x.flat = true) (h : DRv w F x v) : DRv w F' x v := by
  cases x <;> simp only [DRv] at h ⊢
  case agg l =>
    obtain ⟨cs, e, h⟩ := h
    simp only [D.flat] at hx
    exact ⟨cs, e, DRl.flat _ _ hx h⟩
  all_goals exact DRc.flat _ _ hx h
mutual
theorem CR.flat {F' : Nat → Prop} : ∀ (x : CV) (v : Value) (fp : List Nat), x.flat = true → CR w F x v fp → CR w F' x v fp
  | .d x, v, fp, hx, h => by simp only [CV.flat] at hx; simp only [CR] at h ⊢; exact ⟨h.1.flat hx, h.2⟩
  | .nils, v, fp, hx, h => by simpa only [CR] using h
  | .own e sz l, v, fp, hx, h => by
    simp only [CV.flat] at hx
    simp only [CR] at h ⊢
    rcases h with h | ⟨b, n, cs, fr, h1, h2, h3, h4, h5, h6, h7, h8, h9⟩
    · exact .inl h
    · exact .inr ⟨b, n, cs, fr, h1, h2, h3, h4, h5, h6, h7, DRr.flat _ _ hx h8, h9⟩
  | .box e l, v, fp, hx, h => by
    simp only [CV.flat] at hx
    simp only [CR] at h ⊢
    obtain ⟨b, cs, fr, fp', h1, h2, h3, h4, h5, h6⟩ := h
    exact ⟨b, cs, fr, fp', h1, h2, h3, h4, CRl.flat _ _ _ hx h5, h6⟩
  | .agg l, v, fp, hx, h => by
    simp only [CV.flat] at hx
    simp only [CR] at h ⊢
    obtain ⟨cs, h1, h2, h3⟩ := h
    exact ⟨cs, h1, h2, CRl.flat _ _ _ hx h3⟩
  | .gone, v, fp, hx, h => by simpa only [CR] using h
theorem CRl.flat {F' : Nat → Prop} : ∀ (l : List CV) (vs : List Value) (fp : List Nat), flats l = true → CRl w F l vs fp → CRl w F' l vs fp
  | [], vs, fp, hx, h => by simpa only [CRl] using h
  | x :: r, vs, fp, hx, h => by
    simp only [flats, Bool.and_eq_true] at hx
    simp only [CRl] at h ⊢
    obtain ⟨v, vs', f1, f2, e, h1, h2, e2⟩ := h
    exact ⟨v, vs', f1, f2, e, CR.flat _ _ _ hx.1 h1, CRl.flat _ _ _ hx.2 h2, e2⟩
end
theorem argsC_spec (hf : FR F B w S a) : ∀ (ms : List Mode) (xs : List AV) (cs : List CV) (kf kr ko : List Key) (vs : List Value), argsC P S.H ms xs = some (cs, kf, kr, ko) → VRl w F B S.c xs vs →
    CRl w (fun b => F b ∨ FK S.H B kf b ∨ FK S.H B kr b) cs vs (fpOf S.H B ko)
  | ms, [], cs, kf, kr, ko, vs, h, hv => by
    simp only [argsC, Option.some.injEq, Prod.mk.injEq] at h
    obtain ⟨rfl, rfl, rfl, rfl⟩ := h
    simp only [VRl] at hv
    simp only [CRl]
    exact ⟨hv, rfl⟩
  | ms, x :: r, cs, kf, kr, ko, vs, h, hv => by
    simp only [argsC] at h
    simp only [VRl] at hv
    obtain ⟨v, vs', rfl, hv1, hv2⟩ := hv
    split at h
    · rename_i cs0 kf0 kr0 ko0 h0
      have ih := argsC_spec hf ms.tail r cs0 kf0 kr0 ko0 vs' h0 hv2
      split at h
      · split at h
        · rename_i c ks hx
          simp only [Option.some.injEq, Prod.mk.injEq] at h
          obtain ⟨rfl, rfl, rfl, rfl⟩ := h
          simp only [CRl]
          exact ⟨v, vs', _, _, rfl, CR.mono (fun b => .inl) _ _ _ (ext_spec hf 60 x c ks v hx hv1).1, ih, fpOf_append _ _⟩
        · cases h
      · split at h
        · rename_i y ks hx
          simp only [Option.some.injEq, Prod.mk.injEq] at h
          obtain ⟨rfl, rfl, rfl, rfl⟩ := h
          simp only [CRl]
          refine ⟨v, vs', [], _, rfl, ?_, CRl.mono (fun b hb => hb.imp id (.imp id (FK_mono fun k hk => List.mem_append_right _ hk))) _ _ _ ih, rfl⟩
          simp only [CR]
          exact ⟨DRv_mono_F (fun b hb => hb.imp id (fun h => .inr (FK_mono (fun k hk => List.mem_append_left _ hk) h))) (toD_DR hf 60 x y ks v hx hv1), trivial⟩
        · cases h
      · split at h
        · rename_i y ks hx
          simp only [Option.some.injEq, Prod.mk.injEq] at h
          obtain ⟨rfl, rfl, rfl, rfl⟩ := h
          simp only [CRl]
          refine ⟨v, vs', [], _, rfl, ?_, CRl.mono (fun b hb => hb.imp id (.imp (FK_mono fun k hk => List.mem_append_right _ hk) id)) _ _ _ ih, rfl⟩
          simp only [CR]
          exact ⟨DRv_mono_F (fun b hb => hb.imp id (fun h => .inl (FK_mono (fun k hk => List.mem_append_left _ hk) h))) (toD_DR hf 60 x y ks v hx hv1), trivial⟩
        · cases h
    · cases h
end
end Go.Fw
namespace Go.Fw
open Go
set_option linter.unusedVariables false
set_option linter.unusedSimpArgs false
 
def Rv (v : Value) : List Value → Prop
  | [x] => v = x
  | l => v = .tuple l.toArray
 
structure Left (F : Nat → Prop) (w : World) (vs : List Value) (fp : List Nat) (rs az : List CV) (v : Value) (w' : World) (F' : Nat → Prop) (vr : List Value) (f1 f2 : List Nat) : Prop where
  res : Rv v vr
  rs : CRl w' F' rs vr f1
  az : CRl w' F' az vs f2
  nodup : (f1 ++ f2).Nodup
  sep : ∀ b ∈ f1 ++ f2, ¬ F' b ∧ b < w'.heap.size
  lt : ∀ b, F' b → b < w'.heap.size
  sub : ∀ b, F b → F' b
  keep : ∀ b, b < w.heap.size → b ∉ fp → w'.heap[b]? = w.heap[b]?
  new : ∀ b, F' b ∨ b ∈ f1 ++ f2 → F b ∨ b ∈ fp ∨ w.heap.size ≤ b
  os : w'.os = w.os
  tape : w'.tape = w.tape
  output : w'.output = w.output
  size : w.heap.size ≤ w'.heap.size
 
def Enters (P : Program) (g : FuncId) (args : Array Value) (w : World) (R : Value → World → Prop) : Prop :=
  match (callFunc g args).run P w with
  | .ok (.value v) w' => R v w'
  | .ok (.enter f xs) w' => Calls P f xs w' fun
    | .returned v, w'' => R v w''
    | _, _ => False
  | .ok (.row row xs) w' => Rows P row xs w' R
  | _ => False
 
def Con (P : Program) (g : FuncId) (args : List CV) (R : List CV → List CV → Prop) : Prop :=
  ∀ F w vs fp, CRl w F args vs fp → fp.Nodup → (∀ b ∈ fp, ¬ F b ∧ b < w.heap.size) → FL F w →
    Enters P g vs.toArray w fun v w' => ∃ rs az F' vr f1 f2, R rs az ∧ Left F w vs fp rs az v w' F' vr f1 f2
theorem Con.mono {P : Program} {g : FuncId} {args : List CV} {R R' : List CV → List CV → Prop} (h : Con P g args R) (hr : ∀ rs az, R rs az → R' rs az) : Con P g args R' := by
  intro F w vs fp h1 h2 h3 h4
  have := h F w vs fp h1 h2 h3 h4
  unfold Enters at this ⊢
  split at this
  · obtain ⟨rs, az, F', vr, f1, f2, h, l⟩ := this
    exact ⟨rs, az, F', vr, f1, f2, hr _ _ h, l⟩
  · refine this.mono fun e w' he => ?_
    cases e
    · obtain ⟨rs, az, F', vr, f1, f2, h, l⟩ := he
      exact ⟨rs, az, F', vr, f1, f2, hr _ _ h, l⟩
    · exact he
    · exact he
  · refine this.mono fun v w' he => ?_
    obtain ⟨rs, az, F', vr, f1, f2, h, l⟩ := he
    exact ⟨rs, az, F', vr, f1, f2, hr _ _ h, l⟩
  · exact this.elim
 
structure LaidG (G : List Nat) (w : World) (F : Nat → Prop) (B B' : Blk) (c c' : Nat) (hs : List (Key × Nat × AO)) (fp : List Nat) : Prop where
  old : ∀ g, g < c → B' g = B g
  le : c ≤ c'
  objs : ∀ x ∈ hs, (x.2.1 ∈ G ∨ c ≤ x.2.1) ∧ x.2.1 < c' ∧ OR w F B' c' x.2.1 x.2.2
  blk : ∀ x ∈ hs, ∀ b n, B' x.2.1 = some (b, n) → b ∈ fp
  inj : (hs.map fun x => x.2.1).Pairwise fun g g' => g ≠ g' ∧ ∀ b n n', B' g = some (b, n) → B' g' ≠ some (b, n')
theorem Laid.toG {w : World} {F : Nat → Prop} {B B' : Blk} {c c' : Nat} {hs : List (Key × Nat × AO)} {fp : List Nat} (h : Laid w F B B' c c' hs fp) : LaidG [] w F B B' c c' hs fp :=
  ⟨h.old, h.le, fun x hx => ⟨.inr (h.objs x hx).1, (h.objs x hx).2⟩, h.blk, h.inj⟩
theorem LaidG.append {G1 G2 : List Nat} {w : World} {F : Nat → Prop} {B B1 B2 : Blk} {c c1 c2 : Nat} {h1 h2 : List (Key × Nat × AO)} {f1 f2 : List Nat}
    (a : LaidG G1 w F B B1 c c1 h1 f1) (b : LaidG G2 w F B1 B2 c1 c2 h2 f2) (hG1 : ∀ g ∈ G1, g < c) (hG2 : ∀ g ∈ G2, g < c) (hG : (G1 ++ G2).Nodup) (hf : (f1 ++ f2).Nodup) : LaidG (G1 ++ G2) w F B B2 c c2 (h1 ++ h2) (f1 ++ f2) := by
  have hn := List.nodup_append.1 hf
  have hgn := List.nodup_append.1 hG
  refine ⟨fun g hg => by rw [b.old g (Nat.lt_of_lt_of_le hg a.le), a.old g hg], Nat.le_trans a.le b.le, fun x hx => ?_, fun x hx i n hi => ?_, ?_⟩
  · rcases List.mem_append.1 hx with hx | hx
    · obtain ⟨p, q, r⟩ := a.objs x hx
      exact ⟨p.imp (List.mem_append_left _) id, Nat.lt_of_lt_of_le q b.le, r.lift b.old b.le q⟩
    · obtain ⟨p, q, r⟩ := b.objs x hx
      exact ⟨p.imp (List.mem_append_right _) (Nat.le_trans a.le), q, r⟩
  · rcases List.mem_append.1 hx with hx | hx
    · rw [b.old _ (a.objs x hx).2.1] at hi
      exact List.mem_append_left _ (a.blk x hx i n hi)
    · exact List.mem_append_right _ (b.blk x hx i n hi)
  · rw [List.map_append, List.pairwise_append]
    refine ⟨?_, b.inj, fun g hg g' hg' => ?_⟩
    · refine List.Pairwise.imp_of_mem (fun {g g'} hg hg' hh => ?_) a.inj
      obtain ⟨x, hx, rfl⟩ := List.mem_map.1 hg
      obtain ⟨y, hy, rfl⟩ := List.mem_map.1 hg'
      refine ⟨hh.1, fun i n n' => ?_⟩
      rw [b.old _ (a.objs x hx).2.1, b.old _ (a.objs y hy).2.1]
      exact hh.2 i n n'
    · obtain ⟨x, hx, rfl⟩ := List.mem_map.1 hg
      obtain ⟨y, hy, rfl⟩ := List.mem_map.1 hg'
      obtain ⟨p1, p2, _⟩ := a.objs x hx
      obtain ⟨q1, q2, _⟩ := b.objs y hy
      refine ⟨?_, fun i n n' e1 e2 => ?_⟩
      · rcases p1 with p1 | p1 <;> rcases q1 with q1 | q1
        · exact hgn.2.2 _ p1 _ q1
        · have := hG1 _ p1
          have := a.le
          omega
        · have := hG2 _ q1
          omega
        · omega
      · rw [b.old _ p2] at e1
        exact hn.2.2 i (a.blk x hx i n e1) i (b.blk y hy i n' e2) rfl
section
variable {P : Program} {F : Nat → Prop} {B : Blk} {w w' : World} {S : St} {a : Act} {N : Nat}
 
theorem FR.lay (hf : FR F B w S a) {G : List Nat} {B' : Blk} {c' : Nat} {hs : List (Key × Nat × AO)} {fp : List Nat} (hl : LaidG G w F B B' S.c c' hs fp) (hG : ∀ g ∈ G, ∀ x ∈ S.H, x.2.1 ≠ g)
    (hfp : ∀ b ∈ fp, ¬ F b ∧ b < w.heap.size ∧ ¬ Own S.H B b) : FR F B' w ⟨S.E, hs ++ S.H, c'⟩ a where
  slots t := (hf.slots t).lift hl.old hl.le
  objs k g o hm := by
    rcases List.mem_append.1 hm with h | h
    · exact (hl.objs _ h).2
    · have := hf.objs k g o h
      exact ⟨Nat.lt_of_lt_of_le this.1 hl.le, this.2.lift hl.old hl.le this.1⟩
  sep b := by
    rintro ⟨k, g, o, n, hm, hb⟩
    rcases List.mem_append.1 hm with h | h
    · have := hfp b (hl.blk _ h b n hb)
      exact ⟨this.1, this.2.1⟩
    · rw [hl.old g (hf.objs k g o h).1] at hb
      exact hf.sep b ⟨k, g, o, n, h, hb⟩
  inj := by
    show ((hs ++ S.H).map fun x => x.2.1).Pairwise _
    rw [List.map_append, List.pairwise_append]
    refine ⟨hl.inj, ?_, fun g hg g' hg' => ?_⟩
    · refine List.Pairwise.imp_of_mem (fun {g g'} hg hg' hh => ?_) hf.inj
      obtain ⟨x, hx, rfl⟩ := List.mem_map.1 hg
      obtain ⟨y, hy, rfl⟩ := List.mem_map.1 hg'
      refine ⟨hh.1, fun i n n' => ?_⟩
      rw [hl.old _ (hf.objs x.1 x.2.1 x.2.2 hx).1, hl.old _ (hf.objs y.1 y.2.1 y.2.2 hy).1]
      exact hh.2 i n n'
    · obtain ⟨x, hx, rfl⟩ := List.mem_map.1 hg
      obtain ⟨y, hy, rfl⟩ := List.mem_map.1 hg'
      have hlt := (hf.objs y.1 y.2.1 y.2.2 hy).1
      refine ⟨?_, fun i n n' e1 e2 => ?_⟩
      · rcases (hl.objs x hx).1 with h | h
        · exact fun e => hG _ h y hy e.symm
        · omega
      · rw [hl.old _ hlt] at e2
        exact (hfp i (hl.blk x hx i n e1)).2.2 ⟨y.1, y.2.1, y.2.2, n', hy, e2⟩
  Flt := hf.Flt
  defers := hf.defers
  pin := Nat.le_trans hf.pin hl.le
 
theorem FR.world {F' : Nat → Prop} (hf : FR F B w S a) (hk : ∀ b, F b ∨ Own S.H B b → w'.heap[b]? = w.heap[b]?) (hF : ∀ b, F b → F' b) (hsep : ∀ b, Own S.H B b → ¬ F' b) (hlt : FL F' w') (hsz : w.heap.size ≤ w'.heap.size) : FR F' B w' S a where
  slots t := VR.mono (fun b hb => hk b (.inl hb)) hF (fun _ _ => rfl) (Nat.le_refl _) _ _ (hf.slots t)
  objs k g o hm := by
    have := hf.objs k g o hm
    exact ⟨this.1, OR.mono (fun b hb => hk b (.inl hb)) hF (fun _ _ => rfl) (Nat.le_refl _) this.1 (fun b n hb => hk b (.inr ⟨k, g, o, n, hm, hb⟩)) this.2⟩
  sep b hb := ⟨hsep b hb, Nat.lt_of_lt_of_le (hf.sep b hb).2 hsz⟩
  inj := hf.inj
  Flt := hlt
  defers := hf.defers
  pin := hf.pin
 
def reown1 (c : Nat) : AV → CV → List (Key × Nat × AO) × Nat
  | .ref k g _ _ _, .own e z l => ([(k, g, .row e z l)], c)
  | .addr k g _, .box e l => ((k, g, .box e (interns k 0 c l).1) :: (interns k 0 c l).2.1, (interns k 0 c l).2.2)
  | _, _ => ([], c)
def reown (c : Nat) : List Mode → List AV → List CV → List (Key × Nat × AO) × Nat
  | ms, x :: xs, ys => match ms.headD .frz with
    | .own => ((reown1 c x (ys.headD .gone)).1 ++ (reown (reown1 c x (ys.headD .gone)).2 ms.tail xs ys.tail).1, (reown (reown1 c x (ys.headD .gone)).2 ms.tail xs ys.tail).2)
    | _ => reown c ms.tail xs ys.tail
  | _, [], _ => ([], c)
def genOf : AV → List Nat
  | .ref _ g _ _ _ => [g]
  | .addr _ g _ => [g]
  | _ => []
def gensOf : List Mode → List AV → List Nat
  | ms, x :: xs => match ms.headD .frz with
    | .own => genOf x ++ gensOf ms.tail xs
    | _ => gensOf ms.tail xs
  | _, [] => []
theorem reown1_spec {c : Nat} {x : AV} {y : CV} {v : Value} {fp : List Nat} {n : Nat} {cv : CV} {ks : List Key} (he : ext S.H n x = some (cv, ks)) (hv : VR w F B c x v) {F' : Nat → Prop} (hy : CR w' F' y v fp) (hn : fp.Nodup) :
    ∀ B1 c1, (∀ g, g < c → B1 g = B g) → c ≤ c1 → ∃ B', LaidG (genOf x) w' F' B1 B' c1 (reown1 c1 x y).2 (reown1 c1 x y).1 fp := by
  intro B1 c1 hB1 hc
  have triv : (reown1 c1 x y) = ([], c1) → ∃ B', LaidG (genOf x) w' F' B1 B' c1 (reown1 c1 x y).2 (reown1 c1 x y).1 fp := fun h => by
    rw [h]
    exact ⟨B1, fun _ _ => rfl, Nat.le_refl _, by simp, by simp, by simp⟩
  cases x <;> cases y <;> try exact triv rfl
  case ref.own k g sz off len e z l =>
    simp only [reown1, genOf]
    cases n with
    | zero => simp [ext] at he
    | succ n =>
    simp only [ext] at he
    split at he
    · rename_i g' e' z' l' hob
      split at he
      · rename_i hcc
        obtain ⟨rfl, rfl, rfl, _⟩ := hcc
        simp only [VR] at hv
        obtain ⟨hg, hv⟩ := hv
        rw [← hB1 g' hg] at hv
        simp only [CR] at hy
        refine ⟨B1, fun _ _ => rfl, Nat.le_refl _, fun x hx => ?_, fun x hx b m hb => ?_, by simp⟩
        · simp only [List.mem_singleton] at hx
          subst hx
          refine ⟨.inl (by simp), by show g' < c1; omega, ?_⟩
          simp only [OR]
          split at hv
          · rename_i hB
            obtain ⟨rfl, _⟩ := hv
            rcases hy with ⟨_, rfl, _⟩ | ⟨b, n, cs, fr, h1, _⟩
            · rfl
            · cases h1
          · rename_i b m hB
            obtain ⟨ad, rfl, hcap, had⟩ := hv
            rcases hy with ⟨h1, _⟩ | ⟨b', n', cs, fr, h1, h2, h3, h4, h5, h6, h7, h8, h9⟩
            · cases h1
            · simp only [Value.slice.injEq, Option.some.injEq] at h1
              obtain ⟨rfl, h11, h12⟩ := h1
              rcases had with h | ⟨_, h0⟩
              · simp only [Addr.mk.injEq] at h
                obtain ⟨rfl, _, _⟩ := h
                have : n' = m := by omega
                subst this
                exact ⟨cs, fr, h2, h3, h4, h5, h6, h7, h8⟩
              · omega
        · simp only [List.mem_singleton] at hx
          subst hx
          simp only at hb
          split at hv
          · rename_i hB
            rw [hB] at hb
            cases hb
          · rename_i b1 m1 hB
            rw [hB] at hb
            simp only [Option.some.injEq, Prod.mk.injEq] at hb
            obtain ⟨rfl, rfl⟩ := hb
            obtain ⟨ad, rfl, hcap, had⟩ := hv
            rcases hy with ⟨h1, _⟩ | ⟨b', n', cs, fr, h1, h2, h3, h4, h5, h6, h7, h8, h9⟩
            · cases h1
            · simp only [Value.slice.injEq, Option.some.injEq] at h1
              obtain ⟨rfl, h11, h12⟩ := h1
              rcases had with h | ⟨_, h0⟩
              · simp only [Addr.mk.injEq] at h
                obtain ⟨rfl, _, _⟩ := h
                simp [h9]
              · omega
      · cases he
    · cases he
  case addr.box k g o e l =>
    simp only [reown1, genOf]
    cases n with
    | zero => simp [ext] at he
    | succ n =>
    simp only [ext] at he
    split at he
    · rename_i g' e' l' hob
      split at he
      · rename_i hcc
        obtain ⟨rfl, rfl⟩ := hcc
        simp only [VR] at hv
        obtain ⟨hg, b, m, hB, rfl⟩ := hv
        rw [← hB1 g' hg] at hB
        simp only [CR] at hy
        obtain ⟨b', cs, fr, fp', h1, hh, hu, hcl, hl, rfl⟩ := hy
        simp only [Value.pointer.injEq, Option.some.injEq, Addr.mk.injEq] at h1
        obtain ⟨rfl, _, _⟩ := h1
        simp only [List.nodup_cons] at hn
        obtain ⟨B', hL, hvl, hcc⟩ := interns_spec l k 0 c1 cs.toList fp' B1 hl hn.2
        have hBg : B' g' = some (b, m) := by rw [hL.old g' (by omega), hB]
        refine ⟨B', hL.old, hL.le, fun x hx => ?_, fun x hx i n hi => ?_, ?_⟩
        · rcases List.mem_cons.1 hx with rfl | hx
          · refine ⟨.inl (by simp), by have := hL.le; show g' < _; omega, ?_⟩
            simp only [OR]
            exact ⟨b, m, cs, fr, hBg, hh, hu, hcc hcl, hvl⟩
          · obtain ⟨p, q, r⟩ := hL.objs x hx
            exact ⟨.inr p, q, r⟩
        · rcases List.mem_cons.1 hx with rfl | hx
          · simp only [hBg, Option.some.injEq, Prod.mk.injEq] at hi
            simp [hi.1]
          · exact List.mem_cons_of_mem _ (hL.blk x hx i n hi)
        · simp only [List.map_cons, List.pairwise_cons]
          refine ⟨fun g2 hg2 => ?_, hL.inj⟩
          obtain ⟨x, hx, rfl⟩ := List.mem_map.1 hg2
          refine ⟨by have := (hL.objs x hx).1; omega, fun i n n' e1 e2 => ?_⟩
          rw [hBg] at e1
          simp only [Option.some.injEq, Prod.mk.injEq] at e1
          exact hn.1 (e1.1 ▸ hL.blk x hx i n' e2)
      · cases he
    · cases he
theorem ext_gen {n : Nat} {x : AV} {cv : CV} {ks : List Key} (he : ext S.H n x = some (cv, ks)) : ∀ g ∈ genOf x, ∃ k o, k ∈ ks ∧ objIn S.H k = some (g, o) := by
  intro g hg
  cases x <;> simp only [genOf, List.not_mem_nil, List.mem_singleton] at hg
  case ref k g' sz off len =>
    subst hg
    cases n with
    | zero => simp [ext] at he
    | succ n =>
    simp only [ext] at he
    split at he
    · rename_i hob
      split at he
      · rename_i hc
        simp only [Option.some.injEq, Prod.mk.injEq] at he
        obtain ⟨_, rfl⟩ := he
        exact ⟨k, _, by simp, hc.1 ▸ hob⟩
      · cases he
    · cases he
  case addr k g' c =>
    subst hg
    cases n with
    | zero => simp [ext] at he
    | succ n =>
    simp only [ext] at he
    split at he
    · rename_i hob
      split at he
      · rename_i hc
        split at he
        · simp only [Option.some.injEq, Prod.mk.injEq] at he
          obtain ⟨_, rfl⟩ := he
          exact ⟨k, _, by simp, hc.1 ▸ hob⟩
        · cases he
      · cases he
    · cases he
theorem argsC_gens : ∀ (ms : List Mode) (xs : List AV) (cs : List CV) (kf kr ko : List Key), argsC P S.H ms xs = some (cs, kf, kr, ko) → ∀ g ∈ gensOf ms xs, ∃ k o, k ∈ ko ∧ objIn S.H k = some (g, o)
  | ms, [], cs, kf, kr, ko, h, g, hg => by simp [gensOf] at hg
  | ms, x :: r, cs, kf, kr, ko, h, g, hg => by
    simp only [argsC] at h
    simp only [gensOf] at hg
    split at h
    · rename_i cs0 kf0 kr0 ko0 h0
      have ih := argsC_gens ms.tail r cs0 kf0 kr0 ko0 h0
      split at h
      · rename_i hm
        simp only [hm] at hg
        split at h
        · rename_i c ks hx
          simp only [Option.some.injEq, Prod.mk.injEq] at h
          obtain ⟨rfl, rfl, rfl, rfl⟩ := h
          rcases List.mem_append.1 hg with hg | hg
          · obtain ⟨k, o, h1, h2⟩ := ext_gen hx g hg
            exact ⟨k, o, List.mem_append_left _ h1, h2⟩
          · obtain ⟨k, o, h1, h2⟩ := ih g hg
            exact ⟨k, o, List.mem_append_right _ h1, h2⟩
        · cases h
      · rename_i hm
        simp only [hm] at hg
        split at h
        · simp only [Option.some.injEq, Prod.mk.injEq] at h
          obtain ⟨rfl, rfl, rfl, rfl⟩ := h
          exact ih g hg
        · cases h
      · rename_i hm
        simp only [hm] at hg
        split at h
        · simp only [Option.some.injEq, Prod.mk.injEq] at h
          obtain ⟨rfl, rfl, rfl, rfl⟩ := h
          exact ih g hg
        · cases h
    · cases h
theorem argsC_gensNodup (hf : FR F B w S a) : ∀ (ms : List Mode) (xs : List AV) (cs : List CV) (kf kr ko : List Key), argsC P S.H ms xs = some (cs, kf, kr, ko) → ko.Nodup → (gensOf ms xs).Nodup
  | ms, [], cs, kf, kr, ko, h, hn => by simp [gensOf]
  | ms, x :: r, cs, kf, kr, ko, h, hn => by
    simp only [argsC] at h
    simp only [gensOf]
    split at h
    · rename_i cs0 kf0 kr0 ko0 h0
      have ih := argsC_gensNodup hf ms.tail r cs0 kf0 kr0 ko0 h0
      have ig := argsC_gens ms.tail r cs0 kf0 kr0 ko0 h0
      split at h
      · rename_i hm
        simp only [hm]
        split at h
        · rename_i c ks hx
          simp only [Option.some.injEq, Prod.mk.injEq] at h
          obtain ⟨rfl, rfl, rfl, rfl⟩ := h
          have hn' := List.nodup_append.1 hn
          refine List.nodup_append.2 ⟨?_, ih hn'.2.1, fun g hg g' hg' e => ?_⟩
          · cases x <;> simp [genOf]
          · subst e
            obtain ⟨k, o, h1, h2⟩ := ext_gen hx g hg
            obtain ⟨k', o', h1', h2'⟩ := ig g hg'
            have := same_entry hf.gensNodup (mem_of_objIn h2) (mem_of_objIn h2') rfl
            simp only [Prod.mk.injEq] at this
            exact hn'.2.2 k h1 k' h1' this.1
        · cases h
      · rename_i hm
        simp only [hm]
        split at h
        · simp only [Option.some.injEq, Prod.mk.injEq] at h
          obtain ⟨rfl, rfl, rfl, rfl⟩ := h
          exact ih hn
        · cases h
      · rename_i hm
        simp only [hm]
        split at h
        · simp only [Option.some.injEq, Prod.mk.injEq] at h
          obtain ⟨rfl, rfl, rfl, rfl⟩ := h
          exact ih hn
        · cases h
    · cases h
theorem reown_spec (hf : FR F B w S a) {F' : Nat → Prop} : ∀ (ms : List Mode) (xs : List AV) (cs : List CV) (kf kr ko : List Key) (vs : List Value) (az : List CV) (fp : List Nat), argsC P S.H ms xs = some (cs, kf, kr, ko) → ko.Nodup → VRl w F B S.c xs vs → CRl w' F' az vs fp → fp.Nodup →
    ∀ B1 c1, (∀ g, g < S.c → B1 g = B g) → S.c ≤ c1 → ∃ B' f, LaidG (gensOf ms xs) w' F' B1 B' c1 (reown c1 ms xs az).2 (reown c1 ms xs az).1 f ∧ f.Nodup ∧ ∀ b ∈ f, b ∈ fp
  | ms, [], cs, kf, kr, ko, vs, az, fp, h, hn, hv, hc, hfp, B1, c1, hB, hc1 => by
    have e : reown c1 ms [] az = ([], c1) := rfl
    rw [e]
    exact ⟨B1, [], ⟨fun _ _ => rfl, Nat.le_refl _, by simp, by simp, by simp⟩, by simp, by simp⟩
  | ms, x :: r, cs, kf, kr, ko, vs, [], fp, h, hn, hv, hc, hfp, B1, c1, hB, hc1 => by
    simp only [VRl] at hv
    obtain ⟨v, vs', rfl, _⟩ := hv
    simp only [CRl] at hc
    exact absurd hc.1 (by simp)
  | ms, x :: r, cs, kf, kr, ko, vs, y :: ys, fp, h, hn, hv, hc, hfp, B1, c1, hB, hc1 => by
    have h' := h
    simp only [argsC] at h
    simp only [VRl] at hv
    obtain ⟨v, vs', rfl, hv1, hv2⟩ := hv
    simp only [CRl] at hc
    obtain ⟨v0, vs0, f1, f2, e0, hy, hys, rfl⟩ := hc
    simp only [List.cons.injEq] at e0
    obtain ⟨rfl, rfl⟩ := e0
    have hfn := List.nodup_append.1 hfp
    split at h
    · rename_i cs0 kf0 kr0 ko0 h0
      split at h
      · rename_i hm
        split at h
        · rename_i cc ks hx
          simp only [Option.some.injEq, Prod.mk.injEq] at h
          obtain ⟨rfl, rfl, rfl, rfl⟩ := h
          have hn' := List.nodup_append.1 hn
          have hgn := argsC_gensNodup hf ms (x :: r) _ _ _ _ h' hn
          have hgl : ∀ g ∈ gensOf ms (x :: r), g < S.c := fun g hg => by
            obtain ⟨k, o, _, h2⟩ := argsC_gens ms (x :: r) _ _ _ _ h' g hg
            exact (hf.objs _ _ _ (mem_of_objIn h2)).1
          obtain ⟨B2, hL1⟩ := reown1_spec hx hv1 hy hfn.1 B1 c1 hB hc1
          simp only [reown, hm, gensOf, List.headD_cons, List.tail_cons] at hgn hgl ⊢
          generalize reown1 c1 x y = p at *
          obtain ⟨B3, f, hL2, hfd, hfs⟩ := reown_spec hf ms.tail r cs0 kf0 kr0 ko0 vs' ys f2 h0 hn'.2.1 hv2 hys hfn.2.1 B2 p.2 (fun g hg => by rw [hL1.old g (by omega), hB g hg]) (Nat.le_trans hc1 hL1.le)
          have hnd : (f1 ++ f).Nodup := List.nodup_append.2 ⟨hfn.1, hfd, fun b hb b' hb' => hfn.2.2 b hb b' (hfs b' hb')⟩
          exact ⟨B3, f1 ++ f, hL1.append hL2 (fun g hg => by have := hgl g (List.mem_append_left _ hg); omega) (fun g hg => by have := hgl g (List.mem_append_right _ hg); omega) hgn hnd, hnd, fun b hb => by
            rcases List.mem_append.1 hb with h | h
            · exact List.mem_append_left _ h
            · exact List.mem_append_right _ (hfs b h)⟩
        · cases h
      · rename_i hm
        split at h
        · simp only [Option.some.injEq, Prod.mk.injEq] at h
          obtain ⟨rfl, rfl, rfl, rfl⟩ := h
          obtain ⟨B3, f, hL2, hfd, hfs⟩ := reown_spec hf ms.tail r cs0 kf0 _ ko0 vs' ys f2 h0 hn hv2 hys hfn.2.1 B1 c1 hB hc1
          simp only [reown, hm, gensOf, List.tail_cons]
          exact ⟨B3, f, hL2, hfd, fun b hb => List.mem_append_right _ (hfs b hb)⟩
        · cases h
      · rename_i hm
        split at h
        · simp only [Option.some.injEq, Prod.mk.injEq] at h
          obtain ⟨rfl, rfl, rfl, rfl⟩ := h
          obtain ⟨B3, f, hL2, hfd, hfs⟩ := reown_spec hf ms.tail r cs0 _ kr0 ko0 vs' ys f2 h0 hn hv2 hys hfn.2.1 B1 c1 hB hc1
          simp only [reown, hm, gensOf, List.tail_cons]
          exact ⟨B3, f, hL2, hfd, fun b hb => List.mem_append_right _ (hfs b hb)⟩
        · cases h
    · cases h
end
end Go.Fw
namespace Go.Fw
open Go
set_option linter.unusedVariables false
set_option linter.unusedSimpArgs false
def resV (d c : Nat) : List CV → AV × List (Key × Nat × AO) × Nat
  | [r] => intern [d] c r
  | rs => (.tup (interns [d] 0 c rs).1, (interns [d] 0 c rs).2.1, (interns [d] 0 c rs).2.2)
def resO (dst : Option Nat) (c : Nat) (rs : List CV) : AV × List (Key × Nat × AO) × Nat := match dst with
  | some d => resV d c rs
  | none => (.dead, [], c)
def dropO (dst : Option Nat) (H : List (Key × Nat × AO)) : List (Key × Nat × AO) := match dst with
  | some d => dropKey [d] H
  | none => H
def rmKeys (ks : List Key) (H : List (Key × Nat × AO)) : List (Key × Nat × AO) := match ks with
  | [] => H
  | ks => H.filter fun x => !(decide (x.1 ∈ ks))
def afterCall (S : St) (dst : Option Nat) (ms : List Mode) (xs : List AV) (kf ko : List Key) (rs az : List CV) : St :=
  St.put ⟨(S.freeze kf).E, (resO dst S.c rs).2.1 ++ ((reown (resO dst S.c rs).2.2 ms xs az).1 ++ dropO dst (rmKeys ko (S.freeze kf).H)), (reown (resO dst S.c rs).2.2 ms xs az).2⟩ dst (resO dst S.c rs).1
theorem rmKeys_sub (ks : List Key) (H : List (Key × Nat × AO)) : (rmKeys ks H).Sublist H := by cases ks with
  | nil => exact List.Sublist.refl _
  | cons k r => exact List.filter_sublist
theorem rmKeys_not {ks : List Key} {H : List (Key × Nat × AO)} {x : Key × Nat × AO} (h : x ∈ rmKeys ks H) : x.1 ∉ ks := by
  cases ks with
  | nil => simp
  | cons k r => have := (List.mem_filter.1 h).2; simpa using this
theorem dropO_sub (dst : Option Nat) (H : List (Key × Nat × AO)) : (dropO dst H).Sublist H := by cases dst with
  | none => exact List.Sublist.refl _
  | some d => exact dropKey_sub _ _
section
variable {P : Program} {F : Nat → Prop} {B : Blk} {w w' : World} {S : St} {a : Act} {N : Nat}
theorem resO_spec {dst : Option Nat} {c : Nat} {rs : List CV} {vr : List Value} {v : Value} {f1 : List Nat} (hr : Rv v vr) (h : CRl w F rs vr f1) (hn : f1.Nodup) (B : Blk) :
    ∃ B' f, LaidG [] w F B B' c (resO dst c rs).2.2 (resO dst c rs).2.1 f ∧ f.Nodup ∧ (∀ b ∈ f, b ∈ f1) ∧ VR w F B' (resO dst c rs).2.2 (resO dst c rs).1 v := by
  cases dst with
  | none => exact ⟨B, [], ⟨fun _ _ => rfl, Nat.le_refl _, by simp [resO], by simp [resO], by simp [resO]⟩, by simp, by simp, by simp [resO, VR]⟩
  | some d =>
    have gen : resV d c rs = (.tup (interns [d] 0 c rs).1, (interns [d] 0 c rs).2.1, (interns [d] 0 c rs).2.2) → v = .tuple vr.toArray → ∃ B' f, LaidG [] w F B B' c (resO (some d) c rs).2.2 (resO (some d) c rs).2.1 f ∧ f.Nodup ∧ (∀ b ∈ f, b ∈ f1) ∧ VR w F B' (resO (some d) c rs).2.2 (resO (some d) c rs).1 v := fun e ev => by
      obtain ⟨B', hL, hv, _⟩ := interns_spec rs [d] 0 c vr f1 B h hn
      simp only [resO, e]
      exact ⟨B', f1, hL.toG, hn, fun _ h => h, by simp only [VR]; exact ⟨_, ev, hv⟩⟩
    match rs, h with
    | [], h => simp only [CRl] at h; obtain ⟨rfl, _⟩ := h; exact gen rfl hr
    | [r], h =>
      simp only [CRl] at h
      obtain ⟨v0, vs', g1, g2, rfl, h1, ⟨rfl, rfl⟩, rfl⟩ := h
      simp only [Rv] at hr
      subst hr
      rw [List.append_nil] at hn
      obtain ⟨B', hL, hv, _⟩ := intern_spec r [d] c v g1 B h1 hn
      simp only [resO, resV]
      exact ⟨B', g1, hL.toG, hn, fun b hb => by simpa using hb, hv⟩
    | r :: r2 :: rr, h =>
      have h' := h
      simp only [CRl] at h'
      obtain ⟨v0, vs', g1, g2, rfl, h1, ⟨v1, vs1, g3, g4, rfl, _⟩, rfl⟩ := h'
      exact gen rfl hr
theorem call_Tr (hf : FR F B w S a) (hN : a.tmps.size = N) {dst : Option Nat} (hd : dstOK N dst = true) {ms : List Mode} {xs : List AV} {cs : List CV} {kf kr ko : List Key} {vs : List Value}
    (ha : argsC P S.H ms xs = some (cs, kf, kr, ko)) (hv : VRl w F B S.c xs vs) (hn : ko.Nodup) (hdj : ∀ k ∈ ko, k ∉ kf ∧ k ∉ kr) {rs az : List CV} {v : Value} {F' : Nat → Prop} {vr : List Value} {f1 f2 : List Nat}
    (hl : Left (fun b => F b ∨ FK S.H B kf b ∨ FK S.H B kr b) w vs (fpOf S.H B ko) rs az v w' F' vr f1 f2) (hfl : kr = [] ∨ (flats rs = true ∧ flats az = true)) :
    ∃ F2 B2, Tr N F B w S F2 B2 w' (afterCall S dst ms xs kf ko rs az) (a.put dst v) := by
  have hf1 := hf.freeze kf
  have hnd := List.nodup_append.1 hl.nodup
  have hapart : ∀ k1 g1 o1 k2 g2 o2 b n1 n2, (k1, g1, o1) ∈ S.H → (k2, g2, o2) ∈ S.H → k1 ≠ k2 → B g1 = some (b, n1) → B g2 = some (b, n2) → False := by
    intro k1 g1 o1 k2 g2 o2 b n1 n2 m1 m2 hne e1 e2
    by_cases hg : g1 = g2
    · have := same_entry hf.gensNodup m1 m2 hg
      simp only [Prod.mk.injEq] at this
      exact hne this.1
    · exact hf.apart m1 m2 hg e1 e2
  have hfpOwn : ∀ b, b ∈ fpOf S.H B ko → Own S.H B b := fun b hb => by
    obtain ⟨k, g, o, n, _, hm, hB⟩ := fpOf_mem hb
    exact ⟨k, g, o, n, hm, hB⟩
  have hfkOwn : ∀ ks b, FK S.H B ks b → Own S.H B b := fun ks b hb => by
    obtain ⟨k, g, o, n, _, hm, hB⟩ := hb
    exact ⟨k, g, o, n, hm, hB⟩
  have hfpF1 : ∀ b, b ∈ fpOf S.H B ko → ¬ (F b ∨ FK S.H B kf b) := fun b hb h => by
    rcases h with h | ⟨k1, g1, o1, n1, hk1, hm1, hB1⟩
    · exact (hf.sep b (hfpOwn b hb)).1 h
    · obtain ⟨k, g, o, n, hk, hm, hB⟩ := fpOf_mem hb
      exact hapart k g o k1 g1 o1 b n n1 hm hm1 (fun e => (hdj k hk).1 (e ▸ hk1)) hB hB1
  let H2 := dropO dst (rmKeys ko (S.freeze kf).H)
  have hH2s : H2.Sublist S.H := (dropO_sub _ _).trans ((rmKeys_sub _ _).trans (freeze_H _ _))
  have hH2k : ∀ x ∈ H2, x.1 ∉ ko := fun x hx => rmKeys_not ((dropO_sub _ _).subset hx)
  have hfpO : ∀ b, b ∈ fpOf S.H B ko → ¬ Own H2 B b := fun b hb h => by
    obtain ⟨k1, g1, o1, n1, hm1, hB1⟩ := h
    obtain ⟨k, g, o, n, hk, hm, hB⟩ := fpOf_mem hb
    exact hapart k g o k1 g1 o1 b n n1 hm (hH2s.subset hm1) (fun e => hH2k _ hm1 (e ▸ hk)) hB hB1
  have hf2 : FR (fun b => F b ∨ FK S.H B kf b) B w ⟨(S.freeze kf).E, H2, S.c⟩ a := by
    have hf1' : FR (fun b => F b ∨ FK S.H B kf b) B w ⟨(S.freeze kf).E, (S.freeze kf).H, S.c⟩ a := by
      have := hf1
      rw [← freeze_c S kf]
      exact this
    exact hf1'.drop (fun t => .inl rfl) ((dropO_sub _ _).trans (rmKeys_sub _ _))
  obtain ⟨F2, hF1, hF2, hrs, has⟩ : ∃ F2 : Nat → Prop, (∀ b, F b ∨ FK S.H B kf b → F2 b) ∧ (∀ b, F2 b → F' b ∧ (F b ∨ FK S.H B kf b ∨ b ∈ fpOf S.H B ko ∨ w.heap.size ≤ b)) ∧ CRl w' F2 rs vr f1 ∧ CRl w' F2 az vs f2 := by
    rcases hfl with rfl | ⟨h1, h2⟩
    · refine ⟨F', fun b hb => hl.sub b (hb.imp id .inl), fun b hb => ⟨hb, ?_⟩, hl.rs, hl.az⟩
      rcases hl.new b (.inl hb) with (h | h | ⟨_, _, _, _, h, _⟩) | h | h
      · exact .inl h
      · exact .inr (.inl h)
      · cases h
      · exact .inr (.inr (.inl h))
      · exact .inr (.inr (.inr h))
    · exact ⟨fun b => F b ∨ FK S.H B kf b, fun _ h => h, fun b hb => ⟨hl.sub b (hb.imp id .inl), hb.elim .inl (.inr ∘ .inl)⟩, CRl.flat _ _ _ h1 hl.rs, CRl.flat _ _ _ h2 hl.az⟩
  have hf3 : FR F2 B w' ⟨(S.freeze kf).E, H2, S.c⟩ a := by
    refine hf2.world (fun b hb => ?_) hF1 (fun b hb h => ?_) (hf.Flt.mono (fun b h => hF1 b (.inl h)) (fun b hb => hl.keep b (hf.Flt b hb) fun h => hfpF1 b h (.inl hb)) (fun b hb => hl.lt b (hF2 b hb).1)) hl.size
    · rcases hb with hb | hb
      · exact hl.keep b (hf2.Flt b hb) fun h => hfpF1 b h hb
      · exact hl.keep b (hf2.sep b hb).2 fun h => hfpO b h hb
    · have hs := hf2.sep b hb
      rcases (hF2 b h).2 with h | h | h | h
      · exact hs.1 (.inl h)
      · exact hs.1 (.inr h)
      · exact hfpO b h hb
      · exact absurd hs.2 (by omega)
  obtain ⟨B1, g1, hL1, hg1n, hg1, hvr⟩ := resO_spec (dst := dst) (c := S.c) hl.res hrs hnd.1 B
  obtain ⟨B2, g2, hL2, hg2n, hg2⟩ := reown_spec hf ms xs cs kf kr ko vs az f2 ha hn hv has hnd.2.1 B1 (resO dst S.c rs).2.2 hL1.old hL1.le
  have hgg : (g1 ++ g2).Nodup := List.nodup_append.2 ⟨hg1n, hg2n, fun b hb b' hb' => hnd.2.2 b (hg1 b hb) b' (hg2 b' hb')⟩
  have hggs : ∀ b ∈ g1 ++ g2, b ∈ f1 ++ f2 := fun b hb => by
    rcases List.mem_append.1 hb with h | h
    · exact List.mem_append_left _ (hg1 b h)
    · exact List.mem_append_right _ (hg2 b h)
  have hGlt : ∀ g ∈ gensOf ms xs, g < S.c := fun g hg => by
    obtain ⟨k, o, _, h2⟩ := argsC_gens ms xs _ _ _ _ ha g hg
    exact (hf.objs _ _ _ (mem_of_objIn h2)).1
  have hL := hL1.append hL2 (by simp) hGlt (by simpa using argsC_gensNodup hf ms xs _ _ _ _ ha hn) hgg
  have hnewb : ∀ b ∈ f1 ++ f2, b ∈ fpOf S.H B ko ∨ w.heap.size ≤ b := fun b hb => by
    rcases hl.new b (.inr hb) with h | h | h
    · exact absurd (hl.sub b h) (hl.sep b hb).1
    · exact .inl h
    · exact .inr h
  have hf4 := hf3.lay hL (fun g hg x hx => by
    simp only [List.nil_append] at hg
    obtain ⟨k, o, hk, h2⟩ := argsC_gens ms xs _ _ _ _ ha g hg
    intro e
    have := same_entry hf.gensNodup (hH2s.subset hx) (mem_of_objIn h2) e
    subst this
    exact hH2k _ hx hk) (fun b hb => by
    have hb' := hggs b hb
    refine ⟨fun h => (hl.sep b hb').1 (hF2 b h).1, (hl.sep b hb').2, fun h => ?_⟩
    rcases hnewb b hb' with h1 | h1
    · exact hfpO b h1 h
    · have := (hf2.sep b h).2
      omega)
  have hf5 := hf4.put hN hd (hvr.lift hL2.old hL2.le)
  refine ⟨F2, B2, ?_, by rw [Act.put_size]; exact hN, fun b hb => hF1 b (.inl hb), fun b hb ho => hl.keep b hb fun h => ho (hfpOwn b h), fun b hb => ?_, hl.os, hl.tape, hl.output, hl.size, fun g hg => hL.old g (Nat.lt_of_lt_of_le hg hf.pin)⟩
  · have e : afterCall S dst ms xs kf ko rs az = St.put ⟨(S.freeze kf).E, ((resO dst S.c rs).2.1 ++ (reown (resO dst S.c rs).2.2 ms xs az).1) ++ H2, (reown (resO dst S.c rs).2.2 ms xs az).2⟩ dst (resO dst S.c rs).1 := by
      simp only [afterCall, List.append_assoc]
      rfl
    rw [e]
    exact hf5
  · rcases hb with hb | ⟨k, g, o, n, hm, hB⟩
    · rcases (hF2 b hb).2 with h | h | h | h
      · exact .inl h
      · exact .inr (.inl (hfkOwn _ _ h))
      · exact .inr (.inl (hfpOwn _ h))
      · exact .inr (.inr h)
    · have hm' : (k, g, o) ∈ ((resO dst S.c rs).2.1 ++ (reown (resO dst S.c rs).2.2 ms xs az).1) ++ H2 := by
        have e : (afterCall S dst ms xs kf ko rs az).H = ((resO dst S.c rs).2.1 ++ (reown (resO dst S.c rs).2.2 ms xs az).1) ++ H2 := by
          cases dst <;> simp only [afterCall, St.put, List.append_assoc] <;> rfl
        rw [← e]
        exact hm
      rcases List.mem_append.1 hm' with h | h
      · have := hnewb b (hggs b (hL.blk _ h b n hB))
        exact .inr (this.imp (hfpOwn b) id)
      · have hg := (hf.objs _ _ _ (hH2s.subset h)).1
        rw [hL.old g hg] at hB
        exact .inr (.inl ⟨k, g, o, n, hH2s.subset h, hB⟩)
def nodupK : List Key → Bool
  | [] => true
  | k :: r => !(r.contains k) && nodupK r
def okK (ko kf kr : List Key) : Bool := nodupK ko && ko.all fun k => !(kf.contains k) && !(kr.contains k)
theorem nodupK_spec : ∀ {l : List Key}, nodupK l = true → l.Nodup
  | [], _ => List.nodup_nil
  | k :: r, h => by
    simp only [nodupK, Bool.and_eq_true, Bool.not_eq_true', List.contains_eq_mem, decide_eq_false_iff_not] at h
    exact List.nodup_cons.2 ⟨h.1, nodupK_spec h.2⟩
theorem okK_spec {ko kf kr : List Key} (h : okK ko kf kr = true) : ko.Nodup ∧ ∀ k ∈ ko, k ∉ kf ∧ k ∉ kr := by
  simp only [okK, Bool.and_eq_true, List.all_eq_true, Bool.not_eq_true', List.contains_eq_mem, decide_eq_false_iff_not] at h
  exact ⟨nodupK_spec h.1, h.2⟩
 
structure Tab where
  M : FuncId → List Mode
  C : FuncId → List CV → (List CV → List CV → Prop) → Prop
def Tab.Sound (P : Program) (T : Tab) : Prop := ∀ g args K, T.C g args K → Con P g args K
 
def calleeV (S : St) (c : Call) : Option (FuncId × List AV) := match c.callee with
  | .value x => match S.ev x with
    | .d (.clo (.func g) f cp) => some (g, f.map .d ++ (c.args.toList.map S.ev ++ cp.map .d))
    | .clo (.func g) f cp => some (g, f ++ (c.args.toList.map S.ev ++ cp))
    | _ => none
  | _ => none
def callV (P : Program) (T : Tab) (o : Oper) (S : St) (K : St → Prop) : Prop := match o.op with
  | .call c => match calleeV S c with
    | some (g, xs) => match argsC P S.H (T.M g) xs with
      | some (cs, kf, kr, ko) => bif okK ko kf kr then T.C g cs fun rs az => bif kr.isEmpty || (flats rs && flats az) then K (afterCall S o.dst (T.M g) xs kf ko rs az) else False
          else False
      | none => False
    | none => False
  | _ => False
theorem evs_VRl'' (hf : FR F B w S a) : ∀ l : List Operand, VRl w F B S.c (l.map S.ev) (l.map a.eval)
  | [] => by simp [VRl]
  | x :: r => by simp only [List.map_cons, VRl]; exact ⟨_, _, rfl, ev_VR hf x, evs_VRl'' hf r⟩
theorem calleeV_spec (hf : FR F B w S a) {c : Call} {g : FuncId} {xs : List AV} (h : calleeV S c = some (g, xs)) (ty : TypeId) :
    ∃ vs, VRl w F B S.c xs vs ∧ ∀ W, (do let d ← resolve a.eval c ty; invoke d.target d.args : Sem Next).run P W = (callFunc g vs.toArray).run P W := by
  unfold calleeV at h
  split at h
  · rename_i x hc
    have hx := ev_VR hf x
    have hargs := evs_VRl'' hf c.args.toList
    split at h
    · rename_i g' f cp hx'
      simp only [Option.some.injEq, Prod.mk.injEq] at h
      obtain ⟨rfl, rfl⟩ := h
      rw [hx'] at hx
      simp only [VR, DRv, DRc, List.cons.injEq, and_true] at hx
      obtain ⟨fv, cv, hv, h1, h2⟩ := hx
      refine ⟨fv.toList ++ (c.args.toList.map a.eval ++ cv.toList), VRl.append (VRl_of_DRl h1).1 (VRl.append hargs (VRl_of_DRl h2).1), fun W => ?_⟩
      simp only [resolve, hc, hv, Deferred.ofValue, pure_bind, invoke]
      congr 2
      apply Array.ext'
      simp
    · rename_i g' f cp hx'
      simp only [Option.some.injEq, Prod.mk.injEq] at h
      obtain ⟨rfl, rfl⟩ := h
      rw [hx'] at hx
      simp only [VR] at hx
      obtain ⟨fv, cv, hv, h1, h2⟩ := hx
      refine ⟨fv.toList ++ (c.args.toList.map a.eval ++ cv.toList), VRl.append h1 (VRl.append hargs h2), fun W => ?_⟩
      simp only [resolve, hc, hv, Deferred.ofValue, pure_bind, invoke]
      congr 2
      apply Array.ext'
      simp
    · cases h
  · cases h
 
theorem callV_run {T : Tab} (hT : T.Sound P) (hf : FR F B w S a) (hN : a.tmps.size = N) (o : Oper) (hd : dstOK N o.dst = true) {K : St → Prop} (h : callV P T o S K) {Q : Exit → Act → World → Prop} {next : Act → World → Prop}
    (hk : ∀ a' w', (∃ S' F' B', K S' ∧ Tr N F B w S F' B' w' S' a') → next a' w') : o.wp P a w next Q := by
  obtain ⟨dst, op, ty, pos, after, guard⟩ := o
  unfold callV at h
  split at h
  · rename_i c hop
    simp only at hop
    subst hop
    split at h
    · rename_i g xs hc
      obtain ⟨vs, hvs, hrun⟩ := calleeV_spec hf hc ty
      split at h
      · rename_i cs kf kr ko ha
        cases hok : okK ko kf kr with
        | false => rw [hok] at h; exact h.elim
        | true =>
        rw [hok] at h
        have hC : T.C g cs fun rs az => bif kr.isEmpty || (flats rs && flats az) then K (afterCall S dst (T.M g) xs kf ko rs az) else False := h
        obtain ⟨hn, hdj⟩ := okK_spec hok
        have hcr := argsC_spec hf _ _ _ _ _ _ _ ha hvs
        have hfpOwn : ∀ b, b ∈ fpOf S.H B ko → Own S.H B b := fun b hb => by
          obtain ⟨k, g, o, n, _, hm, hB⟩ := fpOf_mem hb
          exact ⟨k, g, o, n, hm, hB⟩
        have hfpN : ∀ ks, (∀ k ∈ ko, k ∉ ks) → ∀ b ∈ fpOf S.H B ko, ¬ FK S.H B ks b := fun ks hks b hb h => by
          obtain ⟨k1, g1, o1, n1, hk1, hm1, hB1⟩ := h
          obtain ⟨k, g, o, n, hk, hm, hB⟩ := fpOf_mem hb
          by_cases hg : g = g1
          · have := same_entry hf.gensNodup hm hm1 hg
            simp only [Prod.mk.injEq] at this
            exact hks k hk (this.1 ▸ hk1)
          · exact hf.apart hm hm1 hg hB hB1
        have hen := hT g cs _ hC _ w vs _ hcr (fpOf_nodup hf hn) (fun b hb => ⟨fun h => by
          rcases h with h | h | h
          · exact (hf.sep b (hfpOwn b hb)).1 h
          · exact hfpN kf (fun k hk => (hdj k hk).1) b hb h
          · exact hfpN kr (fun k hk => (hdj k hk).2) b hb h, (hf.sep b (hfpOwn b hb)).2⟩) (hf.Flt.mono (fun _ h => .inl h) (fun _ _ => rfl) (fun b hb => by
          rcases hb with h | ⟨k, g, o, n, _, hm, hB⟩ | ⟨k, g, o, n, _, hm, hB⟩
          · exact hf.Flt b h
          · exact (hf.sep b ⟨k, g, o, n, hm, hB⟩).2
          · exact (hf.sep b ⟨k, g, o, n, hm, hB⟩).2))
        have fin : ∀ v w', (∃ rs az F' vr f1 f2, (bif kr.isEmpty || (flats rs && flats az) then K (afterCall S dst (T.M g) xs kf ko rs az) else False) ∧ Left (fun b => F b ∨ FK S.H B kf b ∨ FK S.H B kr b) w vs (fpOf S.H B ko) rs az v w' F' vr f1 f2) → next (a.put dst v) w' := by
          rintro v w' ⟨rs, az, F', vr, f1, f2, h12, hl⟩
          cases hfl : (kr.isEmpty || (flats rs && flats az)) with
          | false => rw [hfl] at h12; exact h12.elim
          | true =>
          rw [hfl] at h12
          have h2 : K (afterCall S dst (T.M g) xs kf ko rs az) := h12
          have h1 : kr = [] ∨ (flats rs = true ∧ flats az = true) := by simpa using hfl
          obtain ⟨F2, B2, ht⟩ := call_Tr hf hN hd ha hvs hn hdj hl h1
          exact hk _ _ ⟨_, F2, B2, h2, ht⟩
        have hex : (execOp a.eval (⟨dst, .call c, ty, pos, after, guard⟩ : Oper)).run P w = (callFunc g vs.toArray).run P w := hrun w
        unfold Oper.wp
        rw [hex]
        unfold Enters at hen
        split at hen
        · rename_i v w' hr
          rw [hr]
          exact fin v w' hen
        · rename_i f' xs' w' hr
          rw [hr]
          simp only [Oper.upon]
          refine hen.mono fun e w'' he => ?_
          cases e with
          | returned v => exact fin v w'' he
          | panicked c => exact he.elim
          | outgrown => exact he.elim
        · rename_i row xs' w' hr
          rw [hr]
          simp only [Oper.upon]
          exact hen.mono fun v w'' he => fin v w'' he
        · exact hen.elim
      · exact h.elim
    · exact h.elim
  · exact h.elim
end
end Go.Fw
