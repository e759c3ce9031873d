/- What the proofs of this seat lean on, part 4: a symbolic machine that is shown sound, walks through functions, plain laws. -/
import Derived.Test.YtcmbobdkilcjeaaDoorZ3
import Derived.Laws.Cells
import Derived.Laws.Append
namespace Go.Fw
open Go
set_option linter.unusedVariables false
set_option linter.unusedSimpArgs false
 
def Ext (w w' : World) : Prop := ∀ b, b < w.heap.size → w'.heap[b]? = w.heap[b]?
theorem Ext.refl (w : World) : Ext w w := fun _ _ => rfl
theorem Ext.size {w w' : World} (h : Ext w w') : w.heap.size ≤ w'.heap.size := by
  rcases Nat.eq_zero_or_pos w.heap.size with h0 | h0
  · omega
  · have := h (w.heap.size - 1) (by omega)
    have h1 : w.heap[w.heap.size - 1]? = some (w.heap[w.heap.size - 1]'(by omega)) := by simp [h0]
    rw [h1] at this
    have := (Array.getElem?_eq_some_iff.1 this).1
    omega
theorem Ext.trans {a b c : World} (h : Ext a b) (k : Ext b c) : Ext a c := fun i hi => (k i (Nat.lt_of_lt_of_le hi h.size)).trans (h i hi)
theorem Ext.cells {w w' : World} (h : Ext w w') {ad : Addr} {vs : List Value} (hb : ad.block < w.heap.size) (hc : Cells w ad vs) : Cells w' ad vs :=
  hc.keep (F := fun b => b < w.heap.size) h hb
def D.ncells : D → Nat
  | .agg l => l.length
  | _ => 1
 
def varI (P : Program) (t : TypeId) : Option (Nat × Bool) := match P.info? t, aggT P t with
  | some i, some b => if 0 < i.size ∧ (b = true ∨ i.size = 1) then some (i.size, b) else none
  | _, _ => none
theorem varI_spec {P : Program} {t sz : Nat} {b : Bool} (h : varI P t = some (sz, b)) : ∃ i, P.info? t = some i ∧ i.size = sz ∧ 0 < sz ∧ aggT P t = some b ∧ (b = false → sz = 1) := by
  unfold varI at h
  split at h
  · rename_i i b' hi hb
    split at h
    · rename_i hc
      simp only [Option.some.injEq, Prod.mk.injEq] at h
      obtain ⟨rfl, rfl⟩ := h
      exact ⟨i, hi, rfl, hc.1, hb, fun h => by rcases hc.2 with h' | h' <;> simp_all⟩
    · cases h
  · cases h
 
def dByte : D → UInt8
  | .int _ n => UInt8.ofNat n.toNat
  | _ => 0
def allU8 : List D → Bool
  | [] => true
  | .int .u8 _ :: r => allU8 r
  | _ :: _ => false
def byteD (b : UInt8) : D := .int .u8 b.toNat
def loadV (P : Program) (t : TypeId) (S : St) (x : AV) (K : AV → Prop) : Prop := match varI P t with
  | some (sz, b) => match x with
    | .d (.ptr y) => y.isAgg = b ∧ y.ncells = sz ∧ K (.d y)
    | .addr k g c => match objIn S.H k with
      | some (g', .box _ l) => g' = g ∧ c + sz ≤ l.length ∧ K (asub l c sz b)
      | _ => False
    | .elt k g z j o => match objIn S.H k with
      | some (g', .row _ z' l) => g' = g ∧ z' = z ∧ j < l.length ∧ ∀ y, l.getD j default = y →
          ((o = 0 ∧ y.isAgg = b ∧ y.ncells = sz ∧ z = sz ∧ K (.d y)) ∨
           (match y with
            | .agg fs => o + sz ≤ fs.length ∧ K (.d (dsub fs o sz b))
            | _ => False))
      | some (g', .nest _ l) => b = false ∧ g' = g ∧ z = 1 ∧ o = 0 ∧ j < l.length ∧ ∀ y, l.getD j .hole = y → match y with
          | .d x => K (.d x)
          | .row _ z' il => K (.sub k g j z' il.length)
          | .hole => False
      | _ => False
    | _ => False
  | none => False
def rdBytesV (P : Program) (src dst : TypeId) (S : St) (x : AV) (K : AV → Prop) : Prop := match P.underlying src, shapeT P dst, x with
  | some (.slice e), .str, .d (.sl z l) => shapeT P e = .int .u8 ∧ z = 1 ∧ allU8 l = true ∧ ∀ s : ByteArray, ⟨(l.map dByte).toArray⟩ = s → K (.d (.str s))
  | some (.slice e), .str, .ref k g z off len => match objIn S.H k with
    | some (g', .row _ z' l) => shapeT P e = .int .u8 ∧ g' = g ∧ z' = 1 ∧ z = 1 ∧ off + len ≤ l.length ∧ ∀ m, (l.drop off).take len = m → allU8 m = true ∧ ∀ s : ByteArray, ⟨(m.map dByte).toArray⟩ = s → K (.d (.str s))
    | _ => False
  | some (.slice e), .str, .nils => shapeT P e = .int .u8 ∧ K (.d (.str ⟨#[]⟩))
  | _, _, _ => False
 
def readV (P : Program) (op : Op) (S : St) (K : AV → Prop) : Prop := match op with
  | .load t x => loadV P t S (S.ev x) K
  | .convert src dst x => rdBytesV P src dst S (S.ev x) K
  | _ => False
section
variable {P : Program} {w : World} {F : Nat → Prop} {B : Blk} {c : Nat} {K : AV → Prop}
theorem DRc.len {x : D} {cs : List Value} (h : DRc w F x cs) : cs.length = x.ncells := by
  cases x with
  | agg l => simp only [DRc] at h; simpa [D.ncells] using h.length
  | sl z l => simp only [DRc] at h; obtain ⟨A, cc, rfl, _⟩ := h; rfl
  | ptr y => simp only [DRc] at h; obtain ⟨A, cc, rfl, _⟩ := h; rfl
  | clo fn f cp => simp only [DRc] at h; obtain ⟨A, cc, rfl, _⟩ := h; rfl
  | _ => simp only [DRc] at h; subst h; rfl
theorem run_loadVar {t : TypeId} {i : TypeInfo} {b : Bool} (hi : P.info? t = some i) (hb : aggT P t = some b) (h1 : b = false → i.size = 1) {ad : Addr} {cs : List Value} (hl : cs.length = i.size) {W : World} (hc : Cells W ad cs) :
    (loadVar t ad).run P W = .ok (if b then .agg cs.toArray else cs.headD undef) W := by
  cases b
  · have hs := h1 rfl
    rw [hs] at hl
    match cs, hl with
    | [v], _ =>
      have := hc 0 v rfl
      have e : ad.add 0 = ad := by simp [Addr.add]
      rw [e] at this
      simp [loadVar, run_isAgg hb, this]
  · simp [loadVar, run_isAgg hb, run_sizeOf hi]
    rw [← hl, run_loadCells_list W ad cs hc]
    rfl
 
theorem val_of_cells {x : D} {b : Bool} {cs : List Value} (hb : x.isAgg = b) (h : DRc w F x cs) : DRv w F x (if b then .agg cs.toArray else cs.headD undef) := by
  subst hb
  cases x with
  | agg l => simp only [D.isAgg, if_true, DRv]; simp only [DRc] at h; exact ⟨_, rfl, by simpa using h⟩
  | sl z l => simp only [D.isAgg, DRv]; have hh := h; simp only [DRc] at h; obtain ⟨A, cc, rfl, _⟩ := h; exact hh
  | ptr y => simp only [D.isAgg, DRv]; have hh := h; simp only [DRc] at h; obtain ⟨A, cc, rfl, _⟩ := h; exact hh
  | clo fn f cp => simp only [D.isAgg, DRv]; have hh := h; simp only [DRc] at h; obtain ⟨A, cc, rfl, _⟩ := h; exact hh
  | _ => simp only [D.isAgg, DRv]; have hh := h; simp only [DRc] at h; subst h; exact hh
theorem cell_at {w : World} {b : Nat} {cs : Array Value} {e : Nat} {fr : Nat × Nat} (h : w.heap[b]? = some (.cells cs e fr)) (i : Nat) : w.cell? ⟨b, i, none⟩ = cs[i]? := by
  simp [World.cell?, h]
theorem Cells_of_block {w : World} {b : Nat} {cs : Array Value} {e : Nat} {fr : Nat × Nat} (h : w.heap[b]? = some (.cells cs e fr)) (o s : Nat) : Cells w ⟨b, o, none⟩ ((cs.toList.drop o).take s) := by
  intro i v hv
  rw [add_plain, cell_at h]
  rw [List.getElem?_take] at hv
  split at hv
  · rw [List.getElem?_drop] at hv
    simpa using hv
  · cases hv
theorem FR.objsIn {S : St} {a : Act} (hf : FR F B w S a) {k : Key} {g : Nat} {o : AO} (h : objIn S.H k = some (g, o)) : OR w F B S.c g o := (hf.objs k g o (mem_of_objIn h)).2
theorem lt_heap {w : World} {b : Nat} {o : Obj} (h : w.heap[b]? = some o) : b < w.heap.size := (Array.getElem?_eq_some_iff.1 h).1
theorem loadV_run {t : TypeId} {S : St} {a : Act} {x : AV} {u : Value} (hf : FR F B w S a) (hx : VR w F B S.c x u) (h : loadV P t S x K) :
    ∃ v av, (∀ W, Ext w W → (Instr.loadAt t u).run P W = .ok v W) ∧ VR w F B S.c av v ∧ K av := by
  unfold loadV at h
  split at h
  · rename_i sz b hvi
    obtain ⟨i, hi, hsz, h0, hag, hb1⟩ := varI_spec hvi
    have key : ∀ (ad : Addr) (cs : List Value), u = .pointer (some ad) → ad.block < w.heap.size → Cells w ad cs → cs.length = sz → ∀ W, Ext w W → (Instr.loadAt t u).run P W = .ok (if b then .agg cs.toArray else cs.headD undef) W := by
      intro ad cs e hlt hc hl W hW
      subst e
      have := run_loadVar (P := P) hi hag (fun hb => by rw [hsz]; exact hb1 hb) (by rw [hsz]; exact hl) (hW.cells hlt hc)
      simp [Instr.loadAt, Instr.sureAddr, this]
    split at h
    · rename_i y
      obtain ⟨h1, h2, h3⟩ := h
      simp only [VR, DRv, DRc] at hx
      obtain ⟨ad, cs, hu, hF, hC, hD⟩ := hx
      simp only [List.cons.injEq, and_true] at hu
      refine ⟨_, _, key ad cs hu (hf.Flt _ hF) hC (by rw [hD.len, h2]), ?_, h3⟩
      simp only [VR]
      exact val_of_cells h1 hD
    · rename_i k g o
      split at h
      · rename_i g' e l hob
        obtain ⟨rfl, h1, h2⟩ := h
        have hor := hf.objsIn hob
        simp only [OR] at hor
        obtain ⟨bb, n, cs, fr, hB, hh, hun, hco, hvl⟩ := hor
        simp only [VR] at hx
        obtain ⟨hg, bb', n', hB', rfl⟩ := hx
        rw [hB] at hB'
        simp only [Option.some.injEq, Prod.mk.injEq] at hB'
        obtain ⟨rfl, rfl⟩ := hB'
        have hlen : l.length = cs.size := by have := hvl.length; simpa using this.symm
        have hk := key ⟨bb, o, none⟩ ((cs.toList.drop o).take sz) rfl (lt_heap hh) (Cells_of_block hh o sz) (by simp; omega)
        refine ⟨_, _, hk, ?_, h2⟩
        cases b
        · have hs := hb1 rfl
          subst hs
          obtain ⟨v, hv1, hv2⟩ := hvl.get o (by omega)
          have hlt := (List.getElem?_eq_some_iff.1 hv1).1
          have hv := (List.getElem?_eq_some_iff.1 hv1).2
          rw [List.drop_eq_getElem_cons hlt, List.take_succ_cons, List.take_zero, hv]
          simpa [asub] using hv2
        · simp only [asub, if_true]
          refine mkAgg_VR (cellsOK_take _ (cellsOK_drop _ hco)) ?_
          simpa using (hvl.drop o).take sz
      · exact h.elim
    · rename_i k g z j o
      split at h
      · rename_i g' e z' l hob
        obtain ⟨rfl, rfl, hj, h⟩ := h
        replace h := h _ rfl
        have hor := hf.objsIn hob
        simp only [VR] at hx
        obtain ⟨hg, bb, n, hB, rfl⟩ := hx
        simp only [OR, hB] at hor
        obtain ⟨cs, fr, hh, hun, hz0, hcs, hln, hmx, hdr⟩ := hor
        have hlt := lt_heap hh
        have hget := hdr.get j hj
        have hjn : (j + 1) * z' ≤ l.length * z' := Nat.mul_le_mul_right _ hj
        rw [Nat.add_mul, Nat.one_mul] at hjn
        have htk : (List.drop (j * z') (List.take (l.length * z') cs.toList)).take z' = (cs.toList.drop (j * z')).take z' := by
          rw [List.drop_take, List.take_take, Nat.min_eq_left (by omega)]
        rw [htk] at hget
        rcases h with ⟨rfl, h1, h2, rfl, h3⟩ | h
        · refine ⟨_, _, key ⟨bb, j * z' + 0, none⟩ ((cs.toList.drop (j * z')).take z') rfl hlt (Cells_of_block hh _ _) (by rw [hget.1.len, h2]), ?_, h3⟩
          simp only [VR]
          exact val_of_cells h1 hget.1
        · split at h
          · rename_i fs hfs
            rw [hfs] at hget
            obtain ⟨h1, h2⟩ := h
            have hd := hget.1
            simp only [DRc] at hd
            have hfl : fs.length = z' := by have := hd.length; rw [hget.2] at this; exact this.symm
            have hsub := dsub_cells h1 hb1 hd
            have e1 : (List.drop o ((cs.toList.drop (j * z')).take z')).take sz = (cs.toList.drop (j * z' + o)).take sz := by
              rw [List.drop_take, List.take_take, List.drop_drop, Nat.min_eq_left (by omega)]
            rw [e1] at hsub
            have hlen2 : ((cs.toList.drop (j * z' + o)).take sz).length = sz := by
              have h5 : n * z' = cs.size := hcs.symm
              have h6 : l.length * z' ≤ n * z' := Nat.mul_le_mul_right _ hln
              simp; omega
            refine ⟨_, _, key ⟨bb, j * z' + o, none⟩ _ rfl hlt (Cells_of_block hh _ sz) hlen2, ?_, h2⟩
            simp only [VR]
            refine val_of_cells ?_ hsub
            cases b
            · have hs := hb1 rfl
              subst hs
              obtain ⟨v, _, hv, _⟩ := hd.get o (by omega)
              simpa [dsub] using hv
            · rfl
          · exact h.elim
      · rename_i g' e l hob
        obtain ⟨hb, rfl, rfl, rfl, hj, h⟩ := h
        replace h := h _ rfl
        have hs := hb1 hb
        subst hs
        have hor := hf.objsIn hob
        simp only [VR] at hx
        obtain ⟨hg, bb, n, hB, rfl⟩ := hx
        simp only [OR, hB] at hor
        obtain ⟨cs, fr, hh, hun, hcs, hln, hmx, hnr⟩ := hor
        have hlt := lt_heap hh
        obtain ⟨v, hv1, hv2⟩ := hnr.get hj
        rw [List.getElem?_take, if_pos hj] at hv1
        have hjc := (List.getElem?_eq_some_iff.1 hv1).1
        have hv := (List.getElem?_eq_some_iff.1 hv1).2
        have htk : (cs.toList.drop j).take 1 = [v] := by
          rw [List.drop_eq_getElem_cons hjc, List.take_succ_cons, List.take_zero, hv]
        have hk := key ⟨bb, j * 1 + 0, none⟩ [v] rfl hlt (by
          have := Cells_of_block hh j 1
          rw [htk] at this
          rw [Nat.mul_one, Nat.add_zero]
          exact this) rfl
        subst hb
        split at h
        · rename_i x hx
          rw [hx] at hv2
          simp only [NR] at hv2
          refine ⟨v, _, hk, ?_, h⟩
          simp only [VR]
          have := val_of_cells (b := false) hv2.2.1 hv2.2.2
          simpa using this
        · rename_i e' z' il hx
          rw [hx] at hv2
          simp only [NR] at hv2
          refine ⟨v, _, hk, ?_, h⟩
          simp only [VR]
          refine ⟨hg, bb, n, hB, ?_⟩
          generalize (decBN n).2.getD j none = i at hv2 ⊢
          cases i with
          | none => obtain ⟨rfl, rfl⟩ := hv2; exact ⟨rfl, fun _ => rfl⟩
          | some p => obtain ⟨b', n'⟩ := p; exact ⟨hv2.1, fun h => by cases h⟩
        · exact h.elim
      · exact h.elim
    · exact h.elim
  · exact h.elim
end
end Go.Fw
