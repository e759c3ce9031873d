/- What the proofs of this seat lean on, part 5: a symbolic machine that is shown sound, walks through functions, plain laws. -/
import Derived.Test.YtcmbobdkilcjeaaDoorZ4
import Derived.Laws.BytesArg
namespace Go.Fw
open Go
set_option linter.unusedVariables false
set_option linter.unusedSimpArgs false
section
variable {P : Program} {w : World} {F : Nat → Prop} {B : Blk} {c : Nat} {K : AV → Prop}
def dNum : D → Int
  | .int _ n => n
  | _ => 0
theorem bytes_cells : ∀ {l : List D} {cs : List Value}, allU8 l = true → DRr w F 1 l cs → cs = (l.map dNum).map (Value.int .u8)
  | [], cs, _, h => by simpa [DRr] using h
  | x :: r, cs, ha, h => by
    simp only [DRr] at h
    obtain ⟨a, b, rfl, h0, h1, h2⟩ := h
    unfold allU8 at ha
    split at ha
    · rename_i e; cases e
    · rename_i n r' e
      cases e
      simp only [DRc] at h1
      subst h1
      simp [bytes_cells ha h2, dNum]
    · cases ha
theorem strOfNums_eq {l : List D} (_ : allU8 l = true) : strOfNums (l.map dNum) = ⟨(l.map dByte).toArray⟩ := by
  simp only [strOfNums, ByteArray.mk.injEq, List.map_map]
  congr 1
  refine List.map_congr_left fun x _ => ?_
  cases x <;> rfl
theorem conv_bytes {src dst e : TypeId} (hs : P.underlying src = some (.slice e)) (he : P.underlying e = some (.int .u8)) (hd : P.underlying dst = some .string) {ad : Addr} {xs : List Int} {cap : Nat} {W : World} (h : Cells W ad (xs.map (Value.int .u8))) :
    (convert src dst (.slice (some ad) xs.length cap)).run P W = .ok (.string (strOfNums xs)) W := by
  have hl : (loadCells ad xs.length).run P W = .ok (xs.map (Value.int .u8)).toArray W := by
    have := run_loadCells_list (P := P) W ad (xs.map (Value.int .u8)) h
    simpa using this
  rw [run_convert_bytes_string W src dst e _ _ cap hs he hd, run_bytesToString W _ _ cap xs hl, foldl_push_bytes]
  simp [strOfNums, ByteArray.empty, ByteArray.emptyWithCapacity]
  rfl
theorem rdBytesV_run {src dst : TypeId} {S : St} {a : Act} {x : AV} {u : Value} (hf : FR F B w S a) (hx : VR w F B S.c x u) (h : rdBytesV P src dst S x K) :
    ∃ v av, (∀ W, Ext w W → (convert src dst u).run P W = .ok v W) ∧ VR w F B S.c av v ∧ K av := by
  unfold rdBytesV at h
  split at h
  · rename_i e z l hs hd
    obtain ⟨he, rfl, ha, hk⟩ := h
    replace hk := hk _ rfl
    simp only [VR, DRv, DRc] at hx
    obtain ⟨A, cc, hu, hl, hm, hr⟩ := hx
    simp only [List.cons.injEq, and_true] at hu
    subst hu
    refine ⟨.string ⟨(l.map dByte).toArray⟩, _, fun W hW => ?_, by simp [VR, DRv, DRc], hk⟩
    rw [← strOfNums_eq ha]
    rcases hr with rfl | ⟨ad, cs, rfl, hF, hC, hD⟩
    · cases A with
      | none => exact run_convert_bytes_nil (P := P) W src e hs (shapeT_int he) _ _ dst (shapeT_str hd)
      | some ad => exact conv_bytes (P := P) (xs := []) hs (shapeT_int he) (shapeT_str hd) (fun i v hv => by simp at hv)
    · have := conv_bytes (P := P) (xs := l.map dNum) (cap := cc) hs (shapeT_int he) (shapeT_str hd) (by rw [← bytes_cells ha hD]; exact hW.cells (hf.Flt _ hF) hC)
      simpa using this
  · rename_i e k g z off len hs hd
    split at h
    · rename_i g' e' z' l hob
      obtain ⟨he, rfl, rfl, rfl, hol, h⟩ := h
      obtain ⟨ha, hk⟩ := h _ rfl
      replace hk := hk _ rfl
      have hor := hf.objsIn hob
      simp only [VR] at hx
      obtain ⟨hg, hx⟩ := hx
      refine ⟨.string ⟨(((l.drop off).take len).map dByte).toArray⟩, _, fun W hW => ?_, by simp [VR, DRv, DRc], hk⟩
      rw [← strOfNums_eq ha]
      split at hx
      · obtain ⟨rfl, rfl, rfl⟩ := hx
        exact run_convert_bytes_nil (P := P) W src e hs (shapeT_int he) _ _ dst (shapeT_str hd)
      · rename_i bb n hB
        obtain ⟨ad, rfl, hcap, had⟩ := hx
        simp only [OR, hB] at hor
        obtain ⟨cs, fr, hh, hun, hz0, hcs, hln, hmx, hdr⟩ := hor
        have hlen : (((l.drop off).take len).map dNum).length = len := by simp; omega
        rcases had with rfl | ⟨rfl, _⟩
        · have hD := (hdr.drop off).take len
          have hc : Cells w ⟨bb, off * 1, none⟩ ((((l.drop off).take len).map dNum).map (Value.int .u8)) := by
            rw [← bytes_cells ha hD]
            have : ((cs.toList.take (l.length * 1)).drop (off * 1)).take (len * 1) = (cs.toList.drop (off * 1)).take (len * 1) := by
              rw [List.drop_take, List.take_take, Nat.min_eq_left (by omega)]
            rw [this]
            exact Cells_of_block hh _ _
          have := conv_bytes (P := P) (cap := n - off) hs (shapeT_int he) (shapeT_str hd) (hW.cells (lt_heap hh) hc)
          rw [hlen] at this
          exact this
        · exact conv_bytes (P := P) (xs := []) hs (shapeT_int he) (shapeT_str hd) (fun i v hv => by simp at hv)
    · exact h.elim
  · rename_i e hs hd
    simp only [VR] at hx
    subst hx
    exact ⟨.string ⟨#[]⟩, _, fun W hW => run_convert_bytes_nil (P := P) W src e hs (shapeT_int h.1) _ _ dst (shapeT_str hd), by simp [VR, DRv, DRc], h.2⟩
  · exact h.elim
 
theorem readV_run {S : St} {a : Act} (hf : FR F B w S a) (o : Oper) (h : readV P o.op S K) :
    ∃ v av, (∀ W, Ext w W → (execOp a.eval o).run P W = .ok (.value v) W) ∧ VR w F B S.c av v ∧ K av := by
  obtain ⟨dst, op, ty, pos, after, guard⟩ := o
  cases op <;> simp only [readV] at h <;> try exact h.elim
  case load t x =>
    obtain ⟨v, av, h1, h2, h3⟩ := loadV_run hf (ev_VR hf x) h
    exact ⟨_, _, fun W hW => by simp only [execOp, Sem.run_bind, h1 W hW, Result.andThen_ok, Sem.run_pure], h2, h3⟩
  case convert src dst x =>
    obtain ⟨v, av, h1, h2, h3⟩ := rdBytesV_run hf (ev_VR hf x) h
    exact ⟨_, _, fun W hW => by simp only [execOp, Sem.run_bind, h1 W hW, Result.andThen_ok, Sem.run_pure], h2, h3⟩
end
end Go.Fw
namespace Go.Fw
open Go
set_option linter.unusedVariables false
set_option linter.unusedSimpArgs false
def dropKey (k : Key) (H : List (Key × Nat × AO)) : List (Key × Nat × AO) := H.filter fun x => !(k.isPrefixOf x.1)
theorem dropKey_sub (k : Key) (H : List (Key × Nat × AO)) : (dropKey k H).Sublist H := List.filter_sublist
def updB (B : Blk) (c : Nat) (o : Option (Nat × Nat)) : Blk := fun g => if g = c then o else B g
theorem updB_old {B : Blk} {c : Nat} {o : Option (Nat × Nat)} {g : Nat} (h : g < c) : updB B c o g = B g := by unfold updB; rw [if_neg (by omega)]
theorem updB_new {B : Blk} {c : Nat} {o : Option (Nat × Nat)} : updB B c o c = o := by simp [updB]
theorem blkL_new {B : Blk} {c : Nat} {o : Option (Nat × Nat)} : blkL (updB B c o) c = blkO o := by unfold blkL; rw [updB_new]
def setO : List (Key × Nat × AO) → Key → AO → List (Key × Nat × AO)
  | [], _, _ => []
  | (k', g, o') :: r, k, o => if k' = k then (k', g, o) :: r else (k', g, o') :: setO r k o
theorem OR.mono {w w' : World} {F F' : Nat → Prop} {B B' : Blk} {c c' g : Nat} (hk : ∀ b, F b → w'.heap[b]? = w.heap[b]?) (hF : ∀ b, F b → F' b) (hB : ∀ g, g < c → B' g = B g) (hc : c ≤ c') (hg : g < c) (hown' : ∀ b, b ∈ blkL B g → w'.heap[b]? = w.heap[b]?) :
    ∀ {o : AO}, OR w F B c g o → OR w' F' B' c' g o
  | .row e sz l, h => by
    have hown : ∀ b n, B g = some (b, n) → w'.heap[b]? = w.heap[b]? := fun b n h => hown' b (blkL_of h)
    simp only [OR, hB g hg] at h ⊢
    split at h
    · rename_i hn; simpa [hn] using h
    · rename_i b n hn
      obtain ⟨cs, fr, h1, h2, h3, h4, h5, h6, h7⟩ := h
      exact ⟨cs, fr, by rw [hown b n hn]; exact h1, h2, h3, h4, h5, h6, DRr.mono hk hF _ _ _ h7⟩
  | .box e l, h => by
    have hown : ∀ b n, B g = some (b, n) → w'.heap[b]? = w.heap[b]? := fun b n h => hown' b (blkL_of h)
    simp only [OR, hB g hg] at h ⊢
    obtain ⟨b, n, cs, fr, h1, h2, h3, h4, h5⟩ := h
    exact ⟨b, n, cs, fr, h1, by rw [hown b n h1]; exact h2, h3, h4, VRl.mono hk hF hB hc _ _ h5⟩
  | .iter s pos, h => by
    have hown : ∀ b n, B g = some (b, n) → w'.heap[b]? = w.heap[b]? := fun b n h => hown' b (blkL_of h)
    simp only [OR, hB g hg] at h ⊢
    obtain ⟨b, n, h1, h2⟩ := h
    exact ⟨b, n, h1, by rw [hown b n h1]; exact h2⟩
  | .map es, h => by
    have hown : ∀ b n, B g = some (b, n) → w'.heap[b]? = w.heap[b]? := fun b n h => hown' b (blkL_of h)
    simp only [OR, hB g hg] at h ⊢
    obtain ⟨b, n, ea, h1, h2, h3⟩ := h
    exact ⟨b, n, ea, h1, by rw [hown b n h1]; exact h2, h3.mono hk hF⟩
  | .miter m since last seen cur, h => by
    have hown : ∀ b n, B g = some (b, n) → w'.heap[b]? = w.heap[b]? := fun b n h => hown' b (blkL_of h)
    simp only [OR, hB g hg] at h ⊢
    obtain ⟨hm, b, n, bm, nm, h1, h2, h3, h4⟩ := h
    exact ⟨Nat.lt_of_lt_of_le hm hc, b, n, bm, nm, h1, by rw [hB m hm]; exact h2, by rw [hown b n h1]; exact h3, h4⟩
  | .nest e l, h => by
    simp only [OR, hB g hg] at h ⊢
    split at h
    · rename_i hn; simpa [hn] using h
    · rename_i b n hn
      obtain ⟨cs, fr, h1, h2, h3, h4, h5, h6⟩ := h
      refine ⟨cs, fr, by rw [hown' b (blkL_of hn)]; exact h1, h2, h3, h4, h5, NRl.mono hk hF (fun b' n' hm => hown' b' ?_) h6⟩
      simp only [blkL, blkO, hn, subB]
      exact List.mem_cons_of_mem _ (List.mem_filterMap.2 ⟨_, hm, rfl⟩)
section
variable {F : Nat → Prop} {B : Blk} {w w' : World} {S : St} {a : Act}
 
theorem FR.add (hf : FR F B w S a) {H' : List (Key × Nat × AO)} (hs : H'.Sublist S.H) (hsz : w.heap.size ≤ w'.heap.size) (hF : ∀ b, F b → w'.heap[b]? = w.heap[b]?)
    (hH : ∀ x ∈ H', ∀ b ∈ blkL B x.2.1, w'.heap[b]? = w.heap[b]?) {bo : Option (Nat × Nat)}
    (hbo : ∀ b ∈ blkO bo, ¬ F b ∧ b < w'.heap.size ∧ ∀ x ∈ H', ¬ b ∈ blkL B x.2.1) {k : Key} {o : AO} (hnd : NewOK bo o) (ho : OR w' F (updB B S.c bo) (S.c + 1) S.c o) :
    FR F (updB B S.c bo) w' ⟨S.E, (k, S.c, o) :: H', S.c + 1⟩ a where
  slots t := VR.mono hF (fun _ h => h) (fun g hg => updB_old hg) (Nat.le_succ _) _ _ (hf.slots t)
  objs k' g o' hm := by
    rcases List.mem_cons.1 hm with h | h
    · simp only [Prod.mk.injEq] at h
      obtain ⟨rfl, rfl, rfl⟩ := h
      exact ⟨Nat.lt_succ_self _, ho⟩
    · have := hf.objs k' g o' (hs.subset h)
      exact ⟨Nat.lt_succ_of_lt this.1, OR.mono hF (fun _ h => h) (fun g hg => updB_old hg) (Nat.le_succ _) this.1 (fun b hb => hH _ h b hb) this.2⟩
  sep b := by
    rintro ⟨k', g, o', hm, hb⟩
    rcases List.mem_cons.1 hm with h | h
    · simp only [Prod.mk.injEq] at h
      obtain ⟨rfl, rfl, rfl⟩ := h
      rw [blkL_new] at hb
      exact ⟨(hbo b hb).1, (hbo b hb).2.1⟩
    · have hg := (hf.objs k' g o' (hs.subset h)).1
      rw [blkL_congr (updB_old hg)] at hb
      have := hf.sep b ⟨k', g, o', hs.subset h, hb⟩
      exact ⟨this.1, by omega⟩
  inj := by
    simp only [List.map_cons, List.pairwise_cons]
    refine ⟨fun g hg => ?_, ?_⟩
    · obtain ⟨x, hx, rfl⟩ := List.mem_map.1 hg
      have hlt := (hf.objs x.1 x.2.1 x.2.2 (hs.subset hx)).1
      refine ⟨by omega, fun b h1 h2 => ?_⟩
      rw [blkL_new] at h1
      rw [blkL_congr (updB_old hlt)] at h2
      exact (hbo b h1).2.2 x hx h2
    · have := hf.inj.sublist (hs.map fun x => x.2.1)
      refine List.Pairwise.imp_of_mem (fun {g g'} hg hg' h => ?_) this
      obtain ⟨x, hx, rfl⟩ := List.mem_map.1 hg
      obtain ⟨y, hy, rfl⟩ := List.mem_map.1 hg'
      have hlx := (hf.objs x.1 x.2.1 x.2.2 (hs.subset hx)).1
      have hly := (hf.objs y.1 y.2.1 y.2.2 (hs.subset hy)).1
      refine ⟨h.1, fun b => ?_⟩
      rw [blkL_congr (updB_old hlx), blkL_congr (updB_old hly)]
      exact h.2 b
  own1 x hx := by
    rcases List.mem_cons.1 hx with rfl | h
    · unfold OwnOK; rw [blkL_new]; exact hnd
    · exact (hf.own1 x (hs.subset h)).congr (updB_old (hf.objs x.1 x.2.1 x.2.2 (hs.subset h)).1) id
  Flt := hf.Flt.mono (fun _ h => h) hF (fun b hb => by have := hf.Flt b hb; omega)
  defers := hf.defers
  pin := Nat.le_succ_of_le hf.pin
theorem setO_gens : ∀ (H : List (Key × Nat × AO)) (k : Key) (o : AO), (setO H k o).map (fun x => x.2.1) = H.map fun x => x.2.1
  | [], _, _ => rfl
  | (k', g, o') :: r, k, o => by
    simp only [setO]
    split
    · simp
    · simp [setO_gens r k o]
theorem mem_setO : ∀ {H : List (Key × Nat × AO)} {k : Key} {g : Nat} {o o0 : AO}, objIn H k = some (g, o0) → ∀ x ∈ setO H k o, x = (k, g, o) ∨ (x ∈ H ∧ x.2.1 ≠ g) ∨ (x ∈ H ∧ ¬ (H.map fun x => x.2.1).Nodup)
  | [], k, g, o, o0, h, x, hx => by simp [objIn] at h
  | (k', g', o') :: r, k, g, o, o0, h, x, hx => by
    simp only [objIn] at h
    simp only [setO] at hx
    by_cases hk : k' = k
    · simp only [hk, if_true, Option.some.injEq, Prod.mk.injEq] at h hx
      obtain ⟨rfl, rfl⟩ := h
      rcases List.mem_cons.1 hx with h1 | h1
      · exact .inl h1
      · by_cases hg : x.2.1 = g'
        · refine .inr (.inr ⟨List.mem_cons_of_mem _ h1, fun hn => ?_⟩)
          simp only [List.map_cons, List.nodup_cons] at hn
          exact hn.1 (List.mem_map.2 ⟨x, h1, hg⟩)
        · exact .inr (.inl ⟨List.mem_cons_of_mem _ h1, hg⟩)
    · simp only [hk, if_false] at h hx
      rcases List.mem_cons.1 hx with h1 | h1
      · by_cases hg : x.2.1 = g
        · refine .inr (.inr ⟨by rw [h1]; exact List.mem_cons_self, fun hn => ?_⟩)
          simp only [List.map_cons, List.nodup_cons] at hn
          have := mem_of_objIn h
          refine hn.1 (List.mem_map.2 ⟨_, this, ?_⟩)
          rw [h1] at hg
          exact hg.symm
        · exact .inr (.inl ⟨by rw [h1]; exact List.mem_cons_self, hg⟩)
      · rcases mem_setO h x h1 with h2 | ⟨h2, h3⟩ | ⟨h2, h3⟩
        · exact .inl h2
        · exact .inr (.inl ⟨List.mem_cons_of_mem _ h2, h3⟩)
        · refine .inr (.inr ⟨List.mem_cons_of_mem _ h2, fun hn => h3 ?_⟩)
          simp only [List.map_cons, List.nodup_cons] at hn
          exact hn.2
theorem FR.gensNodup (hf : FR F B w S a) : (S.H.map fun x => x.2.1).Nodup := hf.inj.imp fun h => h.1
 
theorem FR.upd (hf : FR F B w S a) {k : Key} {g : Nat} {o0 o : AO} (hob : objIn S.H k = some (g, o0)) {b : Nat} (hB : b ∈ blkL B g) (hsz : w.heap.size ≤ w'.heap.size) (hw : ∀ i, i < w.heap.size → i ≠ b → w'.heap[i]? = w.heap[i]?)
    (ho : OR w' F B S.c g o) (hne : o.isNest = false → o0.isNest = false := by intro _; rfl) : FR F B w' ⟨S.E, setO S.H k o, S.c⟩ a := by
  have hm := mem_of_objIn hob
  have hFb : ∀ i, F i → w'.heap[i]? = w.heap[i]? := fun i hi => hw i (hf.Flt i hi) fun e => (hf.sep b ⟨k, g, o0, hm, hB⟩).1 (e ▸ hi)
  have hother : ∀ x ∈ S.H, x.2.1 ≠ g → ∀ i ∈ blkL B x.2.1, i ≠ b := by
    intro x hx hne i hi e
    subst e
    have hp := hf.inj
    have h1 : x.2.1 ∈ S.H.map fun x => x.2.1 := List.mem_map.2 ⟨x, hx, rfl⟩
    have h2 : g ∈ S.H.map fun x => x.2.1 := List.mem_map.2 ⟨_, hm, rfl⟩
    have q := List.pairwise_iff_getElem.1 hp
    obtain ⟨i1, hi1, e1⟩ := List.mem_iff_getElem.1 h1
    obtain ⟨i2, hi2, e2⟩ := List.mem_iff_getElem.1 h2
    rcases Nat.lt_trichotomy i1 i2 with hlt | heq | hlt
    · have := q i1 i2 hi1 hi2 hlt
      rw [e1, e2] at this
      exact this.2 _ hi hB
    · subst heq
      exact hne (e1.symm.trans e2)
    · have := q i2 i1 hi2 hi1 hlt
      rw [e1, e2] at this
      exact this.2 _ hB hi
  have hown : ∀ i, Own (setO S.H k o) B i → Own S.H B i := by
    rintro i ⟨k', g', o', hm', hb'⟩
    rcases mem_setO hob _ hm' with h | h | h
    · simp only [Prod.mk.injEq] at h
      obtain ⟨rfl, rfl, rfl⟩ := h
      exact ⟨_, _, _, hm, hb'⟩
    · exact ⟨_, _, _, h.1, hb'⟩
    · exact ⟨_, _, _, h.1, hb'⟩
  refine ⟨fun t => VR.mono hFb (fun _ h => h) (fun _ _ => rfl) (Nat.le_refl _) _ _ (hf.slots t), fun k' g' o' hm' => ?_, fun i hi => ?_, ?_, fun x hx => ?_, hf.Flt.mono (fun _ h => h) hFb (fun i hi => by have := hf.Flt i hi; omega), hf.defers, hf.pin⟩
  · rcases mem_setO hob _ hm' with h | h | h
    · simp only [Prod.mk.injEq] at h
      obtain ⟨rfl, rfl, rfl⟩ := h
      exact ⟨(hf.objs _ _ _ hm).1, ho⟩
    · have := hf.objs _ _ _ h.1
      exact ⟨this.1, OR.mono hFb (fun _ h => h) (fun _ _ => rfl) (Nat.le_refl _) this.1 (fun i hi => hw i (hf.sep i ⟨_, _, _, h.1, hi⟩).2 (hother _ h.1 h.2 i hi)) this.2⟩
    · exact absurd hf.gensNodup h.2
  · have := hf.sep i (hown i hi)
    exact ⟨this.1, by omega⟩
  · rw [setO_gens]
    exact hf.inj
  · rcases mem_setO hob _ hx with h | h | h
    · subst h; exact (hf.own1 _ hm).congr rfl hne
    · exact hf.own1 _ h.1
    · exact hf.own1 _ h.1
end
end Go.Fw
namespace Go.Fw
open Go
set_option linter.unusedVariables false
set_option linter.unusedSimpArgs false
 
def NE.toD : NE → D
  | .d x => x
  | .row _ sz l => .sl sz l
  | .hole => .nilp
def noHole : List NE → Bool
  | [] => true
  | .hole :: _ => false
  | _ :: r => noHole r
mutual
 
def toD (P : Program) (H : List (Key × Nat × AO)) : Nat → AV → Option (D × List Key)
  | 0, _ => none
  | n + 1, .d x => some (x, [])
  | n + 1, .nils => some (.sl 0 [], [])
  | n + 1, .ref k g sz off len => match objIn H k with
    | some (g', .row _ z l) => if g' = g ∧ z = sz ∧ off + len ≤ l.length then some (.sl sz ((l.drop off).take len), [k]) else none
    | _ => none
  | n + 1, .addr k g c => match objIn H k with
    | some (g', .box e l) => if g' = g ∧ c = 0 then match toDl P H n l with
        | some (xs, ks) => match aggT P e with
          | some true => some (.ptr (.agg xs), k :: ks)
          | some false => match xs with
            | [y] => some (.ptr y, k :: ks)
            | _ => none
          | none => none
        | none => none
      else none
    | _ => none
  | n + 1, .nref k g len => match objIn H k with
    | some (g', .nest _ l) => if g' = g ∧ len = l.length ∧ noHole l = true then some (.sl 1 (l.map NE.toD), [k]) else none
    | _ => none
  | n + 1, .agg l => match toDl P H n l with
    | some (xs, ks) => some (.agg xs, ks)
    | none => none
  | n + 1, .clo fn f c => if cellsOK f && cellsOK c then match toDl P H n f, toDl P H n c with
    | some (fs, k1), some (cs, k2) => some (.clo fn fs cs, k1 ++ k2)
    | _, _ => none
    else none
  | n + 1, _ => none
def toDl (P : Program) (H : List (Key × Nat × AO)) : Nat → List AV → Option (List D × List Key)
  | 0, _ => none
  | n + 1, [] => some ([], [])
  | n + 1, x :: r => match toD P H n x, toDl P H n r with
    | some (y, k1), some (ys, k2) => some (y :: ys, k1 ++ k2)
    | _, _ => none
end
 
def FK (H : List (Key × Nat × AO)) (B : Blk) (ks : List Key) (b : Nat) : Prop := ∃ k g o, k ∈ ks ∧ (k, g, o) ∈ H ∧ b ∈ blkL B g
theorem FK.of {H : List (Key × Nat × AO)} {B : Blk} {ks : List Key} {b n : Nat} {k : Key} {g : Nat} {o : AO} (hk : k ∈ ks) (hm : (k, g, o) ∈ H) (hB : B g = some (b, n)) : FK H B ks b := ⟨k, g, o, hk, hm, blkL_of hB⟩
section
variable {P : Program} {F : Nat → Prop} {B : Blk} {w : World} {S : St} {a : Act}
theorem toD_isAgg {n : Nat} {x : AV} {y : D} {ks : List Key} (h : toD P S.H n x = some (y, ks)) (hc : x.cell = true) : y.isAgg = false := by
  cases n with
  | zero => simp [toD] at h
  | succ n =>
    cases x <;> simp only [toD] at h
    case d x => simp only [Option.some.injEq, Prod.mk.injEq] at h; obtain ⟨rfl, _⟩ := h; simpa [AV.cell] using hc
    case nils => simp only [Option.some.injEq, Prod.mk.injEq] at h; obtain ⟨rfl, _⟩ := h; rfl
    case ref => split at h <;> (try split at h) <;> simp_all; obtain ⟨rfl, _⟩ := h; rfl
    case addr =>
      split at h
      · split at h
        · split at h
          · split at h
            · simp only [Option.some.injEq, Prod.mk.injEq] at h; obtain ⟨rfl, _⟩ := h; rfl
            · split at h
              · simp only [Option.some.injEq, Prod.mk.injEq] at h; obtain ⟨rfl, _⟩ := h; rfl
              · cases h
            · cases h
          · cases h
        · cases h
      · cases h
    case nref => split at h <;> (try split at h) <;> simp_all; obtain ⟨rfl, _⟩ := h; rfl
    case agg => simp [AV.cell] at hc
    case clo =>
      split at h
      · split at h
        · simp only [Option.some.injEq, Prod.mk.injEq] at h; obtain ⟨rfl, _⟩ := h; rfl
        · cases h
      · cases h
    all_goals simp at h
theorem FK_mono {H : List (Key × Nat × AO)} {ks ks' : List Key} (h : ∀ k, k ∈ ks → k ∈ ks') {b : Nat} (hb : FK H B ks b) : FK H B ks' b := by
  obtain ⟨k, g, o, h1, h2, h3⟩ := hb
  exact ⟨k, g, o, h _ h1, h2, h3⟩
theorem DRv_mono_F {F' : Nat → Prop} (hF : ∀ b, F b → F' b) {x : D} {v : Value} (h : DRv w F x v) : DRv w F' x v := h.mono (fun _ _ => rfl) hF
theorem NRl_DRr {F' : Nat → Prop} (hF : ∀ b, F b → F' b) : ∀ {l : List NE} {is : List Info} {vs : List Value}, NRl w F l is vs → noHole l = true → (∀ b n, some (b, n) ∈ is → F' b) → DRr w F' 1 (l.map NE.toD) vs
  | [], is, vs, h, _, _ => by obtain ⟨rfl, rfl⟩ := h; simp [DRr]
  | x :: r, is, vs, h, hh, hi => by
    obtain ⟨i, is', v, vs', rfl, rfl, h1, h2⟩ := h
    simp only [List.map_cons, DRr]
    have hr : noHole r = true := by cases x <;> first | exact hh | cases hh
    refine ⟨[v], vs', rfl, rfl, ?_, NRl_DRr hF h2 hr fun b n hm => hi b n (List.mem_cons_of_mem _ hm)⟩
    cases x with
    | d x => simp only [NR] at h1; exact DRc.mono (fun _ _ => rfl) hF _ _ h1.2.2
    | hole => cases hh
    | row e sz l =>
      simp only [NR] at h1
      simp only [NE.toD, DRc]
      cases i with
      | none => obtain ⟨rfl, rfl⟩ := h1; exact ⟨none, 0, rfl, Nat.le_refl _, Nat.zero_le _, .inl rfl⟩
      | some q =>
        obtain ⟨b, n⟩ := q
        obtain ⟨rfl, cs, fr, k1, k2, k3, k4, k5, k6, k7⟩ := h1
        have hc := Cells_of_block k1 0 (l.length * sz)
        rw [List.drop_zero] at hc
        exact ⟨some ⟨b, 0, none⟩, n, rfl, k5, k6, .inr ⟨_, _, rfl, hi b n (List.mem_cons_self ..), hc, DRr.mono (fun _ _ => rfl) hF _ _ _ k7⟩⟩
mutual
theorem toD_DR (hf : FR F B w S a) : ∀ (n : Nat) (x : AV) (y : D) (ks : List Key) (v : Value), toD P S.H n x = some (y, ks) → VR w F B S.c x v → DRv w (fun b => F b ∨ FK S.H B ks b) y v
  | 0, x, y, ks, v, h, hv => by simp [toD] at h
  | n + 1, .d x, y, ks, v, h, hv => by
    simp only [toD, Option.some.injEq, Prod.mk.injEq] at h
    obtain ⟨rfl, rfl⟩ := h
    simp only [VR] at hv
    exact DRv_mono_F (fun b => .inl) hv
  | n + 1, .nils, y, ks, v, h, hv => by
    simp only [toD, Option.some.injEq, Prod.mk.injEq] at h
    obtain ⟨rfl, rfl⟩ := h
    simp only [VR] at hv
    subst hv
    simp only [DRv, DRc]
    exact ⟨none, 0, rfl, Nat.le_refl _, Nat.zero_le _, .inl (by simp)⟩
  | n + 1, .ref k g sz off len, y, ks, v, h, hv => by
    simp only [toD] at h
    split at h
    · rename_i g' e z l hob
      split at h
      · rename_i hc
        obtain ⟨rfl, rfl, hol⟩ := hc
        simp only [Option.some.injEq, Prod.mk.injEq] at h
        obtain ⟨rfl, rfl⟩ := h
        have hor := hf.objsIn hob
        simp only [VR] at hv
        obtain ⟨hg, hv⟩ := hv
        have hlen : ((l.drop off).take len).length = len := by simp; omega
        simp only [DRv, DRc]
        split at hv
        · obtain ⟨rfl, rfl, rfl⟩ := hv
          exact ⟨none, 0, by simp, by simp, by simp, .inl (by simp)⟩
        · rename_i b m hB
          obtain ⟨ad, rfl, hcap, had⟩ := hv
          simp only [OR, hB] at hor
          obtain ⟨cs, fr, hh, hun, hz0, hcs, hln, hmx, hdr⟩ := hor
          refine ⟨some ad, m - off, by rw [hlen], by rw [hlen]; omega, by omega, ?_⟩
          rcases had with rfl | ⟨rfl, _⟩
          · refine .inr ⟨_, (cs.toList.drop (off * z)).take (len * z), rfl, .inr (FK.of (by simp) (mem_of_objIn hob) hB), Cells_of_block hh _ _, ?_⟩
            have := (hdr.drop off).take len
            have e1 : ((cs.toList.take (l.length * z)).drop (off * z)).take (len * z) = (cs.toList.drop (off * z)).take (len * z) := by
              have h6 : (off + len) * z ≤ l.length * z := Nat.mul_le_mul_right _ hol
              rw [Nat.add_mul] at h6
              rw [List.drop_take, List.take_take, Nat.min_eq_left (by omega)]
            rw [e1] at this
            exact DRr.mono (fun _ _ => rfl) (fun b hb => .inl hb) _ _ _ this
          · exact .inl (by simp)
      · cases h
    · cases h
  | n + 1, .addr k g c, y, ks, v, h, hv => by
    simp only [toD] at h
    split at h
    · rename_i g' e l hob
      split at h
      · rename_i hc
        obtain ⟨rfl, rfl⟩ := hc
        have hor := hf.objsIn hob
        simp only [OR] at hor
        obtain ⟨b, m, cs, fr, hB, hh, hun, hco, hvl⟩ := hor
        simp only [VR] at hv
        obtain ⟨hg, b', m', hB', rfl⟩ := hv
        rw [hB] at hB'
        simp only [Option.some.injEq, Prod.mk.injEq] at hB'
        obtain ⟨rfl, rfl⟩ := hB'
        have hFb : ∀ ks : List Key, FK S.H B (k :: ks) b := fun ks => FK.of (by simp) (mem_of_objIn hob) hB
        have hcells : Cells w ⟨b, 0, none⟩ cs.toList := by
          have := Cells_of_block hh 0 cs.toList.length
          rwa [List.drop_zero, List.take_length] at this
        split at h
        · rename_i xs ks' hxs
          have hD := toDl_DR hf n l xs ks' cs.toList hxs hco hvl
          split at h
          · simp only [Option.some.injEq, Prod.mk.injEq] at h
            obtain ⟨rfl, rfl⟩ := h
            simp only [DRv, DRc]
            exact ⟨_, _, rfl, .inr (hFb ks'), hcells, DRl.mono (fun _ _ => rfl) (fun b hb => hb.imp id (FK_mono fun k hk => List.mem_cons_of_mem _ hk)) _ _ hD⟩
          · split at h
            · rename_i y' hxs'
              simp only [Option.some.injEq, Prod.mk.injEq] at h
              obtain ⟨rfl, rfl⟩ := h
              simp only [DRl] at hD
              obtain ⟨v1, _, hcs, h0, h1, rfl⟩ := hD
              simp only [DRv, DRc]
              refine ⟨_, _, rfl, .inr (hFb ks'), hcells, ?_⟩
              rw [hcs]
              exact DRc.mono (fun _ _ => rfl) (fun b hb => hb.imp id (FK_mono fun k hk => List.mem_cons_of_mem _ hk)) _ _ h1
            · cases h
          · cases h
        · cases h
      · cases h
    · cases h
  | n + 1, .nref k g len, y, ks, v, h, hv => by
    simp only [toD] at h
    split at h
    · rename_i g' e l hob
      split at h
      · rename_i hc
        obtain ⟨rfl, rfl, hnh⟩ := hc
        simp only [Option.some.injEq, Prod.mk.injEq] at h
        obtain ⟨rfl, rfl⟩ := h
        have hor := hf.objsIn hob
        simp only [VR] at hv
        obtain ⟨hg, hv⟩ := hv
        simp only [OR] at hor
        simp only [DRv, DRc, List.length_map]
        cases hB : B g' with
        | none =>
          rw [hB] at hv hor
          simp only at hv hor
          subst hor
          exact ⟨none, 0, by rw [hv.1]; rfl, by simp, Nat.zero_le _, .inl rfl⟩
        | some p =>
          obtain ⟨b, m⟩ := p
          rw [hB] at hv hor
          simp only at hv hor
          subst hv
          obtain ⟨cs, fr, h1, h2, h3, h4, h5, h6⟩ := hor
          have hFK : ∀ b', b' ∈ blkL B g' → FK S.H B [k] b' := fun b' hb' => ⟨k, g', _, by simp, mem_of_objIn hob, hb'⟩
          have hc := Cells_of_block h1 0 l.length
          rw [List.drop_zero] at hc
          refine ⟨_, _, rfl, h4, h5, .inr ⟨_, _, rfl, .inr (hFK b (blkL_of hB)), hc, NRl_DRr (fun b => .inl) h6 hnh fun b' n hm => .inr (hFK b' ?_)⟩⟩
          simp only [blkL, blkO, hB, subB]
          exact List.mem_cons_of_mem _ (List.mem_filterMap.2 ⟨_, hm, rfl⟩)
      · cases h
    · cases h
  | n + 1, .agg l, y, ks, v, h, hv => by
    simp only [toD] at h
    split at h
    · rename_i xs ks' hxs
      simp only [Option.some.injEq, Prod.mk.injEq] at h
      obtain ⟨rfl, rfl⟩ := h
      simp only [VR] at hv
      obtain ⟨cs, rfl, hco, hvl⟩ := hv
      simp only [DRv]
      exact ⟨cs, rfl, toDl_DR hf n l xs _ _ hxs hco hvl⟩
    · cases h
  | n + 1, .clo fn f c, y, ks, v, h, hv => by
    simp only [toD] at h
    split at h
    · rename_i hcc
      simp only [Bool.and_eq_true] at hcc
      split at h
      · rename_i fs k1 cs k2 h1 h2
        simp only [Option.some.injEq, Prod.mk.injEq] at h
        obtain ⟨rfl, rfl⟩ := h
        simp only [VR] at hv
        obtain ⟨fv, cv, rfl, hf', hc'⟩ := hv
        simp only [DRv, DRc]
        exact ⟨fv, cv, rfl, DRl.mono (fun _ _ => rfl) (fun b hb => hb.imp id (FK_mono fun k hk => List.mem_append_left _ hk)) _ _ (toDl_DR hf n f fs k1 _ h1 hcc.1 hf'),
          DRl.mono (fun _ _ => rfl) (fun b hb => hb.imp id (FK_mono fun k hk => List.mem_append_right _ hk)) _ _ (toDl_DR hf n c cs k2 _ h2 hcc.2 hc')⟩
      · cases h
    · cases h
  | n + 1, .elt .., y, ks, v, h, hv => by simp [toD] at h
  | n + 1, .tup _, y, ks, v, h, hv => by simp [toD] at h
  | n + 1, .dead, y, ks, v, h, hv => by simp [toD] at h
  | n + 1, .opt .., y, ks, v, h, hv => by simp [toD] at h
theorem toDl_DR (hf : FR F B w S a) : ∀ (n : Nat) (l : List AV) (xs : List D) (ks : List Key) (vs : List Value), toDl P S.H n l = some (xs, ks) → cellsOK l = true → VRl w F B S.c l vs → DRl w (fun b => F b ∨ FK S.H B ks b) xs vs
  | 0, l, xs, ks, vs, h, hc, hv => by simp [toDl] at h
  | n + 1, [], xs, ks, vs, h, hc, hv => by
    simp only [toDl, Option.some.injEq, Prod.mk.injEq] at h
    obtain ⟨rfl, rfl⟩ := h
    simpa [VRl, DRl] using hv
  | n + 1, x :: r, xs, ks, vs, h, hc, hv => by
    simp only [toDl] at h
    split at h
    · rename_i y k1 ys k2 h1 h2
      simp only [Option.some.injEq, Prod.mk.injEq] at h
      obtain ⟨rfl, rfl⟩ := h
      simp only [VRl] at hv
      obtain ⟨v, vs', rfl, hv1, hv2⟩ := hv
      simp only [cellsOK, Bool.and_eq_true] at hc
      have ha := toD_isAgg h1 hc.1
      simp only [DRl]
      exact ⟨v, vs', rfl, ha, cell_of_DRv ha (DRv_mono_F (fun b hb => hb.imp id (FK_mono fun k hk => List.mem_append_left _ hk)) (toD_DR hf n x y k1 v h1 hv1)),
        DRl.mono (fun _ _ => rfl) (fun b hb => hb.imp id (FK_mono fun k hk => List.mem_append_right _ hk)) _ _ (toDl_DR hf n r ys k2 vs' h2 hc.2 hv2)⟩
    · cases h
end
mutual
 
def frzAV (H : List (Key × Nat × AO)) (ks : List Key) : AV → AV
  | .ref k g sz off len => if k ∈ ks then match objIn H k with
      | some (g', .row _ z l) => if g' = g ∧ z = sz ∧ off + len ≤ l.length then .d (.sl sz ((l.drop off).take len)) else .ref k g sz off len
      | _ => .ref k g sz off len
    else .ref k g sz off len
  | .agg l => .agg (frzAVs H ks l)
  | .tup l => .tup (frzAVs H ks l)
  | .clo fn f c => .clo fn (frzAVs H ks f) (frzAVs H ks c)
  | .opt q x => .opt q (frzAV H ks x)
  | x => x
def frzAVs (H : List (Key × Nat × AO)) (ks : List Key) : List AV → List AV
  | [] => []
  | x :: r => frzAV H ks x :: frzAVs H ks r
end
def frzAO (H : List (Key × Nat × AO)) (ks : List Key) : AO → AO
  | .box e l => .box e (frzAVs H ks l)
  | o => o
def frzH (H : List (Key × Nat × AO)) (ks : List Key) : List (Key × Nat × AO) → List (Key × Nat × AO)
  | [] => []
  | (k, g, o) :: r => bif decide (k ∈ ks) then frzH H ks r else (k, g, frzAO H ks o) :: frzH H ks r
def St.freeze (S : St) (ks : List Key) : St := match ks with
  | [] => S
  | ks => { S with E := S.E.map fun p => (p.1, frzAV S.H ks p.2), H := frzH S.H ks S.H }
theorem frz_cell (H : List (Key × Nat × AO)) (ks : List Key) {x : AV} (h : x.cell = true) : (frzAV H ks x).cell = true := by
  cases x <;> try exact h
  case ref k g sz off len =>
    simp only [frzAV]
    split
    · split
      · split
        · rfl
        · rfl
      · rfl
    · rfl
theorem frz_cells (H : List (Key × Nat × AO)) (ks : List Key) : ∀ {l : List AV}, cellsOK l = true → cellsOK (frzAVs H ks l) = true
  | [], _ => rfl
  | x :: r, h => by
    simp only [cellsOK, Bool.and_eq_true] at h
    simp only [frzAVs, cellsOK, frz_cell H ks h.1, frz_cells H ks h.2, Bool.and_self]
theorem frzH_mem {H : List (Key × Nat × AO)} {ks : List Key} : ∀ {L : List (Key × Nat × AO)} {x : Key × Nat × AO}, x ∈ frzH H ks L → ¬ x.1 ∈ ks ∧ ∃ o, (x.1, x.2.1, o) ∈ L ∧ x.2.2 = frzAO H ks o
  | [], x, h => by simp [frzH] at h
  | (k, g, o) :: r, x, h => by
    simp only [frzH] at h
    by_cases hk : k ∈ ks
    · rw [decide_eq_true hk, cond_true] at h
      obtain ⟨h1, o', h2, h3⟩ := frzH_mem h
      exact ⟨h1, o', List.mem_cons_of_mem _ h2, h3⟩
    · rw [decide_eq_false hk, cond_false] at h
      rcases List.mem_cons.1 h with rfl | h
      · exact ⟨hk, o, List.mem_cons_self .., rfl⟩
      · obtain ⟨h1, o', h2, h3⟩ := frzH_mem h
        exact ⟨h1, o', List.mem_cons_of_mem _ h2, h3⟩
theorem frzH_gens {H : List (Key × Nat × AO)} {ks : List Key} : ∀ (L : List (Key × Nat × AO)), ((frzH H ks L).map fun x => x.2.1).Sublist (L.map fun x => x.2.1)
  | [] => List.Sublist.refl _
  | (k, g, o) :: r => by
    simp only [frzH]
    by_cases hk : k ∈ ks
    · rw [decide_eq_true hk, cond_true]
      exact (frzH_gens r).cons _
    · rw [decide_eq_false hk, cond_false]
      exact (frzH_gens r).cons_cons _
theorem getIn_map (f : AV → AV) (hf : f .dead = .dead) : ∀ (E : List (Nat × AV)) (t : Nat), getIn (E.map fun p => (p.1, f p.2)) t = f (getIn E t)
  | [], t => by simp [getIn, hf]
  | (k, v) :: r, t => by
    simp only [List.map_cons, getIn]
    split
    · rfl
    · exact getIn_map f hf r t
theorem same_entry {H : List (Key × Nat × AO)} (hn : (H.map fun x => x.2.1).Nodup) {x y : Key × Nat × AO} (hx : x ∈ H) (hy : y ∈ H) (h : x.2.1 = y.2.1) : x = y := by
  obtain ⟨i, hi, rfl⟩ := List.mem_iff_getElem.1 hx
  obtain ⟨j, hj, rfl⟩ := List.mem_iff_getElem.1 hy
  have := (List.getElem_inj (i := i) (j := j) (h₀ := by simpa using hi) (h₁ := by simpa using hj) hn).1 (by simpa using h)
  subst this
  rfl
theorem FR.apartL (hf : FR F B w S a) {x y : Key × Nat × AO} (hx : x ∈ S.H) (hy : y ∈ S.H) (hne : x.2.1 ≠ y.2.1) {b : Nat} (h1 : b ∈ blkL B x.2.1) : ¬ b ∈ blkL B y.2.1 := by
  intro h2
  have q := List.pairwise_iff_getElem.1 hf.inj
  obtain ⟨i1, hi1, e1⟩ := List.mem_iff_getElem.1 (List.mem_map.2 ⟨x, hx, rfl⟩ : x.2.1 ∈ S.H.map fun x => x.2.1)
  obtain ⟨i2, hi2, e2⟩ := List.mem_iff_getElem.1 (List.mem_map.2 ⟨y, hy, rfl⟩ : y.2.1 ∈ S.H.map fun x => x.2.1)
  rcases Nat.lt_trichotomy i1 i2 with hlt | heq | hlt
  · have := q i1 i2 hi1 hi2 hlt
    rw [e1, e2] at this
    exact this.2 _ h1 h2
  · subst heq
    exact hne (e1.symm.trans e2)
  · have := q i2 i1 hi2 hi1 hlt
    rw [e1, e2] at this
    exact this.2 _ h2 h1
theorem FR.apart (hf : FR F B w S a) {x y : Key × Nat × AO} (hx : x ∈ S.H) (hy : y ∈ S.H) (hne : x.2.1 ≠ y.2.1) {b n m : Nat} (h1 : B x.2.1 = some (b, n)) : B y.2.1 ≠ some (b, m) := fun h2 => hf.apartL hx hy hne (blkL_of h1) (blkL_of h2)
mutual
theorem frz_VR (hf : FR F B w S a) (ks : List Key) : ∀ (x : AV) (v : Value), VR w F B S.c x v → VR w (fun b => F b ∨ FK S.H B ks b) B S.c (frzAV S.H ks x) v
  | .ref k g sz off len, v, hs => by
    have hm : VR w (fun b => F b ∨ FK S.H B ks b) B S.c (.ref k g sz off len) v := VR.mono (fun _ _ => rfl) (fun b => .inl) (fun _ _ => rfl) (Nat.le_refl _) _ v hs
    simp only [frzAV]
    split
    · rename_i hk
      split
      · rename_i g' e' z l hob
        split
        · rename_i hc
          have htd : toD (default : Program) S.H 1 (.ref k g sz off len) = some (.sl sz ((l.drop off).take len), [k]) := by
            simp only [toD, hob, if_pos hc]
          have := toD_DR hf 1 _ _ _ _ htd hs
          simp only [VR]
          exact DRv_mono_F (fun b hb => hb.imp id (FK_mono fun k' hk' => by simp at hk'; rw [hk']; exact hk)) this
        · exact hm
      · exact hm
    · exact hm
  | .agg l, v, hs => by
    simp only [VR] at hs
    simp only [frzAV, VR]
    obtain ⟨cs, e, h0, h⟩ := hs
    exact ⟨cs, e, frz_cells _ _ h0, frz_VRl hf ks l _ h⟩
  | .tup l, v, hs => by
    simp only [VR] at hs
    simp only [frzAV, VR]
    obtain ⟨cs, e, h⟩ := hs
    exact ⟨cs, e, frz_VRl hf ks l _ h⟩
  | .clo fn f cp, v, hs => by
    simp only [VR] at hs
    simp only [frzAV, VR]
    obtain ⟨fv, cv, e, h1, h2⟩ := hs
    exact ⟨fv, cv, e, frz_VRl hf ks f _ h1, frz_VRl hf ks cp _ h2⟩
  | .opt q x, v, hs => by
    simp only [VR] at hs
    simp only [frzAV, VR]
    exact ⟨fun hq => frz_VR hf ks x _ (hs.1 hq), hs.2⟩
  | .d x, v, hs => VR.mono (fun _ _ => rfl) (fun b => .inl) (fun _ _ => rfl) (Nat.le_refl _) _ v hs
  | .nils, v, hs => VR.mono (fun _ _ => rfl) (fun b => .inl) (fun _ _ => rfl) (Nat.le_refl _) _ v hs
  | .elt .., v, hs => VR.mono (fun _ _ => rfl) (fun b => .inl) (fun _ _ => rfl) (Nat.le_refl _) _ v hs
  | .addr .., v, hs => VR.mono (fun _ _ => rfl) (fun b => .inl) (fun _ _ => rfl) (Nat.le_refl _) _ v hs
  | .mp .., v, hs => VR.mono (fun _ _ => rfl) (fun b => .inl) (fun _ _ => rfl) (Nat.le_refl _) _ v hs
  | .nref .., v, hs => VR.mono (fun _ _ => rfl) (fun b => .inl) (fun _ _ => rfl) (Nat.le_refl _) _ v hs
  | .sub .., v, hs => VR.mono (fun _ _ => rfl) (fun b => .inl) (fun _ _ => rfl) (Nat.le_refl _) _ v hs
  | .selt .., v, hs => VR.mono (fun _ _ => rfl) (fun b => .inl) (fun _ _ => rfl) (Nat.le_refl _) _ v hs
  | .dead, v, hs => by simp [frzAV, VR]
theorem frz_VRl (hf : FR F B w S a) (ks : List Key) : ∀ (l : List AV) (vs : List Value), VRl w F B S.c l vs → VRl w (fun b => F b ∨ FK S.H B ks b) B S.c (frzAVs S.H ks l) vs
  | [], vs, hs => by simpa [VRl, frzAVs] using hs
  | x :: r, vs, hs => by
    simp only [VRl] at hs
    simp only [frzAVs, VRl]
    obtain ⟨v, vs', e, h1, h2⟩ := hs
    exact ⟨v, vs', e, frz_VR hf ks x v h1, frz_VRl hf ks r vs' h2⟩
end
theorem FR.freeze (hf : FR F B w S a) (ks : List Key) : FR (fun b => F b ∨ FK S.H B ks b) B w (S.freeze ks) a := by
  cases ks with
  | nil =>
    have : (fun b => F b ∨ FK S.H B [] b) = F := by
      funext b
      refine propext ⟨fun h => h.elim id ?_, .inl⟩
      rintro ⟨k, g, o, h, _⟩
      simp at h
    rw [this]
    exact hf
  | cons k0 kr =>
    generalize hks : k0 :: kr = ks at *
    have e : S.freeze ks = { S with E := S.E.map fun p => (p.1, frzAV S.H ks p.2), H := frzH S.H ks S.H } := by subst hks; rfl
    rw [e]
    refine ⟨fun t => ?_, fun k g o hm => ?_, fun b hb => ?_, hf.inj.sublist (frzH_gens S.H), fun x hx => ?_, ?_, hf.defers, hf.pin⟩
    · rw [getIn_map _ rfl]
      exact frz_VR hf ks _ _ (hf.slots t)
    · obtain ⟨hk, o', hm', ho⟩ := frzH_mem hm
      simp only at hm' ho
      have h1 := hf.objs k g o' hm'
      have h2 := OR.mono (w' := w) (F' := fun b => F b ∨ FK S.H B ks b) (fun _ _ => rfl) (fun b => .inl) (fun _ _ => rfl) (Nat.le_refl _) h1.1 (fun _ _ => rfl) h1.2
      refine ⟨h1.1, ?_⟩
      subst ho
      cases o' with
      | box e l =>
        have h3 := h1.2
        simp only [OR] at h3
        simp only [frzAO, OR]
        obtain ⟨b, n, cs, fr, hB, hh, hu, hc, hl⟩ := h3
        exact ⟨b, n, cs, fr, hB, hh, hu, frz_cells _ _ hc, frz_VRl hf ks l _ hl⟩
      | row e z l => exact h2
      | iter s p => exact h2
      | map es => exact h2
      | miter m s2 t2 l2 u2 => exact h2
      | nest e l => exact h2
    · obtain ⟨k, g, o, hm, hB⟩ := hb
      obtain ⟨hkn, o', hm', ho⟩ := frzH_mem hm
      simp only at hm' hkn
      have := hf.sep b ⟨k, g, o', hm', hB⟩
      refine ⟨fun h => h.elim this.1 ?_, this.2⟩
      rintro ⟨k2, g2, o2, hk2, hm2, hB2⟩
      by_cases hg : g = g2
      · have := same_entry hf.gensNodup hm' hm2 hg
        simp only [Prod.mk.injEq] at this
        exact hkn (this.1 ▸ hk2)
      · exact hf.apartL hm' hm2 hg hB hB2
    · obtain ⟨_, o', hm', ho⟩ := frzH_mem hx
      exact (hf.own1 _ hm').congr rfl fun h => by rw [ho] at h; cases o' <;> first | rfl | exact h
    · refine hf.Flt.mono (fun _ h => .inl h) (fun _ _ => rfl) fun b hb => ?_
      rcases hb with hb | ⟨k, g, o, _, hm, hB⟩
      · exact hf.Flt b hb
      · exact (hf.sep b ⟨k, g, o, hm, hB⟩).2
end
end Go.Fw
namespace Go.Fw
open Go
set_option linter.unusedVariables false
set_option linter.unusedSimpArgs false
def St.newObj (S : St) (d : Nat) (o : AO) (v : AV) : St := { E := putIn S.E d v, H := ([d], S.c, o) :: dropKey [d] S.H, c := S.c + 1 }
theorem freeze_c (S : St) (ks : List Key) : (S.freeze ks).c = S.c := by cases ks <;> rfl
theorem freeze_H (S : St) (ks : List Key) : ∀ x ∈ (S.freeze ks).H, ∃ o, (x.1, x.2.1, o) ∈ S.H := by
  intro x hx
  cases ks with
  | nil => exact ⟨_, hx⟩
  | cons k r =>
    obtain ⟨_, o, h, _⟩ := frzH_mem hx
    exact ⟨o, h⟩
theorem freeze_own {S : St} {ks : List Key} {B : Blk} {b : Nat} {H : List (Key × Nat × AO)} (hs : ∀ x ∈ H, x ∈ (S.freeze ks).H) (h : Own H B b) : Own S.H B b := by
  obtain ⟨k, g, o, hm, hB⟩ := h
  obtain ⟨o', h'⟩ := freeze_H S ks _ (hs _ hm)
  exact ⟨k, g, o', h', hB⟩
def elemsP (b : Bool) (sz : Nat) : List D → Prop
  | [] => True
  | x :: r => x.isAgg = b ∧ x.ncells = sz ∧ elemsP b sz r
def seqParts : Nat → List Nat → Bool
  | _, [] => true
  | j, i :: r => i == j && seqParts (j + 1) r
 
def zeroD (P : Program) (e : TypeId) : Option D := match zeroI P e, aggT P e with
  | some z, some b => match toDl P [] 99 z with
    | some (xs, []) => if cellsOK z then if b then some (.agg xs) else match xs with
      | [y] => some y
      | _ => none
      else none
    | _ => none
  | _, _ => none
section
variable {P : Program} {F : Nat → Prop} {B : Blk} {w w' : World} {S : St} {a : Act} {N : Nat}
theorem newObj_TrG (hf : FR F B w S a) (hN : a.tmps.size = N) {d : Nat} (hd : dstOK N (some d) = true) (ks : List Key) (hext : Ext w w') (hos : w'.os = w.os) (htp : w'.tape = w.tape) (hout : w'.output = w.output)
    {bo : Option (Nat × Nat)} (hbo : ∀ b ∈ blkO bo, w.heap.size ≤ b ∧ b < w'.heap.size) {o : AO} {v : Value} {av : AV} (hnd : NewOK bo o)
    (hor : OR w' (fun b => F b ∨ FK S.H B ks b) (updB B S.c bo) (S.c + 1) S.c o) (hv : VR w' (fun b => F b ∨ FK S.H B ks b) (updB B S.c bo) (S.c + 1) av v) :
    Tr N F B w S (fun b => F b ∨ FK S.H B ks b) (updB B S.c bo) w' ((S.freeze ks).newObj d o av) (a.put (some d) v) := by
  have hf1 := hf.freeze ks
  have hown : ∀ x ∈ S.H, ∀ b ∈ blkL B x.2.1, b < w.heap.size := fun x hx b hb => (hf.sep b ⟨x.1, x.2.1, x.2.2, hx, hb⟩).2
  have hsub := freeze_H S ks
  have hsub2 := (dropKey_sub [d] (S.freeze ks).H)
  have hf2 : FR (fun b => F b ∨ FK S.H B ks b) (updB B S.c bo) w' ⟨(S.freeze ks).E, ([d], S.c, o) :: dropKey [d] (S.freeze ks).H, S.c + 1⟩ a := by
    have := FR.add (w' := w') (bo := bo) (k := [d]) (o := o) hf1 hsub2 hext.size (fun b hb => hext b (hf1.Flt b hb))
      (fun x hx b hb => hext b (by obtain ⟨o', h'⟩ := hsub x (hsub2.subset hx); exact hown _ h' b hb))
      (fun b hb => ⟨fun hF => by have := hf1.Flt b hF; have := (hbo b hb).1; omega, (hbo b hb).2, fun x hx hx' => by
        have h1 : b < w.heap.size := by obtain ⟨o', h'⟩ := hsub x (hsub2.subset hx); exact hown _ h' b hx'
        have h2 := (hbo b hb).1
        omega⟩) hnd (by rw [freeze_c]; exact hor)
    rw [freeze_c] at this
    exact this
  have hf3 := hf2.put (S := ⟨(S.freeze ks).E, ([d], S.c, o) :: dropKey [d] (S.freeze ks).H, S.c + 1⟩) hN hd hv
  have e : (S.freeze ks).newObj d o av = St.put ⟨(S.freeze ks).E, ([d], S.c, o) :: dropKey [d] (S.freeze ks).H, S.c + 1⟩ (some d) av := by
    simp [St.newObj, St.put, freeze_c]
  rw [e]
  refine ⟨hf3, by rw [Act.put_size]; exact hN, fun b => .inl, fun b hb _ => hext b hb, fun b hb => ?_, hos, htp, hout, hext.size, fun g hg => updB_old (Nat.lt_of_lt_of_le hg hf.pin)⟩
  rcases hb with (hb | ⟨k, g, o', _, hm, hB⟩) | ⟨k, g, o', hm, hB⟩
  · exact .inl hb
  · exact .inr (.inl ⟨k, g, o', hm, hB⟩)
  · have hm' : (k, g, o') ∈ ([d], S.c, o) :: dropKey [d] (S.freeze ks).H := hm
    rcases List.mem_cons.1 hm' with h | h
    · simp only [Prod.mk.injEq] at h
      obtain ⟨rfl, rfl, rfl⟩ := h
      rw [blkL_new] at hB
      exact .inr (.inr (hbo b hB).1)
    · obtain ⟨o2, hmS⟩ := hsub _ (hsub2.subset h)
      have hg := (hf.objs k g o2 hmS).1
      rw [blkL_congr (updB_old hg)] at hB
      exact .inr (.inl ⟨k, g, o2, hmS, hB⟩)
theorem newObj_Tr (hf : FR F B w S a) (hN : a.tmps.size = N) {d : Nat} (hd : dstOK N (some d) = true) (ks : List Key) (hext : Ext w w') (hos : w'.os = w.os) (htp : w'.tape = w.tape) (hout : w'.output = w.output)
    {bo : Option (Nat × Nat)} (hbo : ∀ b n, bo = some (b, n) → w.heap.size ≤ b ∧ b < w'.heap.size ∧ n ≤ maxLen) {o : AO} {v : Value} {av : AV}
    (hor : OR w' (fun b => F b ∨ FK S.H B ks b) (updB B S.c bo) (S.c + 1) S.c o) (hv : VR w' (fun b => F b ∨ FK S.H B ks b) (updB B S.c bo) (S.c + 1) av v) :
    Tr N F B w S (fun b => F b ∨ FK S.H B ks b) (updB B S.c bo) w' ((S.freeze ks).newObj d o av) (a.put (some d) v) := by
  refine newObj_TrG hf hN hd ks hext hos htp hout (fun b hb => ?_) (NewOK.of fun b n h => (hbo b n h).2.2) hor hv
  · cases bo with
    | none => simp [blkO] at hb
    | some p =>
      obtain ⟨b', n⟩ := p
      obtain ⟨h1, h2, h3⟩ := hbo b' n rfl
      rw [blkO_le h3, List.mem_singleton] at hb
      subst hb
      exact ⟨h1, h2⟩
theorem ext_alloc (w : World) (o : Obj) : Ext w (w.alloc o) := fun b hb => RowKit.Below.heap_alloc w o b hb
theorem alloc_size (w : World) (o : Obj) : (w.alloc o).heap.size = w.heap.size + 1 := by show (w.heap.push o).size = _; simp
theorem alloc_at (w : World) (o : Obj) : (w.alloc o).heap[w.heap.size]? = some o := by show (w.heap.push o)[w.heap.size]? = _; simp
theorem unf0 (cs : Array Value) : Unf cs (0, 0) := fun i _ => by simp
 
theorem box_Tr (hf : FR F B w S a) (hN : a.tmps.size = N) {d : Nat} (hd : dstOK N (some d) = true) {t : Nat} {l : List AV} {cs : Array Value} (hc : cellsOK l = true) (hl : VRl w F B S.c l cs.toList) :
    Tr N F B w S (fun b => F b ∨ FK S.H B [] b) (updB B S.c (some (w.heap.size, 0))) (w.alloc (.cells cs t)) (S.newObj d (.box t l) (.addr [d] S.c 0)) (a.put (some d) (.pointer (some ⟨w.heap.size, 0, none⟩))) := by
  have hh := alloc_at w (.cells cs t)
  have hl' : VRl (w.alloc (.cells cs t)) (fun b => F b ∨ FK S.H B [] b) (updB B S.c (some (w.heap.size, 0))) (S.c + 1) l cs.toList :=
    VRl.mono (fun b hb => ext_alloc w _ b (hf.Flt b hb)) (fun b => .inl) (fun g hg => updB_old hg) (Nat.le_succ _) _ _ hl
  refine newObj_Tr (o := .box t l) hf hN hd [] (ext_alloc w _) rfl rfl rfl (fun b n h => ?_) ?_ ?_
  · simp only [Option.some.injEq, Prod.mk.injEq] at h
    obtain ⟨rfl, rfl⟩ := h
    exact ⟨Nat.le_refl _, by rw [alloc_size]; omega, Nat.zero_le _⟩
  · simp only [OR]
    exact ⟨_, _, cs, (0, 0), updB_new, hh, unf0 cs, hc, hl'⟩
  · simp only [VR]
    exact ⟨Nat.lt_succ_self _, _, _, updB_new, rfl⟩
 
theorem row_Tr (hf : FR F B w S a) (hN : a.tmps.size = N) {d : Nat} (hd : dstOK N (some d) = true) (ks : List Key) {e sz n : Nat} {xs : List D} {cs : Array Value} {fr : Nat × Nat} (hu : Unf cs fr) (h0 : 0 < sz) (hcs : cs.size = n * sz) (hln : xs.length ≤ n) (hm : n ≤ maxLen)
    (hd2 : DRr w (fun b => F b ∨ FK S.H B ks b) sz xs (cs.toList.take (xs.length * sz))) {w' : World} (hw : w'.heap = (w.alloc (.cells cs e fr)).heap) (hos : w'.os = w.os) (htp : w'.tape = w.tape) (hout : w'.output = w.output) :
    Tr N F B w S (fun b => F b ∨ FK S.H B ks b) (updB B S.c (some (w.heap.size, n))) w' ((S.freeze ks).newObj d (.row e sz xs) (.ref [d] S.c sz 0 xs.length)) (a.put (some d) (.slice (some ⟨w.heap.size, 0, none⟩) xs.length n)) := by
  have hext : Ext w w' := fun b hb => by rw [hw]; exact ext_alloc w _ b hb
  have hh : w'.heap[w.heap.size]? = some (.cells cs e fr) := by rw [hw]; exact alloc_at w _
  have hf1 := hf.freeze ks
  refine newObj_Tr (o := .row e sz xs) hf hN hd ks hext hos htp hout (fun b n h => ?_) ?_ ?_
  · simp only [Option.some.injEq, Prod.mk.injEq] at h
    obtain ⟨rfl, rfl⟩ := h
    exact ⟨Nat.le_refl _, by rw [hw, alloc_size]; omega, hm⟩
  · simp only [OR, updB_new]
    exact ⟨cs, fr, hh, hu, h0, hcs, hln, hm, DRr.mono (fun b hb => hext b (hf1.Flt b hb)) (fun _ h => h) _ _ _ hd2⟩
  · simp only [VR, updB_new]
    exact ⟨Nat.lt_succ_self _, _, rfl, by omega, .inl (by simp)⟩
end
end Go.Fw
