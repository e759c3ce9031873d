/- What the proofs of this seat lean on, part 6: a symbolic machine that is shown sound, walks through functions, plain laws. -/
import Derived.Test.YtcmbobdkilcjeaaDoorZ5
import Derived.Lib.ConvBytes
namespace Go.Fw
open Go
set_option linter.unusedVariables false
set_option linter.unusedSimpArgs false
def DRvl (w : World) (F : Nat → Prop) : List D → List Value → Prop
  | [], vs => vs = []
  | x :: r, vs => ∃ v vs', vs = v :: vs' ∧ DRv w F x v ∧ DRvl w F r vs'
section
variable {P : Program} {F : Nat → Prop} {B : Blk} {w w' : World} {S : St} {a : Act} {N : Nat}
theorem DRvl.mono {F' : Nat → Prop} (hF : ∀ b, F b → F' b) : ∀ {l : List D} {vs : List Value}, DRvl w F l vs → DRvl w F' l vs
  | [], vs, h => by simpa [DRvl] using h
  | x :: r, vs, h => by
    simp only [DRvl] at h ⊢
    obtain ⟨v, vs', rfl, h1, h2⟩ := h
    exact ⟨v, vs', rfl, DRv_mono_F hF h1, h2.mono hF⟩
theorem toDl_DRv (hf : FR F B w S a) : ∀ (n : Nat) (l : List AV) (xs : List D) (ks : List Key) (vs : List Value), toDl P S.H n l = some (xs, ks) → VRl w F B S.c l vs → DRvl w (fun b => F b ∨ FK S.H B ks b) xs vs
  | 0, l, xs, ks, vs, h, hv => by simp [toDl] at h
  | n + 1, [], xs, ks, vs, h, hv => by
    simp only [toDl, Option.some.injEq, Prod.mk.injEq] at h
    obtain ⟨rfl, rfl⟩ := h
    simpa [VRl, DRvl] using hv
  | n + 1, x :: r, xs, ks, vs, h, hv => by
    simp only [toDl] at h
    split at h
    · rename_i y k1 ys k2 h1 h2
      simp only [Option.some.injEq, Prod.mk.injEq] at h
      obtain ⟨rfl, rfl⟩ := h
      simp only [VRl] at hv
      obtain ⟨v, vs', rfl, hv1, hv2⟩ := hv
      simp only [DRvl]
      exact ⟨v, vs', rfl, DRv_mono_F (fun b hb => hb.imp id (FK_mono fun k hk => List.mem_append_left _ hk)) (toD_DR hf n x y k1 v h1 hv1),
        (toDl_DRv hf n r ys k2 vs' h2 hv2).mono (fun b hb => hb.imp id (FK_mono fun k hk => List.mem_append_right _ hk))⟩
    · cases h
theorem DRc_of_DRv {x : D} {v : Value} (h : DRv w F x v) : DRc w F x v.cells.toList := by
  have one : ∀ {u : Value}, u.cells = #[u] → DRc w F x [u] → DRc w F x u.cells.toList := fun e h => by rw [e]; exact h
  cases x with
  | agg l => simp only [DRv] at h; obtain ⟨cs, rfl, h⟩ := h; simp only [DRc]; exact h
  | sl z l => have hh := h; simp only [DRv, DRc] at h; obtain ⟨A, cc, hu, _⟩ := h; simp only [List.cons.injEq, and_true] at hu; subst hu; exact hh
  | ptr y => have hh := h; simp only [DRv, DRc] at h; obtain ⟨A, cc, hu, _⟩ := h; simp only [List.cons.injEq, and_true] at hu; subst hu; exact hh
  | clo fn f c => have hh := h; simp only [DRv, DRc] at h; obtain ⟨A, cc, hu, _⟩ := h; simp only [List.cons.injEq, and_true] at hu; subst hu; exact hh
  | _ => have hh := h; simp only [DRv, DRc, List.cons.injEq, and_true] at h; subst h; exact hh
theorem DRr_of_vals {b : Bool} {sz : Nat} : ∀ {xs : List D} {vs : List Value}, elemsP b sz xs → DRvl w F xs vs → DRr w F sz xs (vs.flatMap fun v => v.cells.toList) ∧ ∀ v ∈ vs, v.cells.size = sz
  | [], vs, _, h => by simp only [DRvl] at h; subst h; simp [DRr]
  | x :: r, vs, he, h => by
    simp only [DRvl] at h
    obtain ⟨v, vs', rfl, h1, h2⟩ := h
    simp only [elemsP] at he
    have hc := DRc_of_DRv h1
    have hl : v.cells.size = sz := by have := hc.len; rw [he.2.1] at this; simpa using this
    have hr := DRr_of_vals he.2.2 h2
    simp only [List.flatMap_cons, DRr]
    exact ⟨⟨_, _, rfl, by simpa using hl, hc, hr.1⟩, fun u hu => by rcases List.mem_cons.1 hu with rfl | hu; exact hl; exact hr.2 u hu⟩
theorem fill_seq (sz : Nat) : ∀ (vs : List Value) (j : Nat) (ps : List (Nat × Value)) (cells : Array Value), ps = (vs.zipIdx j).map (fun x => (x.2, x.1)) → (∀ v ∈ vs, v.cells.size = sz) → (j + vs.length) * sz ≤ cells.size →
    ∃ cells', Instr.fill (fun i => some (i * sz, sz)) cells ps = some cells' ∧ cells'.size = cells.size ∧ cells'.toList.take ((j + vs.length) * sz) = cells.toList.take (j * sz) ++ vs.flatMap fun v => v.cells.toList
  | [], j, ps, cells, hp, _, h => by
    simp only [List.zipIdx_nil, List.map_nil] at hp
    subst hp
    exact ⟨cells, rfl, rfl, by simp⟩
  | v :: r, j, ps, cells, hp, hs, h => by
    simp only [List.zipIdx_cons, List.map_cons] at hp
    subst hp
    have hv := hs v (by simp)
    simp only [List.length_cons] at h
    have hle : (j + 1) * sz ≤ (j + (r.length + 1)) * sz := Nat.mul_le_mul_right _ (by omega)
    have hj1 : (j + 1) * sz = j * sz + sz := by rw [Nat.add_mul, Nat.one_mul]
    have hfold := foldl_set v.cells.toList cells (j * sz) 0 (by simp; omega)
    have hfold' : (v.cells.zipIdx.foldl (fun (cs : Array Value) (x : Value × Nat) => cs.setIfInBounds (j * sz + x.2) x.1) cells).toList = cells.toList.take (j * sz) ++ v.cells.toList ++ cells.toList.drop (j * sz + v.cells.toList.length) := by
      rw [← Array.foldl_toList, Array.toList_zipIdx]
      simpa using hfold
    have hsz : (v.cells.zipIdx.foldl (fun (cs : Array Value) (x : Value × Nat) => cs.setIfInBounds (j * sz + x.2) x.1) cells).size = cells.size := by
      have := congrArg List.length hfold'
      simp only [Array.length_toList, List.length_append, List.length_take, List.length_drop] at this
      rw [this]
      omega
    obtain ⟨cells', e1, e2, e3⟩ := fill_seq sz r (j + 1) _ (v.cells.zipIdx.foldl (fun (cs : Array Value) (x : Value × Nat) => cs.setIfInBounds (j * sz + x.2) x.1) cells) rfl (fun u hu => hs u (by simp [hu])) (by rw [hsz]; rw [show j + 1 + r.length = j + (r.length + 1) by omega]; exact h)
    refine ⟨cells', ?_, e2.trans hsz, ?_⟩
    · simp only [Instr.fill]
      rw [if_neg (by simp [hv]; omega)]
      exact e1
    · simp only [List.length_cons]
      rw [show j + (r.length + 1) = j + 1 + r.length by omega, e3, hfold', hj1]
      rw [List.take_left' (by simp [hv]; omega)]
      simp
theorem seqParts_zip : ∀ {parts : List (Nat × Operand)} {j : Nat}, seqParts j (parts.map (·.1)) = true → ∀ f : Operand → Value, parts.map (fun p => (p.1, f p.2)) = ((parts.map fun p => f p.2).zipIdx j).map (fun x => (x.2, x.1))
  | [], j, _, f => by simp
  | p :: r, j, h, f => by
    simp only [List.map_cons, seqParts, Bool.and_eq_true, beq_iff_eq] at h
    simp only [List.map_cons, List.zipIdx_cons]
    rw [seqParts_zip h.2 f, h.1]
theorem run_newRow (e : TypeId) (cells : Array Value) : (newRow e cells).run P w = .ok ⟨w.heap.size, 0, none⟩ (w.alloc (.cells cells e)) := by simp [newRow]
theorem run_buildSlice {t e sz : Nat} {b : Bool} (hei : elemI P t = some (e, sz, b)) {ti : TypeInfo} (hti : P.info? e = some ti) {z : Value} (hz : ti.zero = some z) {parts : Array (Nat × Operand)} (hs : seqParts 0 (parts.toList.map (·.1)) = true) {f : Operand → Value}
    (hlen : parts.size * sz ≤ 16777216) (hsz : ∀ p ∈ parts.toList, (f p.2).cells.size = sz) :
    ∃ cs : Array Value, (Instr.buildSlice t parts.size (parts.map fun p => (p.1, f p.2))).run P w = .ok (.slice (some ⟨w.heap.size, 0, none⟩) parts.size parts.size) (w.alloc (.cells cs e)) ∧ cs.size = parts.size * sz ∧ cs.toList.take (parts.size * sz) = (parts.toList.map fun p => f p.2).flatMap fun v => v.cells.toList := by
  obtain ⟨i, hu, hi, hsz', h0, hag, hb⟩ := elemI_spec hei
  rw [hti] at hi
  cases hi
  have hps : (parts.map fun p => (p.1, f p.2)).toList = ((parts.toList.map fun p => f p.2).zipIdx 0).map (fun x => (x.2, x.1)) := by
    rw [Array.toList_map]
    exact seqParts_zip hs f
  have key : ∀ zc : Array Value, ∃ cs, Instr.fill (fun i => some (i * sz, sz)) ((Array.range (parts.size * sz)).map (zc[· % zc.size]!)) (parts.map fun p => (p.1, f p.2)).toList = some cs ∧ cs.size = parts.size * sz ∧ cs.toList.take (parts.size * sz) = (parts.toList.map fun p => f p.2).flatMap fun v => v.cells.toList := by
    intro zc
    obtain ⟨cs, e1, e2, e3⟩ := fill_seq sz (parts.toList.map fun p => f p.2) 0 _ ((Array.range (parts.size * sz)).map (zc[· % zc.size]!)) hps (fun v hv => by obtain ⟨p, hp, rfl⟩ := List.mem_map.1 hv; exact hsz p hp) (by simp)
    exact ⟨cs, e1, by simpa using e2, by simpa using e3⟩
  have hzr : (zeroValue e).run P w = .ok z w := by simp [zeroValue, typeInfo, hti, hz]
  have hn : ¬ (parts.size * sz > 2 ^ 24) := by omega
  by_cases hzz : parts.size * sz = 0
  · obtain ⟨cs, e1, e2, e3⟩ := key #[]
    refine ⟨cs, ?_, e2, e3⟩
    simp only [Instr.buildSlice, Sem.run_bind, run_underlying hu, Result.andThen_ok, run_sizeOf hti, hsz', if_neg hn, if_pos hzz, Sem.run_pure, e1, run_newRow]
  · obtain ⟨cs, e1, e2, e3⟩ := key z.cells
    refine ⟨cs, ?_, e2, e3⟩
    simp only [Instr.buildSlice, Sem.run_bind, run_underlying hu, Result.andThen_ok, run_sizeOf hti, hsz', if_neg hn, if_neg hzz, Sem.run_pure, hzr, e1, run_newRow]
end
end Go.Fw
