/- What the proofs of this seat lean on, part 8: a symbolic machine that is shown sound, walks through functions, plain laws. -/
import Derived.Test.YtihbadicabmagaaZ7
import Derived.Maps.RangeRun
import Derived.MapKept
namespace Go.Fw
open Go Go.MapKept
set_option linter.unusedVariables false
set_option linter.unusedSimpArgs false
section
variable {P : Program} {w : World} {F : Nat → Prop}
theorem mem_of_objG : ∀ {H : List (Key × Nat × AO)} {g : Nat} {o : AO}, objG H g = some o → ∃ k, (k, g, o) ∈ H
  | [], g, o, h => by simp [objG] at h
  | (k, g', o') :: r, g, o, h => by
    simp only [objG] at h
    split at h
    · rename_i hg
      simp only [Option.some.injEq] at h
      exact ⟨k, by rw [hg, h]; exact List.mem_cons_self⟩
    · obtain ⟨k', hk⟩ := mem_of_objG h
      exact ⟨k', List.mem_cons_of_mem _ hk⟩
theorem MR_of : ∀ {i : Nat} {es : List (Option (D × D))} {l : List MapEntry}, MR w F i es l → ∀ e ∈ l, ∃ j k v, j < es.length ∧ e.born = i + j ∧ es.getD j none = some (k, v) ∧ DRv w F k e.key ∧ DRv w F v e.val
  | i, [], l, h, e, he => by
    simp only [MR] at h
    subst h
    cases he
  | i, none :: r, l, h, e, he => by
    simp only [MR] at h
    obtain ⟨j, k, v, h1, h2, h3, h4, h5⟩ := MR_of h e he
    exact ⟨j + 1, k, v, by simpa using h1, by omega, by simpa using h3, h4, h5⟩
  | i, some (k, v) :: r, l, h, e, he => by
    simp only [MR] at h
    obtain ⟨e0, es', rfl, h2, h3, h4, h5⟩ := h
    rcases List.mem_cons.1 he with rfl | he
    · exact ⟨0, k, v, by simp, by omega, by simp, h2, h3⟩
    · obtain ⟨j, k', v', g1, g2, g3, g4, g5⟩ := MR_of h5 e he
      exact ⟨j + 1, k', v', by simpa using g1, by omega, by simpa using g3, g4, g5⟩
theorem MR_get : ∀ {i : Nat} {es : List (Option (D × D))} {l : List MapEntry}, MR w F i es l → ∀ {j : Nat} {k v : D}, es.getD j none = some (k, v) → ∃ e ∈ l, e.born = i + j ∧ DRv w F k e.key ∧ DRv w F v e.val
  | i, [], l, h, j, k, v, he => by simp at he
  | i, none :: r, l, h, j, k, v, he => by
    simp only [MR] at h
    cases j with
    | zero => simp at he
    | succ j =>
      obtain ⟨e, h1, h2, h3⟩ := MR_get h (j := j) (by simpa using he)
      exact ⟨e, h1, by omega, h3⟩
  | i, some (k', v') :: r, l, h, j, k, v, he => by
    simp only [MR] at h
    obtain ⟨e0, es', rfl, h2, h3, h4, h5⟩ := h
    cases j with
    | zero =>
      simp only [List.getD_cons_zero, Option.some.injEq, Prod.mk.injEq] at he
      obtain ⟨rfl, rfl⟩ := he
      exact ⟨e0, List.mem_cons_self, by omega, h2, h3⟩
    | succ j =>
      obtain ⟨e, g1, g2, g3⟩ := MR_get h5 (j := j) (by simpa using he)
      exact ⟨e, List.mem_cons_of_mem _ g1, by omega, g3⟩
theorem MR_nodup : ∀ {i : Nat} {es : List (Option (D × D))} {l : List MapEntry}, MR w F i es l → (l.map (·.born)).Nodup
  | i, [], l, h => by
    simp only [MR] at h
    subst h
    exact List.nodup_nil
  | i, none :: r, l, h => MR_nodup (i := i + 1) (es := r) h
  | i, some (k, v) :: r, l, h => by
    simp only [MR] at h
    obtain ⟨e0, es', rfl, h2, h3, h4, h5⟩ := h
    rw [List.map_cons, List.nodup_cons]
    refine ⟨fun hm => ?_, MR_nodup h5⟩
    obtain ⟨e, he, hb⟩ := List.mem_map.1 hm
    obtain ⟨j, _, _, _, g2, _⟩ := MR_of h5 e he
    omega
theorem MR_push : ∀ {i : Nat} {es : List (Option (D × D))} {l : List MapEntry}, MR w F i es l → ∀ {k v : D} {key val : Value}, DRv w F k key → DRv w F v val → MR w F i (es ++ [some (k, v)]) (l ++ [⟨key, val, i + es.length⟩])
  | i, [], l, h, k, v, key, val, hk, hv => by
    simp only [MR] at h
    subst h
    simp only [List.nil_append, MR]
    exact ⟨_, _, rfl, hk, hv, rfl, rfl⟩
  | i, none :: r, l, h, k, v, key, val, hk, hv => by
    simp only [MR] at h
    have := MR_push h hk hv
    simp only [List.cons_append, MR, List.length_cons]
    rw [show i + (r.length + 1) = i + 1 + r.length by omega]
    exact this
  | i, some (k', v') :: r, l, h, k, v, key, val, hk, hv => by
    simp only [MR] at h
    obtain ⟨e0, es', rfl, h2, h3, h4, h5⟩ := h
    have := MR_push h5 hk hv
    simp only [List.cons_append, MR, List.length_cons]
    rw [show i + (r.length + 1) = i + 1 + r.length by omega]
    exact ⟨e0, _, rfl, h2, h3, h4, this⟩
theorem keyK_is {kt : TypeId} {k : D} {v : Value} (hk : keyK P kt k = true) (hv : DRv w F k v) : ∃ d, P.underlying kt = some d ∧ IsKey d v := by
  cases k <;> simp only [keyK] at hk <;> try cases hk
  case int q n =>
    simp only [DRv, DRc, List.cons.injEq, and_true] at hv
    subst hv
    split at hk
    · rename_i k' hu
      simp only [decide_eq_true_eq] at hk
      exact ⟨_, hu, by subst hk; simp [IsKey]⟩
    · cases hk
  case str s =>
    simp only [DRv, DRc, List.cons.injEq, and_true] at hv
    subst hv
    split at hk
    · rename_i hu
      exact ⟨_, hu, by simp [IsKey]⟩
    · cases hk
  case bool b =>
    simp only [DRv, DRc, List.cons.injEq, and_true] at hv
    subst hv
    split at hk
    · rename_i hu
      exact ⟨_, hu, by simp [IsKey]⟩
    · cases hk
theorem dEq_iff {kt : TypeId} {k k' : D} {v v' : Value} (hk : keyK P kt k = true) (hk' : keyK P kt k' = true) (hv : DRv w F k v) (hv' : DRv w F k' v') : dEq k k' = true ↔ v = v' := by
  cases k <;> simp only [keyK] at hk <;> try cases hk
  all_goals
    cases k' <;> simp only [keyK] at hk' <;> try cases hk'
    all_goals
      simp only [DRv, DRc, List.cons.injEq, and_true] at hv hv'
      subst hv
      subst hv'
      simp [dEq]
theorem allM_cons {kt : TypeId} {x : Option (D × D)} {r : List (Option (D × D))} (h : AllM P kt (x :: r)) : AllM P kt r := ⟨fun i hi k v hy => h.at' (i + 1) (by simpa using hi) k v (by simpa using hy)⟩
theorem upd_find {kt : TypeId} {d : TypeDesc} {kx vx : D} {key val : Value} (hd : P.underlying kt = some d) (hkx : keyK P kt kx = true) (hk : DRv w F kx key) (hv : DRv w F vx val) : ∀ (es : List (Option (D × D))) (l : List MapEntry) (i i0 : Nat), MR w F i es l → AllM P kt es →
    (Instr.findNow d key l i0 = some none ∧ updM kx vx es = es ++ [some (kx, vx)]) ∨
    ∃ j e, Instr.findNow d key l i0 = some (some (i0 + j, e.val)) ∧ l[j]? = some e ∧ e.key = key ∧ MR w F i (updM kx vx es) (l.set j { e with key := key, val := val }) ∧ (updM kx vx es).length = es.length
  | [], l, i, i0, h, ha => by
    simp only [MR] at h
    subst h
    exact .inl ⟨rfl, rfl⟩
  | none :: r, l, i, i0, h, ha => by
    simp only [MR] at h
    rcases upd_find hd hkx hk hv r l (i + 1) i0 h (allM_cons ha) with ⟨h1, h2⟩ | ⟨j, e, h1, h2, h3, h4, h5⟩
    · exact .inl ⟨h1, by simp [updM, h2]⟩
    · exact .inr ⟨j, e, h1, h2, h3, by simpa only [updM, MR] using h4, by simp [updM, h5]⟩
  | some (k', v') :: r, l, i, i0, h, ha => by
    simp only [MR] at h
    obtain ⟨e0, es', rfl, h2, h3, h4, h5⟩ := h
    have hk' : keyK P kt k' = true := ha.at' 0 (by simp) k' v' rfl
    obtain ⟨d1, hd1, hi1⟩ := keyK_is hkx hk
    obtain ⟨d2, hd2, hi2⟩ := keyK_is hk' h2
    rw [hd] at hd1 hd2
    cases hd1
    cases hd2
    obtain ⟨q, hq, hqi⟩ := sameNow_of_keys hi1 hi2
    have hde := dEq_iff hk' hkx h2 hk
    cases q with
    | true =>
      have e : key = e0.key := hqi.1 rfl
      refine .inr ⟨0, e0, by simp [Instr.findNow, hq], rfl, e.symm, ?_, ?_⟩
      · rw [updM, if_pos (hde.2 e.symm)]
        simp only [List.set_cons_zero, MR]
        exact ⟨_, _, rfl, hk, hv, h4, h5⟩
      · rw [updM, if_pos (hde.2 e.symm)]; rfl
    | false =>
      have hne : ¬ dEq k' kx = true := fun hh => by
        have := hqi.2 (hde.1 hh).symm
        cases this
      rcases upd_find hd hkx hk hv r es' (i + 1) (i0 + 1) h5 (allM_cons ha) with ⟨g1, g2⟩ | ⟨j, e, g1, g2, g3, g4, g5⟩
      · exact .inl ⟨by simp [Instr.findNow, hq, g1], by rw [updM, if_neg hne, g2]; rfl⟩
      · refine .inr ⟨j + 1, e, by simp [Instr.findNow, hq, g1]; omega, by simpa using g2, g3, ?_, ?_⟩
        · rw [updM, if_neg hne]
          simp only [List.set_cons_succ, MR]
          exact ⟨e0, _, rfl, h2, h3, h4, g4⟩
        · rw [updM, if_neg hne, List.length_cons, g5, List.length_cons]
theorem modify_set {α : Type} (f : α → α) : ∀ {l : List α} {j : Nat} {e : α}, l[j]? = some e → l.modify j f = l.set j (f e)
  | [], j, e, h => by simp at h
  | a :: r, 0, e, h => by
    simp at h
    subst h
    rfl
  | a :: r, j + 1, e, h => by
    have := modify_set f (l := r) (j := j) (e := e) (by simpa using h)
    simp [this]
theorem mapUpdate_run {t kt et : TypeId} {b : Nat} {ea : Array MapEntry} {es : List (Option (D × D))} {kx vx : D} {key val : Value} (ht : P.underlying t = some (.map kt et)) (hb : w.heap[b]? = some (.map ea es.length)) (hm : MR w F 0 es ea.toList)
    (hkx : keyK P kt kx = true) (ha : AllM P kt es) (hk : DRv w F kx key) (hv : DRv w F vx val) :
    ∃ ea', (Instr.mapUpdate t (.map (some b)) key val).run P w = .ok () (setB w b (.map ea' (updM kx vx es).length)) ∧ MR w F 0 (updM kx vx es) ea'.toList := by
  obtain ⟨d, hd, hi⟩ := keyK_is hkx hk
  have hgo : (getObj b).run P w = .ok (.map ea es.length) w := by simp [getObj, Sem.run, hb]
  have hso : ∀ o', (setObj b o').run P w = .ok () (setB w b o') := by intro o'; simp [setObj, Sem.run, hb, setB]
  rcases upd_find hd hkx hk hv es ea.toList 0 0 hm ha with ⟨h1, h2⟩ | ⟨j, e, h1, h2, h3, h4, h5⟩
  · refine ⟨ea.push ⟨key, val, es.length⟩, ?_, ?_⟩
    · simp only [Instr.mapUpdate, Sem.run_bind, run_underlying ht, Result.andThen_ok, hgo, run_checkKey hd hi, run_findKey hd h1, hso, h2, List.length_append, List.length_cons, List.length_nil, Nat.zero_add]
    · rw [h2, Array.toList_push]
      have := MR_push hm hk hv
      rwa [Nat.zero_add] at this
  · have hj : ea[j]? = some e := by rw [← Array.getElem?_toList]; exact h2
    refine ⟨ea.modify j fun e => { e with key := key, val := val }, ?_, ?_⟩
    · simp only [Instr.mapUpdate, Sem.run_bind, run_underlying ht, Result.andThen_ok, hgo, run_checkKey hd hi, run_findKey hd h1, Nat.zero_add, hj, Option.map_some, Option.getD_some, h3, run_keyThatStays hi, hso, h5]
    · rw [Array.toList_modify, modify_set _ h2]
      exact h4
 
theorem next_run {r bm since last : Nat} {seen : List Nat} {es : List (Option (D × D))} {ea : Array MapEntry} (ty : TypeId) (hr : w.heap[r]? = some (.mapIter (some bm) since seen.toArray last)) (hb : w.heap[bm]? = some (.map ea es.length)) (hm : MR w F 0 es ea.toList)
    (hs : es.length ≤ since) (hl : since ≤ last) :
    ((∀ j, j < es.length → es.getD j none = none ∨ j ∈ seen) ∧ (Instr.next (.pointer (some ⟨r, 0, none⟩)) false ty).run P w = .ok (.tuple #[.bool false]) w) ∨
    ∃ j k v key val, ∃ w1 : World, j < es.length ∧ ¬ j ∈ seen ∧ es.getD j none = some (k, v) ∧ DRv w F k key ∧ DRv w F v val ∧ (w1 = w ∨ w1 = w.drew) ∧
      (Instr.next (.pointer (some ⟨r, 0, none⟩)) false ty).run P w = .ok (.tuple #[.bool true, key, val]) (setB w1 r (.mapIter (some bm) since (seen ++ [j]).toArray es.length)) := by
  have hold : ∀ x ∈ ea.toList, x.born < since := fun x hx => by
    obtain ⟨j, k, v, h1, h2, _⟩ := MR_of hm x hx
    omega
  rcases run_next_at (P := P) w ty r bm since last seen.toArray ea es.length hr hb hold hl with ⟨h1, h2⟩ | ⟨e, he, w1, hw, h2⟩
  · left
    refine ⟨fun j hj => ?_, h2⟩
    cases hg : es.getD j none with
    | none => exact .inl rfl
    | some p =>
      right
      obtain ⟨k, v⟩ := p
      obtain ⟨e, g1, g2, _⟩ := MR_get hm hg
      have h0 : leftOf ea seen.toArray = #[] := Array.eq_empty_of_size_eq_zero h1
      unfold leftOf at h0
      rw [Array.filter_eq_empty_iff] at h0
      have := h0 e (by simpa using g1)
      simp only [Bool.not_eq_true', Bool.not_eq_false, List.contains_toArray] at this
      have h3 : e.born ∈ seen := by simpa using this
      rwa [show e.born = j by omega] at h3
  · right
    unfold leftOf at he
    simp only [Array.toList_filter, List.mem_filter] at he
    obtain ⟨j, k, v, g1, g2, g3, g4, g5⟩ := MR_of hm e he.1
    have hbj : e.born = j := by omega
    refine ⟨j, k, v, e.key, e.val, w1, g1, ?_, g3, g4, g5, hw, ?_⟩
    · have := he.2
      rw [hbj] at this
      simpa using this
    · rw [h2, hbj]
      simp [setB, ChangeMaps.setBlock]
theorem entry_run {r bm since : Nat} {seen : List Nat} {j : Nat} {es : List (Option (D × D))} {ea : Array MapEntry} {k v : D} (hr : w.heap[r]? = some (.mapIter (some bm) since (seen ++ [j]).toArray es.length)) (hb : w.heap[bm]? = some (.map ea es.length)) (hm : MR w F 0 es ea.toList)
    (hj : es.getD j none = some (k, v)) : ∃ key val, DRv w F k key ∧ DRv w F v val ∧ (Instr.entry (.pointer (some ⟨r, 0, none⟩))).run P w = .ok (.tuple #[key, val]) w := by
  obtain ⟨e, g1, g2, g3, g4⟩ := MR_get hm hj
  refine ⟨e.key, e.val, g3, g4, ?_⟩
  refine run_entry_at w r bm since seen.toArray ea es.length e ?_ hb g1 (MR_nodup hm)
  rw [hr, show e.born = j by omega]
  simp
end
end Go.Fw
namespace Go.Fw
open Go
set_option linter.unusedVariables false
set_option linter.unusedSimpArgs false
section
variable {P : Program} {F : Nat → Prop} {B : Blk} {w w' : World} {S : St} {a : Act} {N nv : Nat} {K : St → Prop}
 
def Ends (P : Program) (N : Nat) (F : Nat → Prop) (B : Blk) (w : World) (S : St) (a : Act) (o : Oper) (K : St → Prop) : Prop :=
  ∃ r w' v, (execOp a.eval o).run P w = .ok r w' ∧ (r = .value v ∨ (r = .skip ∧ v = undef)) ∧ (isDs o = false → Ext w w') ∧ ∃ S' F' B', K S' ∧ Tr N F B w S F' B' w' S' (a.put o.dst v)
theorem evs_VRl (hf : FR F B w S a) : ∀ l : List Operand, VRl w F B S.c (l.map S.ev) (l.map a.eval)
  | [] => by simp [VRl]
  | x :: r => by simp only [List.map_cons, VRl]; exact ⟨_, _, rfl, ev_VR hf x, evs_VRl hf r⟩
theorem evs_VRl' (hf : FR F B w S a) : ∀ l : List (Nat × Operand), VRl w F B S.c (l.map fun p => S.ev p.2) (l.map fun p => a.eval p.2)
  | [] => by simp [VRl]
  | x :: r => by simp only [List.map_cons, VRl]; exact ⟨_, _, rfl, ev_VR hf x.2, evs_VRl' hf r⟩
theorem dropEmpty (K : St → Prop) {d : Nat} {o : AO} {av : AV} (h : K (S.newObj d o av)) : K ((S.freeze []).newObj d o av) := h
theorem elemsP_len {b : Bool} {sz : Nat} : ∀ {xs : List D}, elemsP b sz xs → ∀ {vs : List Value}, DRvl w F xs vs → vs.length = xs.length
  | [], _, vs, h => by simp only [DRvl] at h; simp [h]
  | x :: r, he, vs, h => by
    simp only [DRvl] at h
    obtain ⟨v, vs', rfl, _, h2⟩ := h
    simp only [elemsP] at he
    simp [elemsP_len he.2.2 h2]
theorem effV_run (hf : FR F B w S a) (hN : a.tmps.size = N) (o : Oper) (hd : dstOK N o.dst = true) (h : effV P nv o S K) : Ends P N F B w S a o K := by
  obtain ⟨dst, op, ty, pos, after, guard⟩ := o
  cases op <;> simp only [effV] at h <;> try exact h.elim
  case alloc t =>
    split at h
    · rename_i d p z hv hz
      obtain ⟨i, zv, hi, hzv, rfl⟩ := zeroI_spec hz
      have hzr : (zeroValue t).run P w = .ok zv w := by simp [zeroValue, typeInfo, hi, hzv]
      have ht := box_Tr (B := B) (t := t) (cs := zv.cells) hf hN hd h.1 (zero_VR zv w F B S.c _)
      refine ⟨.value (.pointer (some ⟨w.heap.size, 0, none⟩)), _, _, ?_, .inl rfl, fun _ => ext_alloc w _, _, _, _, h.2, ht⟩
      simp only [execOp, Instr.alloc, Sem.run_bind, hzr, Result.andThen_ok, newVar, run_newRow, Sem.run_pure]
    · exact h.elim
  case box t x =>
    split at h
    · rename_i d
      have hcx := avCells_VR (ev_VR hf x) (by intro e0; have := h.1; rw [e0] at this; cases this)
      have ht := box_Tr (B := B) (t := t) (cs := (a.eval x).cells) hf hN hd h.2.1 hcx
      refine ⟨.value (.pointer (some ⟨w.heap.size, 0, none⟩)), _, _, ?_, .inl rfl, fun _ => ext_alloc w _, _, _, _, h.2.2, ht⟩
      simp only [execOp, Instr.box, Sem.run_bind, Result.andThen_ok, newVar, run_newRow, Sem.run_pure]
    · exact h.elim
  case buildSlice t len parts =>
    split at h
    · rename_i d e sz b hei
      obtain ⟨hzs, hsq, rfl, hl24, h⟩ := h
      obtain ⟨ti, hu, hti, hsz, h0, hag, hb1⟩ := elemI_spec hei
      split at h
      · rename_i xs ks hxs
        obtain ⟨hel, hk⟩ := h
        have hz : ∃ z, ti.zero = some z := by
          obtain ⟨zz, hzz⟩ := Option.isSome_iff_exists.1 hzs
          obtain ⟨i, v, hi, hv, _⟩ := zeroI_spec hzz
          rw [hti] at hi
          cases hi
          exact ⟨v, hv⟩
        obtain ⟨z, hz⟩ := hz
        have hD := toDl_DRv hf 60 _ xs ks _ hxs (evs_VRl' hf parts.toList)
        obtain ⟨hr, hcs⟩ := DRr_of_vals hel hD
        have hxl : xs.length = parts.size := by have := elemsP_len hel hD; simpa using this.symm
        obtain ⟨cs, e1, e2, e3⟩ := run_buildSlice (P := P) (w := w) (f := a.eval) hei hti hz hsq hl24 (fun p hp => hcs _ (List.mem_map.2 ⟨p, hp, rfl⟩))
        have hm : parts.size ≤ maxLen := by
          have : parts.size ≤ parts.size * sz := Nat.le_mul_of_pos_right _ h0
          simp only [maxLen]; omega
        have ht := row_Tr (B := B) (e := e) (n := parts.size) (xs := xs) (cs := cs) (fr := (0, 0)) hf hN hd ks (unf0 cs) h0 e2 (by omega) hm (by rw [hxl, e3]; exact hr) (w' := w.alloc (.cells cs e)) rfl rfl rfl rfl
        rw [hxl] at ht
        refine ⟨.value (.slice (some ⟨w.heap.size, 0, none⟩) parts.size parts.size), _, _, ?_, .inl rfl, fun _ => ext_alloc w _, _, _, _, hk, ht⟩
        simp only [execOp, Sem.run_bind, e1, Result.andThen_ok, Sem.run_pure]
      · exact h.elim
    · exact h.elim
  case makeSlice t l c =>
    split at h
    · rename_i d e sz b n m hei hl hc
      obtain ⟨rfl, hn0, hby, hb0, h⟩ := h
      obtain ⟨ti, hu, hti, hsz, h0, hag, hb1⟩ := elemI_spec hei
      have hbo : P.bytesOf e = ti.bytes := by simp [Program.bytesOf, hti]
      split at h
      · rename_i z hz
        obtain ⟨hz1, hz2, hzl, hk⟩ := h
        have el : a.eval l = .int .i64 n := val_of_scalar rfl (by rw [← hl]; exact ev_VR hf l)
        have ec : a.eval c = .int .i64 n := val_of_scalar rfl (by rw [← hc]; exact ev_VR hf c)
        obtain ⟨cs, e1, e2, e3⟩ := makeSlice_run (P := P) (w := w) (F := F) hf.Flt hei hn0 hby hb0 hz hzl
        have hm : n.toNat ≤ maxLen := by
          have : n.toNat ≤ n.toNat * P.bytesOf e := Nat.le_mul_of_pos_right _ hb0
          simp only [maxLen]; omega
        have hrl : (List.replicate n.toNat z).length = n.toNat := by simp
        have ht := row_Tr (B := B) (e := e) (n := n.toNat) (xs := List.replicate n.toNat z) (cs := cs) (fr := (0, 0)) hf hN hd [] (unf0 cs) h0 e2 (by omega) hm (by rw [hrl, FK_nil]; exact e3) (w' := w.alloc (.cells cs e)) rfl rfl rfl rfl
        rw [hrl] at ht
        refine ⟨.value (.slice (some ⟨w.heap.size, 0, none⟩) n.toNat n.toNat), _, _, ?_, .inl rfl, fun _ => ext_alloc w _, _, _, _, hk, ht⟩
        simp only [execOp, el, ec, Sem.run_bind, e1, Result.andThen_ok, Sem.run_pure]
      · exact h.elim
    · exact h.elim
  case convert src dst' x =>
    split at h
    · rename_i d e s hs hu hx
      obtain ⟨he, hsz, hk⟩ := h
      have ex : a.eval x = .string s := val_of_scalar rfl (by rw [← hx]; exact ev_VR hf x)
      obtain ⟨w', cs, n, e1, e2, e3, e4, e5, e6, e7, e8, e9⟩ := toBytes_run (P := P) (w := w) (e := e) hsz
      have hl : (s.data.toList.map byteD).length = s.size := by simp
      have ht := row_Tr (B := B) (e := e) (sz := 1) (n := n) (xs := s.data.toList.map byteD) (cs := cs) (fr := (cs.size, cs.size + 1)) hf hN hd [] (unfL cs) (by omega) (by omega) (by omega) e5 (by rw [hl, FK_nil, Nat.mul_one, e6]; exact bytesD _) e2 e7 e8 e9
      rw [hl] at ht
      refine ⟨.value (.slice (some ⟨w.heap.size, 0, none⟩) s.size n), w', _, ?_, .inl rfl, fun _ b hb => by rw [e2]; exact ext_alloc w _ b hb, _, _, _, hk, ht⟩
      have hrun : (convert src dst' (.string s)).run P w = .ok (.slice (some ⟨w.heap.size, 0, none⟩) s.size n) w' := by
        simp only [convert, Sem.run_bind, run_underlying (shapeT_str hs), run_underlying hu, Result.andThen_ok, run_underlying (shapeT_int he), e1]
      simp only [execOp, ex, Sem.run_bind, hrun, Result.andThen_ok, Sem.run_pure]
    · exact h.elim
  case store t p x =>
    obtain ⟨hd0, h⟩ := h
    have hd0' : dst = none := hd0
    subst hd0'
    obtain ⟨w', e1, S', F', B', hk, ht⟩ := storeV_run hf hN (ev_VR hf p) (ev_VR hf x) h
    refine ⟨.skip, w', undef, ?_, .inr ⟨rfl, rfl⟩, fun hds => by simp [isDs] at hds, S', F', B', hk, ht⟩
    simp only [execOp, Sem.run_bind, e1, Result.andThen_ok, Sem.run_pure]
  case assign x =>
    split at h
    · rename_i d
      obtain ⟨S', B', hk, ht⟩ := assignV_run hf hN hd (ev_VR hf x) h
      exact ⟨.value (a.eval x), w, _, by simp [execOp], .inl rfl, fun _ => Ext.refl w, S', F, B', hk, ht⟩
    · exact h.elim
  case makeMap t r =>
    split at h
    · rename_i d
      have hh := alloc_at w (.map #[] 0)
      have ht := newObj_Tr (o := .map []) (av := .mp [d] S.c) (v := .map (some w.heap.size)) (bo := some (w.heap.size, 0)) hf hN hd [] (ext_alloc w (.map #[] 0)) rfl rfl rfl
        (fun b n hb => by simp only [Option.some.injEq, Prod.mk.injEq] at hb; obtain ⟨rfl, rfl⟩ := hb; exact ⟨Nat.le_refl _, by rw [alloc_size]; omega⟩)
        (by simp only [OR]; exact ⟨_, _, _, updB_new, hh, rfl⟩) (by simp only [VR]; exact ⟨Nat.lt_succ_self _, _, _, updB_new, rfl⟩)
      refine ⟨.value (.map (some w.heap.size)), _, _, ?_, .inl rfl, fun _ => ext_alloc w _, _, _, _, h, ht⟩
      rfl
    · exact h.elim
  case mapUpdate t m k x =>
    obtain ⟨hd0, h⟩ := h
    have hd0' : dst = none := hd0
    subst hd0'
    unfold mapUV at h
    split at h
    · rename_i q g hm
      split at h
      · rename_i g' es hob
        obtain ⟨rfl, h⟩ := h
        split at h
        · rename_i kt et hu
          split at h
          · rename_i kx vx hkx hvx
            obtain ⟨h1, h2, h3⟩ := h
            have hmv := ev_VR hf m
            rw [hm] at hmv
            simp only [VR] at hmv
            obtain ⟨hg, b, n, hB, hev⟩ := hmv
            have hor := hf.objsIn hob
            simp only [OR] at hor
            obtain ⟨b', n', ea, hB', hh, hmr⟩ := hor
            rw [hB] at hB'
            simp only [Option.some.injEq, Prod.mk.injEq] at hB'
            obtain ⟨rfl, rfl⟩ := hB'
            have hlt := lt_heap hh
            have hkv := ev_VR hf k
            rw [hkx] at hkv
            simp only [VR] at hkv
            have hxv := ev_VR hf x
            rw [hvx] at hxv
            simp only [VR] at hxv
            obtain ⟨ea', e1, e2⟩ := mapUpdate_run (key := a.eval k) (val := a.eval x) hu hh hmr h1 h2 hkv hxv
            have hF : ∀ i, F i → (setB w b (.map ea' (updM kx vx es).length)).heap[i]? = w.heap[i]? := fun i hi => setB_ne w b i _ fun e => (hf.sep b ⟨q, g', _, n, mem_of_objIn hob, hB⟩).1 (e ▸ hi)
            have hf2 := FR.upd (w' := setB w b (.map ea' (updM kx vx es).length)) (o := .map (updM kx vx es)) hf hob hB (by rw [setB_size]; omega) (fun i _ hi => setB_ne w b i _ hi) (by simp only [OR]; exact ⟨b, n, ea', hB, setB_at w b _ hlt, e2.mono hF (fun _ h => h)⟩)
            have ht := Tr.stored (N := N) hf (by exact hN) hob hB hf2 (fun i hi => setB_ne w b i _ hi) rfl rfl rfl (setB_size w b _) (fun i hi => own_setO hob hi)
            refine ⟨.skip, _, undef, ?_, .inr ⟨rfl, rfl⟩, fun hds => by simp [isDs] at hds, _, F, B, h3 _ rfl, ht⟩
            simp only [execOp, hev, Sem.run_bind, e1, Result.andThen_ok, Sem.run_pure]
          · exact h.elim
        · exact h.elim
      · exact h.elim
    · exact h.elim
  case entry x =>
    split at h
    · rename_i d
      unfold entryV at h
      split at h
      · rename_i k g c hx
        split at h
        · rename_i g' m since last seen j hob
          obtain ⟨rfl, rfl, h⟩ := h
          split at h
          · rename_i es hog
            obtain ⟨rfl, hj, h⟩ := h
            have hy := h _ rfl
            split at hy
            · rename_i kx vx hy0
              have hxv := ev_VR hf x
              rw [hx] at hxv
              simp only [VR] at hxv
              obtain ⟨hg, b, n, hB, hev⟩ := hxv
              have hor := hf.objsIn hob
              simp only [OR] at hor
              obtain ⟨hmc, b', n', bm, nm, hB', hBm, hh, hsl⟩ := hor
              rw [hB] at hB'
              simp only [Option.some.injEq, Prod.mk.injEq] at hB'
              obtain ⟨rfl, rfl⟩ := hB'
              obtain ⟨km, hmm⟩ := mem_of_objG hog
              have hom := (hf.objs _ _ _ hmm).2
              simp only [OR] at hom
              obtain ⟨bm', nm', ea, hBm', hhm, hmr⟩ := hom
              rw [hBm] at hBm'
              simp only [Option.some.injEq, Prod.mk.injEq] at hBm'
              obtain ⟨rfl, rfl⟩ := hBm'
              obtain ⟨key, val, e1, e2, e3⟩ := entry_run (P := P) (by simpa using hh) hhm hmr hy0
              refine ⟨.value (.tuple #[key, val]), w, _, ?_, .inl rfl, fun _ => Ext.refl w, _, F, B, hy, Tr.still hf hN (hf.put hN hd (by simp only [VR, VRl]; exact ⟨_, rfl, _, _, rfl, e1, _, _, rfl, e2, rfl⟩)) (by rw [Act.put_size]; exact hN) (fun b h => h)⟩
              simp only [execOp, hev, Sem.run_bind, e3, Result.andThen_ok, Sem.run_pure]
            · exact hy.elim
          · exact h.elim
        · exact h.elim
      · exact h.elim
    · exact h.elim
  case range t x =>
    split at h
    · rename_i d s hs hx
      have ex : a.eval x = .string s := val_of_scalar rfl (by rw [← hx]; exact ev_VR hf x)
      have hh := alloc_at w (.stringIter s 0)
      have ht := newObj_Tr (o := .iter s 0) (av := .addr [d] S.c 0) (v := .pointer (some ⟨w.heap.size, 0, none⟩)) (bo := some (w.heap.size, 0)) hf hN hd [] (ext_alloc w (.stringIter s 0)) rfl rfl rfl
        (fun b n hb => by simp only [Option.some.injEq, Prod.mk.injEq] at hb; obtain ⟨rfl, rfl⟩ := hb; exact ⟨Nat.le_refl _, by rw [alloc_size]; omega⟩)
        (by simp only [OR]; exact ⟨_, _, updB_new, hh⟩) (by simp only [VR]; exact ⟨Nat.lt_succ_self _, _, _, updB_new, rfl⟩)
      refine ⟨.value (.pointer (some ⟨w.heap.size, 0, none⟩)), _, _, ?_, .inl rfl, fun _ => ext_alloc w _, _, _, _, h, ht⟩
      simp [execOp, ex, Instr.range, run_underlying (shapeT_str hs), newObj]
      rfl
    · rename_i d k g hx
      split at h
      · rename_i kt et g' es hu hob
        obtain ⟨rfl, h⟩ := h
        have hxv := ev_VR hf x
        rw [hx] at hxv
        simp only [VR] at hxv
        obtain ⟨hg, b, n, hB, hev⟩ := hxv
        have hor := hf.objsIn hob
        simp only [OR] at hor
        obtain ⟨b', n', ea, hB', hh0, hmr⟩ := hor
        rw [hB] at hB'
        simp only [Option.some.injEq, Prod.mk.injEq] at hB'
        obtain ⟨rfl, rfl⟩ := hB'
        have hh := alloc_at w (.mapIter (some b) es.length #[] es.length)
        have ht := newObj_Tr (o := .miter g' es.length es.length [] none) (av := .addr [d] S.c 0) (v := .pointer (some ⟨w.heap.size, 0, none⟩)) (bo := some (w.heap.size, 0)) hf hN hd [] (ext_alloc w (.mapIter (some b) es.length #[] es.length)) rfl rfl rfl
          (fun b n hb => by simp only [Option.some.injEq, Prod.mk.injEq] at hb; obtain ⟨rfl, rfl⟩ := hb; exact ⟨Nat.le_refl _, by rw [alloc_size]; omega⟩)
          (by simp only [OR]; exact ⟨Nat.lt_succ_of_lt hg, _, _, b, n, updB_new, by rw [updB_old hg]; exact hB, by simpa using hh, Nat.le_refl _⟩) (by simp only [VR]; exact ⟨Nat.lt_succ_self _, _, _, updB_new, rfl⟩)
        refine ⟨.value (.pointer (some ⟨w.heap.size, 0, none⟩)), _, _, ?_, .inl rfl, fun _ => ext_alloc w _, _, _, _, h, ht⟩
        have hgo : (getObj b).run P w = .ok (.map ea es.length) w := by simp [getObj, Sem.run, hh0]
        simp [execOp, hev, Instr.range, run_underlying hu, hgo, newObj]
        rfl
      · exact h.elim
    · exact h.elim
  case next x isS =>
    split at h
    · rename_i d xv
      unfold nextM at h
      split at h
      · rename_i k g c hx
        split at h
        · rename_i g' m since last seen cur hob
          obtain ⟨rfl, rfl, h⟩ := h
          split at h
          · rename_i es hog
            obtain ⟨hes, h1, h2⟩ := h
            have hxv := ev_VR hf x
            rw [hx] at hxv
            simp only [VR] at hxv
            obtain ⟨hg, b, n, hB, hev⟩ := hxv
            have hor := hf.objsIn hob
            simp only [OR] at hor
            obtain ⟨hmc, b', n', bm, nm, hB', hBm, hh, hsl⟩ := hor
            rw [hB] at hB'
            simp only [Option.some.injEq, Prod.mk.injEq] at hB'
            obtain ⟨rfl, rfl⟩ := hB'
            obtain ⟨km, hmm⟩ := mem_of_objG hog
            have hom := (hf.objs _ _ _ hmm).2
            simp only [OR] at hom
            obtain ⟨bm', nm', ea, hBm', hhm, hmr⟩ := hom
            rw [hBm] at hBm'
            simp only [Option.some.injEq, Prod.mk.injEq] at hBm'
            obtain ⟨rfl, rfl⟩ := hBm'
            have hlt := lt_heap hh
            rcases next_run (P := P) ty hh hhm hmr (Nat.le_of_eq hes) hsl with ⟨g1, g2⟩ | ⟨j, kx, vx, key, val, w1, g1, g2, g3, g4, g5, hw1, g6⟩
            · refine ⟨.value (.tuple #[.bool false]), w, _, ?_, .inl rfl, fun hds => by simp [isDs] at hds, _, F, B, h2 g1, Tr.still hf hN (hf.put hN hd (by simp [VR, VRl, DRv, DRc])) (by rw [Act.put_size]; exact hN) (fun b h => h)⟩
              simp only [execOp, hev, Sem.run_bind, g2, Result.andThen_ok, Sem.run_pure]
            · have hk := h1 j g1 g2 _ g3
              have hhe : w1.heap = w.heap := by rcases hw1 with rfl | rfl <;> rfl
              have ho1 : w1.os = w.os := by rcases hw1 with rfl | rfl <;> rfl
              have ho2 : w1.tape = w.tape := by rcases hw1 with rfl | rfl <;> rfl
              have ho3 : w1.output = w.output := by rcases hw1 with rfl | rfl <;> rfl
              have hne : ∀ i, i ≠ b → (setB w1 b (.mapIter (some bm) since ((seen ++ cur.toList) ++ [j]).toArray es.length)).heap[i]? = w.heap[i]? := fun i hi => by rw [setB_ne w1 b i _ hi, hhe]
              have hsz : (setB w1 b (.mapIter (some bm) since ((seen ++ cur.toList) ++ [j]).toArray es.length)).heap.size = w.heap.size := by rw [setB_size, hhe]
              have hF : ∀ i, F i → (setB w1 b (.mapIter (some bm) since ((seen ++ cur.toList) ++ [j]).toArray es.length)).heap[i]? = w.heap[i]? := fun i hi => hne i fun e => (hf.sep b ⟨k, g', _, n, mem_of_objIn hob, hB⟩).1 (e ▸ hi)
              have hf2 := FR.upd (w' := setB w1 b (.mapIter (some bm) since ((seen ++ cur.toList) ++ [j]).toArray es.length)) (o := .miter m since es.length (seen ++ cur.toList) (some j)) hf hob hB (by rw [hsz]; omega) (fun i _ hi => hne i hi)
                (by simp only [OR]; exact ⟨hmc, b, n, bm, nm, hB, hBm, by rw [setB_at w1 b _ (by rw [hhe]; exact hlt)]; simp, by omega⟩)
              have hf3 := hf2.put (S := ⟨S.E, setO S.H k (.miter m since es.length (seen ++ cur.toList) (some j)), S.c⟩) hN hd (av := .tup [.d (.bool true), .d kx, .d vx]) (v := .tuple #[.bool true, key, val]) (by
                simp only [VR, VRl]
                exact ⟨_, rfl, _, _, rfl, by simp [DRv, DRc], _, _, rfl, g4.mono hF (fun _ h => h), _, _, rfl, g5.mono hF (fun _ h => h), rfl⟩)
              have ht := Tr.stored (N := N) hf (by exact hN) hob hB hf2 (fun i hi => hne i hi) ho1 ho2 ho3 hsz (fun i hi => own_setO hob hi)
              refine ⟨.value (.tuple #[.bool true, key, val]), _, _, ?_, .inl rfl, fun hds => by simp [isDs] at hds, _, F, B, hk, ⟨hf3, by rw [Act.put_size]; exact hN, ht.sub, ht.keep, ht.new, ht.os, ht.tape, ht.output, ht.size, ht.old⟩⟩
              simp only [execOp, hev, Sem.run_bind, g6, Result.andThen_ok, Sem.run_pure]
          · exact h.elim
        · exact h.elim
      · exact h.elim
    · rename_i d k g c hx
      split at h
      · rename_i g' s pos hob
        obtain ⟨rfl, rfl, h1, h2⟩ := h
        have hxv := ev_VR hf x
        rw [hx] at hxv
        simp only [VR] at hxv
        obtain ⟨hg, b, n, hB, hev⟩ := hxv
        have hor := hf.objsIn hob
        simp only [OR] at hor
        obtain ⟨b', n', hB', hh⟩ := hor
        rw [hB] at hB'
        simp only [Option.some.injEq, Prod.mk.injEq] at hB'
        obtain ⟨rfl, rfl⟩ := hB'
        have hlt := lt_heap hh
        have hgo : (getObj b).run P w = .ok (.stringIter s pos) w := by simp [getObj, Sem.run, hh]
        by_cases hp : pos < s.size
        · have hso : ∀ o', (setObj b o').run P w = .ok () (setB w b o') := by intro o'; simp [setObj, Sem.run, hh, setB]
          have hF : ∀ i, F i → (setB w b (.stringIter s (pos + (Utf8.decode s pos).2))).heap[i]? = w.heap[i]? := fun i hi => setB_ne w b i _ fun e => (hf.sep b ⟨k, g', _, n, mem_of_objIn hob, hB⟩).1 (e ▸ hi)
          have hf2 := FR.upd (w' := setB w b (.stringIter s (pos + (Utf8.decode s pos).2))) (o := .iter s (pos + (Utf8.decode s pos).2)) hf hob hB (by rw [setB_size]; omega) (fun i _ hi => setB_ne w b i _ hi) (by simp only [OR]; exact ⟨b, n, hB, setB_at w b _ hlt⟩)
          have hf3 := hf2.put (S := ⟨S.E, setO S.H k (.iter s (pos + (Utf8.decode s pos).2)), S.c⟩) hN hd (av := .tup [.d (.bool true), .d (.int .i64 pos), .d (.int .i32 (Utf8.decode s pos).1)]) (v := .tuple #[.bool true, .int .i64 pos, .int .i32 (Utf8.decode s pos).1]) (by simp [VR, VRl, DRv, DRc])
          have ht := Tr.stored (N := N) hf (by exact hN) hob hB hf2 (fun i hi => setB_ne w b i _ hi) rfl rfl rfl (setB_size w b _) (fun i hi => own_setO hob hi)
          refine ⟨.value (.tuple #[.bool true, .int .i64 pos, .int .i32 (Utf8.decode s pos).1]), _, _, ?_, .inl rfl, fun hds => by simp [isDs] at hds, _, F, B, h1 hp, ⟨hf3, by rw [Act.put_size]; exact hN, ht.sub, ht.keep, ht.new, ht.os, ht.tape, ht.output, ht.size, ht.old⟩⟩
          simp only [execOp, hev, Instr.next, Sem.run_bind, hgo, Result.andThen_ok, if_pos hp, hso, Sem.run_pure]
          rfl
        · refine ⟨.value (.tuple #[.bool false]), w, _, ?_, .inl rfl, fun hds => by simp [isDs] at hds, _, F, B, h2 (by omega), Tr.still hf hN (hf.put hN hd (by simp [VR, VRl, DRv, DRc])) (by rw [Act.put_size]; exact hN) (fun b h => h)⟩
          simp only [execOp, hev, Instr.next, Sem.run_bind, hgo, Result.andThen_ok, if_neg hp, Sem.run_pure]
      · exact h.elim
    · exact h.elim
  case call cl =>
    obtain ⟨callee, args, ats⟩ := cl
    split at h
    · rename_i d hcal
      have hcal' : callee = .builtin .append := hcal
      subst hcal'
      split at h
      · rename_i x y hxy
        have hxy' : args.toList = [x, y] := hxy
        have hargs : args.map a.eval = #[a.eval x, a.eval y] := Array.ext' (by simp [hxy'])
        have hW : ∃ r w', (Builtin.append_ ats ty #[a.eval x, a.eval y]).run P w = .ok r w' ∧ ∃ S' F' B', K S' ∧ Tr N F B w S F' B' w' S' (a.put (some d) r) := by
          have vx := ev_VR hf x
          have vy := ev_VR hf y
          generalize S.ev x = sx at h vx
          generalize S.ev y = sy at h vy
          generalize a.eval x = ux at vx ⊢
          generalize a.eval y = uy at vy ⊢
          unfold appW at h
          split at h
          · rename_i n
            have ey : uy = .int .i64 n := val_of_scalar rfl vy
            have ex : ux = .slice none 0 0 := by simpa only [VR] using vx
            subst ey
            subst ex
            unfold appendZ at h
            split at h
            · rename_i t t' ht
              have hats' : ats = #[t, t'] := Array.ext' (by simpa using ht)
              subst hats'
              split at h
              · rename_i e sz b hei
                obtain ⟨h1, h2, h3, h4, h⟩ := h
                split at h
                · rename_i z hz
                  obtain ⟨hz1, hz2, hzl, hk⟩ := h
                  obtain ⟨ti, hu, hti, hsz, h0, hag, hb1⟩ := elemI_spec hei
                  obtain ⟨cs, cap, e1, e2, e3, e4, e5⟩ := appendZ_run (P := P) (w := w) (F := F) (ty := ty) hf.Flt hei h1 h2 h3 h4 hz hzl
                  have hrl : (List.replicate n.toNat z).length = n.toNat := by simp
                  have ht := row_Tr (B := B) (e := e) (n := cap) (xs := List.replicate n.toNat z) (cs := cs) (fr := (0, 0)) hf hN hd [] (unf0 cs) h0 e2 (by omega) e4 (by rw [hrl, FK_nil]; exact e5) (w' := w.drew.alloc (.cells cs e)) rfl rfl rfl rfl
                  rw [hrl] at ht
                  exact ⟨_, _, e1, _, _, _, hk, ht⟩
                · exact h.elim
              · exact h.elim
            · exact h.elim
          · exact appendV_run (ty := ty) hf hN hd vx vy h
        obtain ⟨r, w', e1, S', F', B', hk, ht⟩ := hW
        refine ⟨.value r, w', r, ?_, .inl rfl, fun hds => by simp [isDs] at hds, S', F', B', hk, ht⟩
        simp only [execOp, resolve, invoke, builtin, Sem.run_bind, Sem.run_pure, Result.andThen_ok, hargs]
        simp only [e1, Result.andThen_ok, Sem.run_pure]
      · exact h.elim
    · exact h.elim
end
end Go.Fw
namespace Go.Fw
open Go
set_option linter.unusedVariables false
set_option linter.unusedSimpArgs false
 
inductive CV where
  | d (x : D)
  | nils
  | own (e sz : Nat) (l : List D)
  | box (e : Nat) (l : List CV)
  | agg (l : List CV)
  | gone
def CV.cell : CV → Bool
  | .d x => !x.isAgg
  | .agg _ | .gone => false
  | _ => true
def cvCells : List CV → Bool
  | [] => true
  | x :: r => x.cell && cvCells r
mutual
def CR (w : World) (F : Nat → Prop) : CV → Value → List Nat → Prop
  | .d x, v, fp => DRv w F x v ∧ fp = []
  | .nils, v, fp => v = .slice none 0 0 ∧ fp = []
  | .own e sz l, v, fp => (v = .slice none 0 0 ∧ l = [] ∧ fp = []) ∨
      ∃ b n cs fr, v = .slice (some ⟨b, 0, none⟩) l.length n ∧ w.heap[b]? = some (.cells cs e fr) ∧ Unf cs fr ∧ 0 < sz ∧ cs.size = n * sz ∧ l.length ≤ n ∧ n ≤ maxLen ∧ DRr w F sz l (cs.toList.take (l.length * sz)) ∧ fp = [b]
  | .box e l, v, fp => ∃ b cs fr fp', v = .pointer (some ⟨b, 0, none⟩) ∧ w.heap[b]? = some (.cells cs e fr) ∧ Unf cs fr ∧ cvCells l = true ∧ CRl w F l cs.toList fp' ∧ fp = b :: fp'
  | .agg l, v, fp => ∃ cs, v = .agg cs ∧ cvCells l = true ∧ CRl w F l cs.toList fp
  | .gone, v, fp => fp = []
def CRl (w : World) (F : Nat → Prop) : List CV → List Value → List Nat → Prop
  | [], vs, fp => vs = [] ∧ fp = []
  | x :: r, vs, fp => ∃ v vs' f1 f2, vs = v :: vs' ∧ CR w F x v f1 ∧ CRl w F r vs' f2 ∧ fp = f1 ++ f2
end
mutual
 
def intern (k : Key) (c : Nat) : CV → AV × List (Key × Nat × AO) × Nat
  | .d x => (.d x, [], c)
  | .nils => (.nils, [], c)
  | .own e sz l => (.ref k c sz 0 l.length, [(k, c, .row e sz l)], c + 1)
  | .box e l => (.addr k c 0, (k, c, .box e (interns k 0 (c + 1) l).1) :: (interns k 0 (c + 1) l).2.1, (interns k 0 (c + 1) l).2.2)
  | .agg l => (mkAgg (interns k 0 c l).1, (interns k 0 c l).2.1, (interns k 0 c l).2.2)
  | .gone => (.dead, [], c)
def interns (k : Key) (i c : Nat) : List CV → List AV × List (Key × Nat × AO) × Nat
  | [] => ([], [], c)
  | x :: r => ((intern (k ++ [i]) c x).1 :: (interns k (i + 1) (intern (k ++ [i]) c x).2.2 r).1,
      (intern (k ++ [i]) c x).2.1 ++ (interns k (i + 1) (intern (k ++ [i]) c x).2.2 r).2.1, (interns k (i + 1) (intern (k ++ [i]) c x).2.2 r).2.2)
end
section
variable {P : Program} {F : Nat → Prop} {w w' : World}
 
structure Laid (w : World) (F : Nat → Prop) (B B' : Blk) (c c' : Nat) (hs : List (Key × Nat × AO)) (fp : List Nat) : Prop where
  old : ∀ g, g < c → B' g = B g
  le : c ≤ c'
  objs : ∀ x ∈ hs, c ≤ x.2.1 ∧ x.2.1 < c' ∧ OR w F B' c' x.2.1 x.2.2
  blk : ∀ x ∈ hs, ∀ b n, B' x.2.1 = some (b, n) → b ∈ fp
  inj : (hs.map fun x => x.2.1).Pairwise fun g g' => g ≠ g' ∧ ∀ b n n', B' g = some (b, n) → B' g' ≠ some (b, n')
theorem OR.lift {B B' : Blk} {c c' g : Nat} (hB : ∀ g, g < c → B' g = B g) (hc : c ≤ c') (hg : g < c) {o : AO} (h : OR w F B c g o) : OR w F B' c' g o :=
  OR.mono (fun _ _ => rfl) (fun _ h => h) hB hc hg (fun _ _ _ => rfl) h
theorem VR.lift {B B' : Blk} {c c' : Nat} (hB : ∀ g, g < c → B' g = B g) (hc : c ≤ c') {x : AV} {v : Value} (h : VR w F B c x v) : VR w F B' c' x v :=
  VR.mono (fun _ _ => rfl) (fun _ h => h) hB hc x v h
mutual
theorem intern_spec : ∀ (x : CV) (k : Key) (c : Nat) (v : Value) (fp : List Nat) (B : Blk), CR w F x v fp → fp.Nodup → ∃ B', Laid w F B B' c (intern k c x).2.2 (intern k c x).2.1 fp ∧ VR w F B' (intern k c x).2.2 (intern k c x).1 v ∧ (x.cell = true → (intern k c x).1.cell = true)
  | .d x, k, c, v, fp, B, h, hn => by
    simp only [CR] at h
    exact ⟨B, ⟨fun _ _ => rfl, Nat.le_refl _, by simp [intern], by simp [intern], by simp [intern]⟩, by simpa [intern, VR] using h.1, by simp [intern, CV.cell, AV.cell]⟩
  | .nils, k, c, v, fp, B, h, hn => by
    simp only [CR] at h
    exact ⟨B, ⟨fun _ _ => rfl, Nat.le_refl _, by simp [intern], by simp [intern], by simp [intern]⟩, by simpa [intern, VR] using h.1, by simp [intern, AV.cell]⟩
  | .gone, k, c, v, fp, B, h, hn => ⟨B, ⟨fun _ _ => rfl, Nat.le_refl _, by simp [intern], by simp [intern], by simp [intern]⟩, by simp [intern, VR], by simp [CV.cell]⟩
  | .own e sz l, k, c, v, fp, B, h, hn => by
    simp only [CR] at h
    simp only [intern]
    rcases h with ⟨rfl, rfl, rfl⟩ | ⟨b, n, cs, fr, rfl, hh, hu, h0, hcs, hln, hm, hd, rfl⟩
    · refine ⟨updB B c none, ⟨fun g hg => updB_old hg, Nat.le_succ _, fun x hx => ?_, fun x hx b n hb => ?_, by simp⟩, ?_, by simp [AV.cell]⟩
      · simp only [List.mem_singleton] at hx
        subst hx
        exact ⟨Nat.le_refl _, Nat.lt_succ_self _, by simp only [OR, updB_new]⟩
      · simp only [List.mem_singleton] at hx
        subst hx
        rw [updB_new] at hb
        cases hb
      · simp only [VR, updB_new]
        exact ⟨Nat.lt_succ_self _, by simp⟩
    · refine ⟨updB B c (some (b, n)), ⟨fun g hg => updB_old hg, Nat.le_succ _, fun x hx => ?_, fun x hx b' n' hb => ?_, by simp⟩, ?_, by simp [AV.cell]⟩
      · simp only [List.mem_singleton] at hx
        subst hx
        exact ⟨Nat.le_refl _, Nat.lt_succ_self _, by simp only [OR, updB_new]; exact ⟨cs, fr, hh, hu, h0, hcs, hln, hm, hd⟩⟩
      · simp only [List.mem_singleton] at hx
        subst hx
        rw [updB_new] at hb
        simp only [Option.some.injEq, Prod.mk.injEq] at hb
        simp [hb.1]
      · simp only [VR, updB_new]
        exact ⟨Nat.lt_succ_self _, _, rfl, by omega, .inl (by simp)⟩
  | .box e l, k, c, v, fp, B, h, hn => by
    simp only [CR] at h
    obtain ⟨b, cs, fr, fp', rfl, hh, hu, hc, hl, rfl⟩ := h
    simp only [List.nodup_cons] at hn
    obtain ⟨B', hL, hv, hcc⟩ := interns_spec l k 0 (c + 1) cs.toList fp' (updB B c (some (b, 0))) hl hn.2
    have hBc : B' c = some (b, 0) := by rw [hL.old c (Nat.lt_succ_self _), updB_new]
    simp only [intern]
    refine ⟨B', ⟨fun g hg => by rw [hL.old g (by omega), updB_old hg], Nat.le_trans (Nat.le_succ _) hL.le, fun x hx => ?_, fun x hx b' n' hb => ?_, ?_⟩, ?_, by simp [AV.cell]⟩
    · rcases List.mem_cons.1 hx with rfl | hx
      · exact ⟨Nat.le_refl _, hL.le, by simp only [OR]; exact ⟨b, 0, cs, fr, hBc, hh, hu, hcc hc, hv⟩⟩
      · obtain ⟨h1, h2, h3⟩ := hL.objs x hx
        exact ⟨by omega, h2, h3⟩
    · rcases List.mem_cons.1 hx with rfl | hx
      · simp only [hBc, Option.some.injEq, Prod.mk.injEq] at hb
        simp [hb.1]
      · exact List.mem_cons_of_mem _ (hL.blk x hx b' n' hb)
    · simp only [List.map_cons, List.pairwise_cons]
      refine ⟨fun g hg => ?_, hL.inj⟩
      obtain ⟨x, hx, rfl⟩ := List.mem_map.1 hg
      refine ⟨by have := (hL.objs x hx).1; omega, fun b' n n' h1 h2 => ?_⟩
      rw [hBc] at h1
      simp only [Option.some.injEq, Prod.mk.injEq] at h1
      exact hn.1 (h1.1 ▸ hL.blk x hx b' n' h2)
    · simp only [VR]
      exact ⟨by have := hL.le; omega, b, 0, hBc, rfl⟩
  | .agg l, k, c, v, fp, B, h, hn => by
    simp only [CR] at h
    obtain ⟨cs, rfl, hc, hl⟩ := h
    obtain ⟨B', hL, hv, hcc⟩ := interns_spec l k 0 c cs.toList fp B hl hn
    simp only [intern]
    exact ⟨B', hL, mkAgg_VR (hcc hc) hv, by simp [CV.cell]⟩
theorem interns_spec : ∀ (l : List CV) (k : Key) (i c : Nat) (vs : List Value) (fp : List Nat) (B : Blk), CRl w F l vs fp → fp.Nodup → ∃ B', Laid w F B B' c (interns k i c l).2.2 (interns k i c l).2.1 fp ∧ VRl w F B' (interns k i c l).2.2 (interns k i c l).1 vs ∧ (cvCells l = true → cellsOK (interns k i c l).1 = true)
  | [], k, i, c, vs, fp, B, h, hn => by
    simp only [CRl] at h
    obtain ⟨rfl, rfl⟩ := h
    exact ⟨B, ⟨fun _ _ => rfl, Nat.le_refl _, by simp [interns], by simp [interns], by simp [interns]⟩, by simp [interns, VRl], by simp [interns, cellsOK]⟩
  | x :: r, k, i, c, vs, fp, B, h, hn => by
    simp only [CRl] at h
    obtain ⟨v, vs', f1, f2, rfl, h1, h2, rfl⟩ := h
    have hn' := List.nodup_append.1 hn
    obtain ⟨B1, hL1, hv1, hc1⟩ := intern_spec x (k ++ [i]) c v f1 B h1 hn'.1
    simp only [interns]
    generalize intern (k ++ [i]) c x = p at *
    obtain ⟨B2, hL2, hv2, hc2⟩ := interns_spec r k (i + 1) p.2.2 vs' f2 B1 h2 hn'.2.1
    generalize interns k (i + 1) p.2.2 r = q at *
    refine ⟨B2, ⟨fun g hg => by rw [hL2.old g (Nat.lt_of_lt_of_le hg hL1.le), hL1.old g hg], Nat.le_trans hL1.le hL2.le, fun x hx => ?_, fun x hx b n hb => ?_, ?_⟩, ?_, fun hc => ?_⟩
    · rcases List.mem_append.1 hx with hx | hx
      · obtain ⟨a1, a2, a3⟩ := hL1.objs x hx
        exact ⟨a1, Nat.lt_of_lt_of_le a2 hL2.le, a3.lift hL2.old hL2.le a2⟩
      · obtain ⟨a1, a2, a3⟩ := hL2.objs x hx
        exact ⟨Nat.le_trans hL1.le a1, a2, a3⟩
    · rcases List.mem_append.1 hx with hx | hx
      · rw [hL2.old _ (hL1.objs x hx).2.1] at hb
        exact List.mem_append_left _ (hL1.blk x hx b n hb)
      · exact List.mem_append_right _ (hL2.blk x hx b n hb)
    · rw [List.map_append, List.pairwise_append]
      refine ⟨?_, hL2.inj, fun g hg g' hg' => ?_⟩
      · refine List.Pairwise.imp_of_mem (fun {g g'} hg hg' hh => ?_) hL1.inj
        obtain ⟨x, hx, rfl⟩ := List.mem_map.1 hg
        obtain ⟨y, hy, rfl⟩ := List.mem_map.1 hg'
        refine ⟨hh.1, fun b n n' => ?_⟩
        rw [hL2.old _ (hL1.objs x hx).2.1, hL2.old _ (hL1.objs y hy).2.1]
        exact hh.2 b n n'
      · obtain ⟨x, hx, rfl⟩ := List.mem_map.1 hg
        obtain ⟨y, hy, rfl⟩ := List.mem_map.1 hg'
        have a := (hL1.objs x hx).2.1
        have b' := (hL2.objs y hy).1
        refine ⟨by omega, fun b n n' e1 e2 => ?_⟩
        rw [hL2.old _ a] at e1
        exact hn'.2.2 b (hL1.blk x hx b n e1) b (hL2.blk y hy b n' e2) rfl
    · simp only [VRl]
      exact ⟨v, vs', rfl, hv1.lift hL2.old hL2.le, hv2⟩
    · simp only [cvCells, Bool.and_eq_true] at hc
      simp only [cellsOK, hc1 hc.1, hc2 hc.2, Bool.and_self]
end
end
end Go.Fw
namespace Go.Fw
open Go
set_option linter.unusedVariables false
set_option linter.unusedSimpArgs false
mutual
 
def ext (H : List (Key × Nat × AO)) : Nat → AV → Option (CV × List Key)
  | 0, _ => none
  | n + 1, .d x => some (.d x, [])
  | n + 1, .nils => some (.nils, [])
  | n + 1, .ref k g sz off len => match objIn H k with
    | some (g', .row e z l) => if g' = g ∧ z = sz ∧ off = 0 ∧ len ≤ l.length then some (.own e z (l.take len), [k]) else none
    | _ => none
  | n + 1, .addr k g c => match objIn H k with
    | some (g', .box e l) => if g' = g ∧ c = 0 then match exts H n l with
        | some (xs, ks) => some (.box e xs, k :: ks)
        | none => none
      else none
    | _ => none
  | n + 1, .agg l => match exts H n l with
    | some (xs, ks) => some (.agg xs, ks)
    | none => none
  | n + 1, .dead => some (.gone, [])
  | n + 1, _ => none
def exts (H : List (Key × Nat × AO)) : Nat → List AV → Option (List CV × List Key)
  | 0, _ => none
  | n + 1, [] => some ([], [])
  | n + 1, x :: r => match ext H n x, exts H n r with
    | some (y, k1), some (ys, k2) => some (y :: ys, k1 ++ k2)
    | _, _ => none
end
def blkOf (H : List (Key × Nat × AO)) (B : Blk) (k : Key) : Option Nat := match objIn H k with
  | some (g, _) => (B g).map Prod.fst
  | none => none
def fpOf (H : List (Key × Nat × AO)) (B : Blk) (ks : List Key) : List Nat := ks.filterMap (blkOf H B)
 
inductive Mode where
  | ro | frz | own
def argsC (P : Program) (H : List (Key × Nat × AO)) : List Mode → List AV → Option (List CV × List Key × List Key × List Key)
  | _, [] => some ([], [], [], [])
  | ms, x :: r => match argsC P H ms.tail r with
    | some (cs, kf, kr, ko) => match ms.headD .frz with
      | .own => match ext H 60 x with
        | some (c, ks) => some (c :: cs, kf, kr, ks ++ ko)
        | none => none
      | .ro => match toD P H 60 x with
        | some (y, ks) => some (.d y :: cs, kf, ks ++ kr, ko)
        | none => none
      | .frz => match toD P H 60 x with
        | some (y, ks) => some (.d y :: cs, ks ++ kf, kr, ko)
        | none => none
    | none => none
mutual
def CV.flat : CV → Bool
  | .d x => x.flat
  | .nils => true
  | .own _ _ l => D.flat.flats l
  | .box _ l => flats l
  | .agg l => flats l
  | .gone => true
def flats : List CV → Bool
  | [] => true
  | x :: r => x.flat && flats r
end
section
variable {P : Program} {F : Nat → Prop} {B : Blk} {w w' : World} {S : St} {a : Act}
theorem fpOf_mem {H : List (Key × Nat × AO)} {ks : List Key} {b : Nat} (h : b ∈ fpOf H B ks) : FK H B ks b := by
  obtain ⟨k, hk, hb⟩ := List.mem_filterMap.1 h
  unfold blkOf at hb
  split at hb
  · rename_i g o ho
    cases hB : B g with
    | none => simp [hB] at hb
    | some p =>
      obtain ⟨b', n⟩ := p
      simp [hB] at hb
      subst hb
      exact ⟨k, g, o, n, hk, mem_of_objIn ho, hB⟩
  · cases hb
theorem fpOf_nodup (hf : FR F B w S a) {ks : List Key} (h : ks.Nodup) : (fpOf S.H B ks).Nodup := by
  refine List.pairwise_filterMap.2 (h.imp fun {k k'} hne b hb b' hb' e => ?_)
  subst e
  unfold blkOf at hb hb'
  split at hb
  · rename_i g o ho
    split at hb'
    · rename_i g' o' ho'
      have m1 := mem_of_objIn ho
      have m2 := mem_of_objIn ho'
      cases hB : B g with
      | none => simp [hB] at hb
      | some p =>
        cases hB' : B g' with
        | none => simp [hB'] at hb'
        | some p' =>
          obtain ⟨b1, n1⟩ := p
          obtain ⟨b2, n2⟩ := p'
          simp [hB] at hb
          simp [hB'] at hb'
          subst hb
          subst hb'
          by_cases hg : g = g'
          · have := same_entry hf.gensNodup m1 m2 hg
            simp only [Prod.mk.injEq] at this
            exact hne this.1
          · exact hf.apart m1 m2 hg hB hB'
    · cases hb'
  · cases hb
theorem fpOf_append {H : List (Key × Nat × AO)} (k1 k2 : List Key) : fpOf H B (k1 ++ k2) = fpOf H B k1 ++ fpOf H B k2 := List.filterMap_append
mutual
theorem ext_spec (hf : FR F B w S a) : ∀ (n : Nat) (x : AV) (y : CV) (ks : List Key) (v : Value), ext S.H n x = some (y, ks) → VR w F B S.c x v → CR w F y v (fpOf S.H B ks) ∧ (x.cell = true → y.cell = true)
  | 0, x, y, ks, v, h, hv => by simp [ext] at h
  | n + 1, .d x, y, ks, v, h, hv => by
    simp only [ext, Option.some.injEq, Prod.mk.injEq] at h
    obtain ⟨rfl, rfl⟩ := h
    simp only [VR] at hv
    exact ⟨by simp only [CR]; exact ⟨hv, rfl⟩, by simp [AV.cell, CV.cell]⟩
  | n + 1, .nils, y, ks, v, h, hv => by
    simp only [ext, Option.some.injEq, Prod.mk.injEq] at h
    obtain ⟨rfl, rfl⟩ := h
    simp only [VR] at hv
    exact ⟨by simp only [CR]; exact ⟨hv, rfl⟩, by simp [CV.cell]⟩
  | n + 1, .ref k g sz off len, y, ks, v, h, hv => by
    simp only [ext] at h
    split at h
    · rename_i g' e z l hob
      split at h
      · rename_i hc
        obtain ⟨rfl, rfl, rfl, hle⟩ := hc
        simp only [Option.some.injEq, Prod.mk.injEq] at h
        obtain ⟨rfl, rfl⟩ := h
        have hor := hf.objsIn hob
        simp only [VR] at hv
        obtain ⟨hg, hv⟩ := hv
        refine ⟨?_, by simp [CV.cell]⟩
        simp only [CR]
        have htl : (l.take len).length = len := by simp; omega
        have hfp : fpOf S.H B [k] = match B g' with | some (b, _) => [b] | none => [] := by
          simp only [fpOf, List.filterMap_cons, blkOf, hob, List.filterMap_nil]
          cases hB : B g' with
          | none => simp
          | some p => simp
        split at hv
        · rename_i hB
          obtain ⟨rfl, _, hl⟩ := hv
          simp only [OR, hB] at hor
          exact .inl ⟨rfl, by rw [hor, List.take_nil], by rw [hfp, hB]⟩
        · rename_i b m hB
          obtain ⟨ad, rfl, hcap, had⟩ := hv
          simp only [OR, hB] at hor
          obtain ⟨cs, fr, hh, hun, hz0, hcs, hln, hmx, hdr⟩ := hor
          rcases had with rfl | ⟨_, h0⟩
          · refine .inr ⟨b, m, cs, fr, by rw [htl]; simp, hh, hun, hz0, hcs, by rw [htl]; omega, hmx, ?_, by rw [hfp, hB]⟩
            have h1 := hdr.take len
            rw [htl]
            have hmul : len * z ≤ l.length * z := Nat.mul_le_mul_right _ hle
            rwa [List.take_take, Nat.min_eq_left hmul] at h1
          · omega
      · cases h
    · cases h
  | n + 1, .addr k g c, y, ks, v, h, hv => by
    simp only [ext] at h
    split at h
    · rename_i g' e l hob
      split at h
      · rename_i hc
        obtain ⟨rfl, rfl⟩ := hc
        split at h
        · rename_i xs ks' hxs
          simp only [Option.some.injEq, Prod.mk.injEq] at h
          obtain ⟨rfl, rfl⟩ := h
          have hor := hf.objsIn hob
          simp only [OR] at hor
          obtain ⟨b, m, cs, fr, hB, hh, hun, hco, hvl⟩ := hor
          simp only [VR] at hv
          obtain ⟨hg, b', m', hB', rfl⟩ := hv
          rw [hB] at hB'
          simp only [Option.some.injEq, Prod.mk.injEq] at hB'
          obtain ⟨rfl, rfl⟩ := hB'
          obtain ⟨h1, h2⟩ := exts_spec hf n l xs ks' cs.toList hxs hvl
          refine ⟨?_, by simp [CV.cell]⟩
          simp only [CR]
          refine ⟨b, cs, fr, _, rfl, hh, hun, h2 hco, h1, ?_⟩
          simp only [fpOf, List.filterMap_cons, blkOf, hob, hB, Option.map_some]
        · cases h
      · cases h
    · cases h
  | n + 1, .agg l, y, ks, v, h, hv => by
    simp only [ext] at h
    split at h
    · rename_i xs ks' hxs
      simp only [Option.some.injEq, Prod.mk.injEq] at h
      obtain ⟨rfl, rfl⟩ := h
      simp only [VR] at hv
      obtain ⟨cs, rfl, hco, hvl⟩ := hv
      obtain ⟨h1, h2⟩ := exts_spec hf n l xs ks' cs.toList hxs hvl
      refine ⟨?_, by simp [AV.cell]⟩
      simp only [CR]
      exact ⟨cs, rfl, h2 hco, h1⟩
    · cases h
  | n + 1, .dead, y, ks, v, h, hv => by
    simp only [ext, Option.some.injEq, Prod.mk.injEq] at h
    obtain ⟨rfl, rfl⟩ := h
    exact ⟨by simp [CR, fpOf], by simp [AV.cell]⟩
  | n + 1, .elt .., y, ks, v, h, hv => by simp [ext] at h
  | n + 1, .tup _, y, ks, v, h, hv => by simp [ext] at h
  | n + 1, .clo .., y, ks, v, h, hv => by simp [ext] at h
  | n + 1, .opt .., y, ks, v, h, hv => by simp [ext] at h
theorem exts_spec (hf : FR F B w S a) : ∀ (n : Nat) (l : List AV) (xs : List CV) (ks : List Key) (vs : List Value), exts S.H n l = some (xs, ks) → VRl w F B S.c l vs → CRl w F xs vs (fpOf S.H B ks) ∧ (cellsOK l = true → cvCells xs = true)
  | 0, l, xs, ks, vs, h, hv => by simp [exts] at h
  | n + 1, [], xs, ks, vs, h, hv => by
    simp only [exts, Option.some.injEq, Prod.mk.injEq] at h
    obtain ⟨rfl, rfl⟩ := h
    simp only [VRl] at hv
    exact ⟨by simp only [CRl]; exact ⟨hv, rfl⟩, by simp [cvCells]⟩
  | n + 1, x :: r, xs, ks, vs, h, hv => by
    simp only [exts] at h
    split at h
    · rename_i y k1 ys k2 h1 h2
      simp only [Option.some.injEq, Prod.mk.injEq] at h
      obtain ⟨rfl, rfl⟩ := h
      simp only [VRl] at hv
      obtain ⟨v, vs', rfl, hv1, hv2⟩ := hv
      obtain ⟨a1, a2⟩ := ext_spec hf n x y k1 v h1 hv1
      obtain ⟨b1, b2⟩ := exts_spec hf n r ys k2 vs' h2 hv2
      refine ⟨?_, fun hc => ?_⟩
      · simp only [CRl]
        exact ⟨v, vs', _, _, rfl, a1, b1, fpOf_append k1 k2⟩
      · simp only [cellsOK, Bool.and_eq_true] at hc
        simp only [cvCells, a2 hc.1, b2 hc.2, Bool.and_self]
    · cases h
end
mutual
theorem CR.mono {F' : Nat → Prop} (hF : ∀ b, F b → F' b) : ∀ (x : CV) (v : Value) (fp : List Nat), CR w F x v fp → CR w F' x v fp
  | .d x, v, fp, h => by simp only [CR] at h ⊢; exact ⟨DRv_mono_F hF h.1, h.2⟩
  | .nils, v, fp, h => by simpa only [CR] using h
  | .own e sz l, v, fp, h => by
    simp only [CR] at h ⊢
    rcases h with h | ⟨b, n, cs, fr, h1, h2, h3, h4, h5, h6, h7, h8, h9⟩
    · exact .inl h
    · exact .inr ⟨b, n, cs, fr, h1, h2, h3, h4, h5, h6, h7, DRr.mono (fun _ _ => rfl) hF _ _ _ h8, h9⟩
  | .box e l, v, fp, h => by
    simp only [CR] at h ⊢
    obtain ⟨b, cs, fr, fp', h1, h2, h3, h4, h5, h6⟩ := h
    exact ⟨b, cs, fr, fp', h1, h2, h3, h4, CRl.mono hF _ _ _ h5, h6⟩
  | .agg l, v, fp, h => by
    simp only [CR] at h ⊢
    obtain ⟨cs, h1, h2, h3⟩ := h
    exact ⟨cs, h1, h2, CRl.mono hF _ _ _ h3⟩
  | .gone, v, fp, h => by simpa only [CR] using h
theorem CRl.mono {F' : Nat → Prop} (hF : ∀ b, F b → F' b) : ∀ (l : List CV) (vs : List Value) (fp : List Nat), CRl w F l vs fp → CRl w F' l vs fp
  | [], vs, fp, h => by simpa only [CRl] using h
  | x :: r, vs, fp, h => by
    simp only [CRl] at h ⊢
    obtain ⟨v, vs', f1, f2, e, h1, h2, e2⟩ := h
    exact ⟨v, vs', f1, f2, e, CR.mono hF _ _ _ h1, CRl.mono hF _ _ _ h2, e2⟩
end
mutual
theorem DRc.flat {F' : Nat → Prop} : ∀ (x : D) (vs : List Value), x.flat = true → DRc w F x vs → DRc w F' x vs
  | .int _ _, _, hx, h => by simpa only [DRc] using h
  | .bool _, _, hx, h => by simpa only [DRc] using h
  | .str _, _, hx, h => by simpa only [DRc] using h
  | .nilp, _, hx, h => by simpa only [DRc] using h
  | .nilm, _, hx, h => by simpa only [DRc] using h
  | .nilf, _, hx, h => by simpa only [DRc] using h
  | .sl sz l, vs, hx, h => by
    simp only [D.flat, List.isEmpty_iff] at hx
    subst hx
    simp only [DRc] at h ⊢
    obtain ⟨A, c, h1, h2, h3, _⟩ := h
    exact ⟨A, c, h1, h2, h3, .inl trivial⟩
  | .ptr x, vs, hx, h => by simp [D.flat] at hx
  | .agg l, vs, hx, h => by
    simp only [D.flat] at hx
    simp only [DRc] at h ⊢
    exact DRl.flat l vs hx h
  | .clo fn f c, vs, hx, h => by
    simp only [D.flat, Bool.and_eq_true, List.isEmpty_iff] at hx
    obtain ⟨rfl, rfl⟩ := hx
    simp only [DRc, DRl] at h ⊢
    exact h
theorem DRl.flat {F' : Nat → Prop} : ∀ (l : List D) (vs : List Value), D.flat.flats l = true → DRl w F l vs → DRl w F' l vs
  | [], _, hx, h => by simpa only [DRl] using h
  | x :: r, vs, hx, h => by
    simp only [D.flat.flats, Bool.and_eq_true] at hx
    simp only [DRl] at h ⊢
    obtain ⟨v, vs', e, h0, h1, h2⟩ := h
    exact ⟨v, vs', e, h0, DRc.flat x _ hx.1 h1, DRl.flat r _ hx.2 h2⟩
end
theorem DRr.flat {F' : Nat → Prop} {sz : Nat} : ∀ (l : List D) (vs : List Value), D.flat.flats l = true → DRr w F sz l vs → DRr w F' sz l vs
  | [], _, hx, h => by simpa only [DRr] using h
  | x :: r, vs, hx, h => by
    simp only [D.flat.flats, Bool.and_eq_true] at hx
    simp only [DRr] at h ⊢
    obtain ⟨a, b, e, hl, h1, h2⟩ := h
    exact ⟨a, b, e, hl, DRc.flat x _ hx.1 h1, DRr.flat r _ hx.2 h2⟩
theorem DRv.flat {F' : Nat → Prop} {x : D} {v : Value} (hx : x.flat = true) (h : DRv w F x v) : DRv w F' x v := by
  cases x <;> simp only [DRv] at h ⊢
  case agg l =>
    obtain ⟨cs, e, h⟩ := h
    simp only [D.flat] at hx
    exact ⟨cs, e, DRl.flat _ _ hx h⟩
  all_goals exact DRc.flat _ _ hx h
mutual
theorem CR.flat {F' : Nat → Prop} : ∀ (x : CV) (v : Value) (fp : List Nat), x.flat = true → CR w F x v fp → CR w F' x v fp
  | .d x, v, fp, hx, h => by simp only [CV.flat] at hx; simp only [CR] at h ⊢; exact ⟨h.1.flat hx, h.2⟩
  | .nils, v, fp, hx, h => by simpa only [CR] using h
  | .own e sz l, v, fp, hx, h => by
    simp only [CV.flat] at hx
    simp only [CR] at h ⊢
    rcases h with h | ⟨b, n, cs, fr, h1, h2, h3, h4, h5, h6, h7, h8, h9⟩
    · exact .inl h
    · exact .inr ⟨b, n, cs, fr, h1, h2, h3, h4, h5, h6, h7, DRr.flat _ _ hx h8, h9⟩
  | .box e l, v, fp, hx, h => by
    simp only [CV.flat] at hx
    simp only [CR] at h ⊢
    obtain ⟨b, cs, fr, fp', h1, h2, h3, h4, h5, h6⟩ := h
    exact ⟨b, cs, fr, fp', h1, h2, h3, h4, CRl.flat _ _ _ hx h5, h6⟩
  | .agg l, v, fp, hx, h => by
    simp only [CV.flat] at hx
    simp only [CR] at h ⊢
    obtain ⟨cs, h1, h2, h3⟩ := h
    exact ⟨cs, h1, h2, CRl.flat _ _ _ hx h3⟩
  | .gone, v, fp, hx, h => by simpa only [CR] using h
theorem CRl.flat {F' : Nat → Prop} : ∀ (l : List CV) (vs : List Value) (fp : List Nat), flats l = true → CRl w F l vs fp → CRl w F' l vs fp
  | [], vs, fp, hx, h => by simpa only [CRl] using h
  | x :: r, vs, fp, hx, h => by
    simp only [flats, Bool.and_eq_true] at hx
    simp only [CRl] at h ⊢
    obtain ⟨v, vs', f1, f2, e, h1, h2, e2⟩ := h
    exact ⟨v, vs', f1, f2, e, CR.flat _ _ _ hx.1 h1, CRl.flat _ _ _ hx.2 h2, e2⟩
end
theorem argsC_spec (hf : FR F B w S a) : ∀ (ms : List Mode) (xs : List AV) (cs : List CV) (kf kr ko : List Key) (vs : List Value), argsC P S.H ms xs = some (cs, kf, kr, ko) → VRl w F B S.c xs vs →
    CRl w (fun b => F b ∨ FK S.H B kf b ∨ FK S.H B kr b) cs vs (fpOf S.H B ko)
  | ms, [], cs, kf, kr, ko, vs, h, hv => by
    simp only [argsC, Option.some.injEq, Prod.mk.injEq] at h
    obtain ⟨rfl, rfl, rfl, rfl⟩ := h
    simp only [VRl] at hv
    simp only [CRl]
    exact ⟨hv, rfl⟩
  | ms, x :: r, cs, kf, kr, ko, vs, h, hv => by
    simp only [argsC] at h
    simp only [VRl] at hv
    obtain ⟨v, vs', rfl, hv1, hv2⟩ := hv
    split at h
    · rename_i cs0 kf0 kr0 ko0 h0
      have ih := argsC_spec hf ms.tail r cs0 kf0 kr0 ko0 vs' h0 hv2
      split at h
      · split at h
        · rename_i c ks hx
          simp only [Option.some.injEq, Prod.mk.injEq] at h
          obtain ⟨rfl, rfl, rfl, rfl⟩ := h
          simp only [CRl]
          exact ⟨v, vs', _, _, rfl, CR.mono (fun b => .inl) _ _ _ (ext_spec hf 60 x c ks v hx hv1).1, ih, fpOf_append _ _⟩
        · cases h
      · split at h
        · rename_i y ks hx
          simp only [Option.some.injEq, Prod.mk.injEq] at h
          obtain ⟨rfl, rfl, rfl, rfl⟩ := h
          simp only [CRl]
          refine ⟨v, vs', [], _, rfl, ?_, CRl.mono (fun b hb => hb.imp id (.imp id (FK_mono fun k hk => List.mem_append_right _ hk))) _ _ _ ih, rfl⟩
          simp only [CR]
          exact ⟨DRv_mono_F (fun b hb => hb.imp id (fun h => .inr (FK_mono (fun k hk => List.mem_append_left _ hk) h))) (toD_DR hf 60 x y ks v hx hv1), trivial⟩
        · cases h
      · split at h
        · rename_i y ks hx
          simp only [Option.some.injEq, Prod.mk.injEq] at h
          obtain ⟨rfl, rfl, rfl, rfl⟩ := h
          simp only [CRl]
          refine ⟨v, vs', [], _, rfl, ?_, CRl.mono (fun b hb => hb.imp id (.imp (FK_mono fun k hk => List.mem_append_right _ hk) id)) _ _ _ ih, rfl⟩
          simp only [CR]
          exact ⟨DRv_mono_F (fun b hb => hb.imp id (fun h => .inl (FK_mono (fun k hk => List.mem_append_left _ hk) h))) (toD_DR hf 60 x y ks v hx hv1), trivial⟩
        · cases h
    · cases h
end
end Go.Fw
namespace Go.Fw
open Go
set_option linter.unusedVariables false
set_option linter.unusedSimpArgs false
 
def Rv (v : Value) : List Value → Prop
  | [x] => v = x
  | l => v = .tuple l.toArray
 
structure Left (F : Nat → Prop) (w : World) (vs : List Value) (fp : List Nat) (rs az : List CV) (v : Value) (w' : World) (F' : Nat → Prop) (vr : List Value) (f1 f2 : List Nat) : Prop where
  res : Rv v vr
  rs : CRl w' F' rs vr f1
  az : CRl w' F' az vs f2
  nodup : (f1 ++ f2).Nodup
  sep : ∀ b ∈ f1 ++ f2, ¬ F' b ∧ b < w'.heap.size
  lt : ∀ b, F' b → b < w'.heap.size
  sub : ∀ b, F b → F' b
  keep : ∀ b, b < w.heap.size → b ∉ fp → w'.heap[b]? = w.heap[b]?
  new : ∀ b, F' b ∨ b ∈ f1 ++ f2 → F b ∨ b ∈ fp ∨ w.heap.size ≤ b
  os : w'.os = w.os
  tape : w'.tape = w.tape
  output : w'.output = w.output
  size : w.heap.size ≤ w'.heap.size
 
def Enters (P : Program) (g : FuncId) (args : Array Value) (w : World) (R : Value → World → Prop) : Prop :=
  match (callFunc g args).run P w with
  | .ok (.value v) w' => R v w'
  | .ok (.enter f xs) w' => Calls P f xs w' fun
    | .returned v, w'' => R v w''
    | _, _ => False
  | .ok (.row row xs) w' => Rows P row xs w' R
  | _ => False
 
def Con (P : Program) (g : FuncId) (args : List CV) (R : List CV → List CV → Prop) : Prop :=
  ∀ F w vs fp, CRl w F args vs fp → fp.Nodup → (∀ b ∈ fp, ¬ F b ∧ b < w.heap.size) → FL F w →
    Enters P g vs.toArray w fun v w' => ∃ rs az F' vr f1 f2, R rs az ∧ Left F w vs fp rs az v w' F' vr f1 f2
theorem Con.mono {P : Program} {g : FuncId} {args : List CV} {R R' : List CV → List CV → Prop} (h : Con P g args R) (hr : ∀ rs az, R rs az → R' rs az) : Con P g args R' := by
  intro F w vs fp h1 h2 h3 h4
  have := h F w vs fp h1 h2 h3 h4
  unfold Enters at this ⊢
  split at this
  · obtain ⟨rs, az, F', vr, f1, f2, h, l⟩ := this
    exact ⟨rs, az, F', vr, f1, f2, hr _ _ h, l⟩
  · refine this.mono fun e w' he => ?_
    cases e
    · obtain ⟨rs, az, F', vr, f1, f2, h, l⟩ := he
      exact ⟨rs, az, F', vr, f1, f2, hr _ _ h, l⟩
    · exact he
    · exact he
  · refine this.mono fun v w' he => ?_
    obtain ⟨rs, az, F', vr, f1, f2, h, l⟩ := he
    exact ⟨rs, az, F', vr, f1, f2, hr _ _ h, l⟩
  · exact this.elim
 
structure LaidG (G : List Nat) (w : World) (F : Nat → Prop) (B B' : Blk) (c c' : Nat) (hs : List (Key × Nat × AO)) (fp : List Nat) : Prop where
  old : ∀ g, g < c → B' g = B g
  le : c ≤ c'
  objs : ∀ x ∈ hs, (x.2.1 ∈ G ∨ c ≤ x.2.1) ∧ x.2.1 < c' ∧ OR w F B' c' x.2.1 x.2.2
  blk : ∀ x ∈ hs, ∀ b n, B' x.2.1 = some (b, n) → b ∈ fp
  inj : (hs.map fun x => x.2.1).Pairwise fun g g' => g ≠ g' ∧ ∀ b n n', B' g = some (b, n) → B' g' ≠ some (b, n')
theorem Laid.toG {w : World} {F : Nat → Prop} {B B' : Blk} {c c' : Nat} {hs : List (Key × Nat × AO)} {fp : List Nat} (h : Laid w F B B' c c' hs fp) : LaidG [] w F B B' c c' hs fp :=
  ⟨h.old, h.le, fun x hx => ⟨.inr (h.objs x hx).1, (h.objs x hx).2⟩, h.blk, h.inj⟩
theorem LaidG.append {G1 G2 : List Nat} {w : World} {F : Nat → Prop} {B B1 B2 : Blk} {c c1 c2 : Nat} {h1 h2 : List (Key × Nat × AO)} {f1 f2 : List Nat}
    (a : LaidG G1 w F B B1 c c1 h1 f1) (b : LaidG G2 w F B1 B2 c1 c2 h2 f2) (hG1 : ∀ g ∈ G1, g < c) (hG2 : ∀ g ∈ G2, g < c) (hG : (G1 ++ G2).Nodup) (hf : (f1 ++ f2).Nodup) : LaidG (G1 ++ G2) w F B B2 c c2 (h1 ++ h2) (f1 ++ f2) := by
  have hn := List.nodup_append.1 hf
  have hgn := List.nodup_append.1 hG
  refine ⟨fun g hg => by rw [b.old g (Nat.lt_of_lt_of_le hg a.le), a.old g hg], Nat.le_trans a.le b.le, fun x hx => ?_, fun x hx i n hi => ?_, ?_⟩
  · rcases List.mem_append.1 hx with hx | hx
    · obtain ⟨p, q, r⟩ := a.objs x hx
      exact ⟨p.imp (List.mem_append_left _) id, Nat.lt_of_lt_of_le q b.le, r.lift b.old b.le q⟩
    · obtain ⟨p, q, r⟩ := b.objs x hx
      exact ⟨p.imp (List.mem_append_right _) (Nat.le_trans a.le), q, r⟩
  · rcases List.mem_append.1 hx with hx | hx
    · rw [b.old _ (a.objs x hx).2.1] at hi
      exact List.mem_append_left _ (a.blk x hx i n hi)
    · exact List.mem_append_right _ (b.blk x hx i n hi)
  · rw [List.map_append, List.pairwise_append]
    refine ⟨?_, b.inj, fun g hg g' hg' => ?_⟩
    · refine List.Pairwise.imp_of_mem (fun {g g'} hg hg' hh => ?_) a.inj
      obtain ⟨x, hx, rfl⟩ := List.mem_map.1 hg
      obtain ⟨y, hy, rfl⟩ := List.mem_map.1 hg'
      refine ⟨hh.1, fun i n n' => ?_⟩
      rw [b.old _ (a.objs x hx).2.1, b.old _ (a.objs y hy).2.1]
      exact hh.2 i n n'
    · obtain ⟨x, hx, rfl⟩ := List.mem_map.1 hg
      obtain ⟨y, hy, rfl⟩ := List.mem_map.1 hg'
      obtain ⟨p1, p2, _⟩ := a.objs x hx
      obtain ⟨q1, q2, _⟩ := b.objs y hy
      refine ⟨?_, fun i n n' e1 e2 => ?_⟩
      · rcases p1 with p1 | p1 <;> rcases q1 with q1 | q1
        · exact hgn.2.2 _ p1 _ q1
        · have := hG1 _ p1
          have := a.le
          omega
        · have := hG2 _ q1
          omega
        · omega
      · rw [b.old _ p2] at e1
        exact hn.2.2 i (a.blk x hx i n e1) i (b.blk y hy i n' e2) rfl
section
variable {P : Program} {F : Nat → Prop} {B : Blk} {w w' : World} {S : St} {a : Act} {N : Nat}
 
theorem FR.lay (hf : FR F B w S a) {G : List Nat} {B' : Blk} {c' : Nat} {hs : List (Key × Nat × AO)} {fp : List Nat} (hl : LaidG G w F B B' S.c c' hs fp) (hG : ∀ g ∈ G, ∀ x ∈ S.H, x.2.1 ≠ g)
    (hfp : ∀ b ∈ fp, ¬ F b ∧ b < w.heap.size ∧ ¬ Own S.H B b) : FR F B' w ⟨S.E, hs ++ S.H, c'⟩ a where
  slots t := (hf.slots t).lift hl.old hl.le
  objs k g o hm := by
    rcases List.mem_append.1 hm with h | h
    · exact (hl.objs _ h).2
    · have := hf.objs k g o h
      exact ⟨Nat.lt_of_lt_of_le this.1 hl.le, this.2.lift hl.old hl.le this.1⟩
  sep b := by
    rintro ⟨k, g, o, n, hm, hb⟩
    rcases List.mem_append.1 hm with h | h
    · have := hfp b (hl.blk _ h b n hb)
      exact ⟨this.1, this.2.1⟩
    · rw [hl.old g (hf.objs k g o h).1] at hb
      exact hf.sep b ⟨k, g, o, n, h, hb⟩
  inj := by
    show ((hs ++ S.H).map fun x => x.2.1).Pairwise _
    rw [List.map_append, List.pairwise_append]
    refine ⟨hl.inj, ?_, fun g hg g' hg' => ?_⟩
    · refine List.Pairwise.imp_of_mem (fun {g g'} hg hg' hh => ?_) hf.inj
      obtain ⟨x, hx, rfl⟩ := List.mem_map.1 hg
      obtain ⟨y, hy, rfl⟩ := List.mem_map.1 hg'
      refine ⟨hh.1, fun i n n' => ?_⟩
      rw [hl.old _ (hf.objs x.1 x.2.1 x.2.2 hx).1, hl.old _ (hf.objs y.1 y.2.1 y.2.2 hy).1]
      exact hh.2 i n n'
    · obtain ⟨x, hx, rfl⟩ := List.mem_map.1 hg
      obtain ⟨y, hy, rfl⟩ := List.mem_map.1 hg'
      have hlt := (hf.objs y.1 y.2.1 y.2.2 hy).1
      refine ⟨?_, fun i n n' e1 e2 => ?_⟩
      · rcases (hl.objs x hx).1 with h | h
        · exact fun e => hG _ h y hy e.symm
        · omega
      · rw [hl.old _ hlt] at e2
        exact (hfp i (hl.blk x hx i n e1)).2.2 ⟨y.1, y.2.1, y.2.2, n', hy, e2⟩
  Flt := hf.Flt
  defers := hf.defers
  pin := Nat.le_trans hf.pin hl.le
 
theorem FR.world {F' : Nat → Prop} (hf : FR F B w S a) (hk : ∀ b, F b ∨ Own S.H B b → w'.heap[b]? = w.heap[b]?) (hF : ∀ b, F b → F' b) (hsep : ∀ b, Own S.H B b → ¬ F' b) (hlt : FL F' w') (hsz : w.heap.size ≤ w'.heap.size) : FR F' B w' S a where
  slots t := VR.mono (fun b hb => hk b (.inl hb)) hF (fun _ _ => rfl) (Nat.le_refl _) _ _ (hf.slots t)
  objs k g o hm := by
    have := hf.objs k g o hm
    exact ⟨this.1, OR.mono (fun b hb => hk b (.inl hb)) hF (fun _ _ => rfl) (Nat.le_refl _) this.1 (fun b n hb => hk b (.inr ⟨k, g, o, n, hm, hb⟩)) this.2⟩
  sep b hb := ⟨hsep b hb, Nat.lt_of_lt_of_le (hf.sep b hb).2 hsz⟩
  inj := hf.inj
  Flt := hlt
  defers := hf.defers
  pin := hf.pin
 
def reown1 (c : Nat) : AV → CV → List (Key × Nat × AO) × Nat
  | .ref k g _ _ _, .own e z l => ([(k, g, .row e z l)], c)
  | .addr k g _, .box e l => ((k, g, .box e (interns k 0 c l).1) :: (interns k 0 c l).2.1, (interns k 0 c l).2.2)
  | _, _ => ([], c)
def reown (c : Nat) : List Mode → List AV → List CV → List (Key × Nat × AO) × Nat
  | ms, x :: xs, ys => match ms.headD .frz with
    | .own => ((reown1 c x (ys.headD .gone)).1 ++ (reown (reown1 c x (ys.headD .gone)).2 ms.tail xs ys.tail).1, (reown (reown1 c x (ys.headD .gone)).2 ms.tail xs ys.tail).2)
    | _ => reown c ms.tail xs ys.tail
  | _, [], _ => ([], c)
def genOf : AV → List Nat
  | .ref _ g _ _ _ => [g]
  | .addr _ g _ => [g]
  | _ => []
def gensOf : List Mode → List AV → List Nat
  | ms, x :: xs => match ms.headD .frz with
    | .own => genOf x ++ gensOf ms.tail xs
    | _ => gensOf ms.tail xs
  | _, [] => []
theorem reown1_spec {c : Nat} {x : AV} {y : CV} {v : Value} {fp : List Nat} {n : Nat} {cv : CV} {ks : List Key} (he : ext S.H n x = some (cv, ks)) (hv : VR w F B c x v) {F' : Nat → Prop} (hy : CR w' F' y v fp) (hn : fp.Nodup) :
    ∀ B1 c1, (∀ g, g < c → B1 g = B g) → c ≤ c1 → ∃ B', LaidG (genOf x) w' F' B1 B' c1 (reown1 c1 x y).2 (reown1 c1 x y).1 fp := by
  intro B1 c1 hB1 hc
  have triv : (reown1 c1 x y) = ([], c1) → ∃ B', LaidG (genOf x) w' F' B1 B' c1 (reown1 c1 x y).2 (reown1 c1 x y).1 fp := fun h => by
    rw [h]
    exact ⟨B1, fun _ _ => rfl, Nat.le_refl _, by simp, by simp, by simp⟩
  cases x <;> cases y <;> try exact triv rfl
  case ref.own k g sz off len e z l =>
    simp only [reown1, genOf]
    cases n with
    | zero => simp [ext] at he
    | succ n =>
    simp only [ext] at he
    split at he
    · rename_i g' e' z' l' hob
      split at he
      · rename_i hcc
        obtain ⟨rfl, rfl, rfl, _⟩ := hcc
        simp only [VR] at hv
        obtain ⟨hg, hv⟩ := hv
        rw [← hB1 g' hg] at hv
        simp only [CR] at hy
        refine ⟨B1, fun _ _ => rfl, Nat.le_refl _, fun x hx => ?_, fun x hx b m hb => ?_, by simp⟩
        · simp only [List.mem_singleton] at hx
          subst hx
          refine ⟨.inl (by simp), by show g' < c1; omega, ?_⟩
          simp only [OR]
          split at hv
          · rename_i hB
            obtain ⟨rfl, _⟩ := hv
            rcases hy with ⟨_, rfl, _⟩ | ⟨b, n, cs, fr, h1, _⟩
            · rfl
            · cases h1
          · rename_i b m hB
            obtain ⟨ad, rfl, hcap, had⟩ := hv
            rcases hy with ⟨h1, _⟩ | ⟨b', n', cs, fr, h1, h2, h3, h4, h5, h6, h7, h8, h9⟩
            · cases h1
            · simp only [Value.slice.injEq, Option.some.injEq] at h1
              obtain ⟨rfl, h11, h12⟩ := h1
              rcases had with h | ⟨_, h0⟩
              · simp only [Addr.mk.injEq] at h
                obtain ⟨rfl, _, _⟩ := h
                have : n' = m := by omega
                subst this
                exact ⟨cs, fr, h2, h3, h4, h5, h6, h7, h8⟩
              · omega
        · simp only [List.mem_singleton] at hx
          subst hx
          simp only at hb
          split at hv
          · rename_i hB
            rw [hB] at hb
            cases hb
          · rename_i b1 m1 hB
            rw [hB] at hb
            simp only [Option.some.injEq, Prod.mk.injEq] at hb
            obtain ⟨rfl, rfl⟩ := hb
            obtain ⟨ad, rfl, hcap, had⟩ := hv
            rcases hy with ⟨h1, _⟩ | ⟨b', n', cs, fr, h1, h2, h3, h4, h5, h6, h7, h8, h9⟩
            · cases h1
            · simp only [Value.slice.injEq, Option.some.injEq] at h1
              obtain ⟨rfl, h11, h12⟩ := h1
              rcases had with h | ⟨_, h0⟩
              · simp only [Addr.mk.injEq] at h
                obtain ⟨rfl, _, _⟩ := h
                simp [h9]
              · omega
      · cases he
    · cases he
  case addr.box k g o e l =>
    simp only [reown1, genOf]
    cases n with
    | zero => simp [ext] at he
    | succ n =>
    simp only [ext] at he
    split at he
    · rename_i g' e' l' hob
      split at he
      · rename_i hcc
        obtain ⟨rfl, rfl⟩ := hcc
        simp only [VR] at hv
        obtain ⟨hg, b, m, hB, rfl⟩ := hv
        rw [← hB1 g' hg] at hB
        simp only [CR] at hy
        obtain ⟨b', cs, fr, fp', h1, hh, hu, hcl, hl, rfl⟩ := hy
        simp only [Value.pointer.injEq, Option.some.injEq, Addr.mk.injEq] at h1
        obtain ⟨rfl, _, _⟩ := h1
        simp only [List.nodup_cons] at hn
        obtain ⟨B', hL, hvl, hcc⟩ := interns_spec l k 0 c1 cs.toList fp' B1 hl hn.2
        have hBg : B' g' = some (b, m) := by rw [hL.old g' (by omega), hB]
        refine ⟨B', hL.old, hL.le, fun x hx => ?_, fun x hx i n hi => ?_, ?_⟩
        · rcases List.mem_cons.1 hx with rfl | hx
          · refine ⟨.inl (by simp), by have := hL.le; show g' < _; omega, ?_⟩
            simp only [OR]
            exact ⟨b, m, cs, fr, hBg, hh, hu, hcc hcl, hvl⟩
          · obtain ⟨p, q, r⟩ := hL.objs x hx
            exact ⟨.inr p, q, r⟩
        · rcases List.mem_cons.1 hx with rfl | hx
          · simp only [hBg, Option.some.injEq, Prod.mk.injEq] at hi
            simp [hi.1]
          · exact List.mem_cons_of_mem _ (hL.blk x hx i n hi)
        · simp only [List.map_cons, List.pairwise_cons]
          refine ⟨fun g2 hg2 => ?_, hL.inj⟩
          obtain ⟨x, hx, rfl⟩ := List.mem_map.1 hg2
          refine ⟨by have := (hL.objs x hx).1; omega, fun i n n' e1 e2 => ?_⟩
          rw [hBg] at e1
          simp only [Option.some.injEq, Prod.mk.injEq] at e1
          exact hn.1 (e1.1 ▸ hL.blk x hx i n' e2)
      · cases he
    · cases he
theorem ext_gen {n : Nat} {x : AV} {cv : CV} {ks : List Key} (he : ext S.H n x = some (cv, ks)) : ∀ g ∈ genOf x, ∃ k o, k ∈ ks ∧ objIn S.H k = some (g, o) := by
  intro g hg
  cases x <;> simp only [genOf, List.not_mem_nil, List.mem_singleton] at hg
  case ref k g' sz off len =>
    subst hg
    cases n with
    | zero => simp [ext] at he
    | succ n =>
    simp only [ext] at he
    split at he
    · rename_i hob
      split at he
      · rename_i hc
        simp only [Option.some.injEq, Prod.mk.injEq] at he
        obtain ⟨_, rfl⟩ := he
        exact ⟨k, _, by simp, hc.1 ▸ hob⟩
      · cases he
    · cases he
  case addr k g' c =>
    subst hg
    cases n with
    | zero => simp [ext] at he
    | succ n =>
    simp only [ext] at he
    split at he
    · rename_i hob
      split at he
      · rename_i hc
        split at he
        · simp only [Option.some.injEq, Prod.mk.injEq] at he
          obtain ⟨_, rfl⟩ := he
          exact ⟨k, _, by simp, hc.1 ▸ hob⟩
        · cases he
      · cases he
    · cases he
theorem argsC_gens : ∀ (ms : List Mode) (xs : List AV) (cs : List CV) (kf kr ko : List Key), argsC P S.H ms xs = some (cs, kf, kr, ko) → ∀ g ∈ gensOf ms xs, ∃ k o, k ∈ ko ∧ objIn S.H k = some (g, o)
  | ms, [], cs, kf, kr, ko, h, g, hg => by simp [gensOf] at hg
  | ms, x :: r, cs, kf, kr, ko, h, g, hg => by
    simp only [argsC] at h
    simp only [gensOf] at hg
    split at h
    · rename_i cs0 kf0 kr0 ko0 h0
      have ih := argsC_gens ms.tail r cs0 kf0 kr0 ko0 h0
      split at h
      · rename_i hm
        simp only [hm] at hg
        split at h
        · rename_i c ks hx
          simp only [Option.some.injEq, Prod.mk.injEq] at h
          obtain ⟨rfl, rfl, rfl, rfl⟩ := h
          rcases List.mem_append.1 hg with hg | hg
          · obtain ⟨k, o, h1, h2⟩ := ext_gen hx g hg
            exact ⟨k, o, List.mem_append_left _ h1, h2⟩
          · obtain ⟨k, o, h1, h2⟩ := ih g hg
            exact ⟨k, o, List.mem_append_right _ h1, h2⟩
        · cases h
      · rename_i hm
        simp only [hm] at hg
        split at h
        · simp only [Option.some.injEq, Prod.mk.injEq] at h
          obtain ⟨rfl, rfl, rfl, rfl⟩ := h
          exact ih g hg
        · cases h
      · rename_i hm
        simp only [hm] at hg
        split at h
        · simp only [Option.some.injEq, Prod.mk.injEq] at h
          obtain ⟨rfl, rfl, rfl, rfl⟩ := h
          exact ih g hg
        · cases h
    · cases h
theorem argsC_gensNodup (hf : FR F B w S a) : ∀ (ms : List Mode) (xs : List AV) (cs : List CV) (kf kr ko : List Key), argsC P S.H ms xs = some (cs, kf, kr, ko) → ko.Nodup → (gensOf ms xs).Nodup
  | ms, [], cs, kf, kr, ko, h, hn => by simp [gensOf]
  | ms, x :: r, cs, kf, kr, ko, h, hn => by
    simp only [argsC] at h
    simp only [gensOf]
    split at h
    · rename_i cs0 kf0 kr0 ko0 h0
      have ih := argsC_gensNodup hf ms.tail r cs0 kf0 kr0 ko0 h0
      have ig := argsC_gens ms.tail r cs0 kf0 kr0 ko0 h0
      split at h
      · rename_i hm
        simp only [hm]
        split at h
        · rename_i c ks hx
          simp only [Option.some.injEq, Prod.mk.injEq] at h
          obtain ⟨rfl, rfl, rfl, rfl⟩ := h
          have hn' := List.nodup_append.1 hn
          refine List.nodup_append.2 ⟨?_, ih hn'.2.1, fun g hg g' hg' e => ?_⟩
          · cases x <;> simp [genOf]
          · subst e
            obtain ⟨k, o, h1, h2⟩ := ext_gen hx g hg
            obtain ⟨k', o', h1', h2'⟩ := ig g hg'
            have := same_entry hf.gensNodup (mem_of_objIn h2) (mem_of_objIn h2') rfl
            simp only [Prod.mk.injEq] at this
            exact hn'.2.2 k h1 k' h1' this.1
        · cases h
      · rename_i hm
        simp only [hm]
        split at h
        · simp only [Option.some.injEq, Prod.mk.injEq] at h
          obtain ⟨rfl, rfl, rfl, rfl⟩ := h
          exact ih hn
        · cases h
      · rename_i hm
        simp only [hm]
        split at h
        · simp only [Option.some.injEq, Prod.mk.injEq] at h
          obtain ⟨rfl, rfl, rfl, rfl⟩ := h
          exact ih hn
        · cases h
    · cases h
theorem reown_spec (hf : FR F B w S a) {F' : Nat → Prop} : ∀ (ms : List Mode) (xs : List AV) (cs : List CV) (kf kr ko : List Key) (vs : List Value) (az : List CV) (fp : List Nat), argsC P S.H ms xs = some (cs, kf, kr, ko) → ko.Nodup → VRl w F B S.c xs vs → CRl w' F' az vs fp → fp.Nodup →
    ∀ B1 c1, (∀ g, g < S.c → B1 g = B g) → S.c ≤ c1 → ∃ B' f, LaidG (gensOf ms xs) w' F' B1 B' c1 (reown c1 ms xs az).2 (reown c1 ms xs az).1 f ∧ f.Nodup ∧ ∀ b ∈ f, b ∈ fp
  | ms, [], cs, kf, kr, ko, vs, az, fp, h, hn, hv, hc, hfp, B1, c1, hB, hc1 => by
    have e : reown c1 ms [] az = ([], c1) := rfl
    rw [e]
    exact ⟨B1, [], ⟨fun _ _ => rfl, Nat.le_refl _, by simp, by simp, by simp⟩, by simp, by simp⟩
  | ms, x :: r, cs, kf, kr, ko, vs, [], fp, h, hn, hv, hc, hfp, B1, c1, hB, hc1 => by
    simp only [VRl] at hv
    obtain ⟨v, vs', rfl, _⟩ := hv
    simp only [CRl] at hc
    exact absurd hc.1 (by simp)
  | ms, x :: r, cs, kf, kr, ko, vs, y :: ys, fp, h, hn, hv, hc, hfp, B1, c1, hB, hc1 => by
    have h' := h
    simp only [argsC] at h
    simp only [VRl] at hv
    obtain ⟨v, vs', rfl, hv1, hv2⟩ := hv
    simp only [CRl] at hc
    obtain ⟨v0, vs0, f1, f2, e0, hy, hys, rfl⟩ := hc
    simp only [List.cons.injEq] at e0
    obtain ⟨rfl, rfl⟩ := e0
    have hfn := List.nodup_append.1 hfp
    split at h
    · rename_i cs0 kf0 kr0 ko0 h0
      split at h
      · rename_i hm
        split at h
        · rename_i cc ks hx
          simp only [Option.some.injEq, Prod.mk.injEq] at h
          obtain ⟨rfl, rfl, rfl, rfl⟩ := h
          have hn' := List.nodup_append.1 hn
          have hgn := argsC_gensNodup hf ms (x :: r) _ _ _ _ h' hn
          have hgl : ∀ g ∈ gensOf ms (x :: r), g < S.c := fun g hg => by
            obtain ⟨k, o, _, h2⟩ := argsC_gens ms (x :: r) _ _ _ _ h' g hg
            exact (hf.objs _ _ _ (mem_of_objIn h2)).1
          obtain ⟨B2, hL1⟩ := reown1_spec hx hv1 hy hfn.1 B1 c1 hB hc1
          simp only [reown, hm, gensOf, List.headD_cons, List.tail_cons] at hgn hgl ⊢
          generalize reown1 c1 x y = p at *
          obtain ⟨B3, f, hL2, hfd, hfs⟩ := reown_spec hf ms.tail r cs0 kf0 kr0 ko0 vs' ys f2 h0 hn'.2.1 hv2 hys hfn.2.1 B2 p.2 (fun g hg => by rw [hL1.old g (by omega), hB g hg]) (Nat.le_trans hc1 hL1.le)
          have hnd : (f1 ++ f).Nodup := List.nodup_append.2 ⟨hfn.1, hfd, fun b hb b' hb' => hfn.2.2 b hb b' (hfs b' hb')⟩
          exact ⟨B3, f1 ++ f, hL1.append hL2 (fun g hg => by have := hgl g (List.mem_append_left _ hg); omega) (fun g hg => by have := hgl g (List.mem_append_right _ hg); omega) hgn hnd, hnd, fun b hb => by
            rcases List.mem_append.1 hb with h | h
            · exact List.mem_append_left _ h
            · exact List.mem_append_right _ (hfs b h)⟩
        · cases h
      · rename_i hm
        split at h
        · simp only [Option.some.injEq, Prod.mk.injEq] at h
          obtain ⟨rfl, rfl, rfl, rfl⟩ := h
          obtain ⟨B3, f, hL2, hfd, hfs⟩ := reown_spec hf ms.tail r cs0 kf0 _ ko0 vs' ys f2 h0 hn hv2 hys hfn.2.1 B1 c1 hB hc1
          simp only [reown, hm, gensOf, List.tail_cons]
          exact ⟨B3, f, hL2, hfd, fun b hb => List.mem_append_right _ (hfs b hb)⟩
        · cases h
      · rename_i hm
        split at h
        · simp only [Option.some.injEq, Prod.mk.injEq] at h
          obtain ⟨rfl, rfl, rfl, rfl⟩ := h
          obtain ⟨B3, f, hL2, hfd, hfs⟩ := reown_spec hf ms.tail r cs0 _ kr0 ko0 vs' ys f2 h0 hn hv2 hys hfn.2.1 B1 c1 hB hc1
          simp only [reown, hm, gensOf, List.tail_cons]
          exact ⟨B3, f, hL2, hfd, fun b hb => List.mem_append_right _ (hfs b hb)⟩
        · cases h
    · cases h
end
end Go.Fw
namespace Go.Fw
open Go
set_option linter.unusedVariables false
set_option linter.unusedSimpArgs false
def resV (d c : Nat) : List CV → AV × List (Key × Nat × AO) × Nat
  | [r] => intern [d] c r
  | rs => (.tup (interns [d] 0 c rs).1, (interns [d] 0 c rs).2.1, (interns [d] 0 c rs).2.2)
def resO (dst : Option Nat) (c : Nat) (rs : List CV) : AV × List (Key × Nat × AO) × Nat := match dst with
  | some d => resV d c rs
  | none => (.dead, [], c)
def dropO (dst : Option Nat) (H : List (Key × Nat × AO)) : List (Key × Nat × AO) := match dst with
  | some d => dropKey [d] H
  | none => H
def rmKeys (ks : List Key) (H : List (Key × Nat × AO)) : List (Key × Nat × AO) := match ks with
  | [] => H
  | ks => H.filter fun x => !(decide (x.1 ∈ ks))
def afterCall (S : St) (dst : Option Nat) (ms : List Mode) (xs : List AV) (kf ko : List Key) (rs az : List CV) : St :=
  St.put ⟨(S.freeze kf).E, (resO dst S.c rs).2.1 ++ ((reown (resO dst S.c rs).2.2 ms xs az).1 ++ dropO dst (rmKeys ko (S.freeze kf).H)), (reown (resO dst S.c rs).2.2 ms xs az).2⟩ dst (resO dst S.c rs).1
theorem rmKeys_sub (ks : List Key) (H : List (Key × Nat × AO)) : (rmKeys ks H).Sublist H := by cases ks with
  | nil => exact List.Sublist.refl _
  | cons k r => exact List.filter_sublist
theorem rmKeys_not {ks : List Key} {H : List (Key × Nat × AO)} {x : Key × Nat × AO} (h : x ∈ rmKeys ks H) : x.1 ∉ ks := by
  cases ks with
  | nil => simp
  | cons k r => have := (List.mem_filter.1 h).2; simpa using this
theorem dropO_sub (dst : Option Nat) (H : List (Key × Nat × AO)) : (dropO dst H).Sublist H := by cases dst with
  | none => exact List.Sublist.refl _
  | some d => exact dropKey_sub _ _
section
variable {P : Program} {F : Nat → Prop} {B : Blk} {w w' : World} {S : St} {a : Act} {N : Nat}
theorem resO_spec {dst : Option Nat} {c : Nat} {rs : List CV} {vr : List Value} {v : Value} {f1 : List Nat} (hr : Rv v vr) (h : CRl w F rs vr f1) (hn : f1.Nodup) (B : Blk) :
    ∃ B' f, LaidG [] w F B B' c (resO dst c rs).2.2 (resO dst c rs).2.1 f ∧ f.Nodup ∧ (∀ b ∈ f, b ∈ f1) ∧ VR w F B' (resO dst c rs).2.2 (resO dst c rs).1 v := by
  cases dst with
  | none => exact ⟨B, [], ⟨fun _ _ => rfl, Nat.le_refl _, by simp [resO], by simp [resO], by simp [resO]⟩, by simp, by simp, by simp [resO, VR]⟩
  | some d =>
    have gen : resV d c rs = (.tup (interns [d] 0 c rs).1, (interns [d] 0 c rs).2.1, (interns [d] 0 c rs).2.2) → v = .tuple vr.toArray → ∃ B' f, LaidG [] w F B B' c (resO (some d) c rs).2.2 (resO (some d) c rs).2.1 f ∧ f.Nodup ∧ (∀ b ∈ f, b ∈ f1) ∧ VR w F B' (resO (some d) c rs).2.2 (resO (some d) c rs).1 v := fun e ev => by
      obtain ⟨B', hL, hv, _⟩ := interns_spec rs [d] 0 c vr f1 B h hn
      simp only [resO, e]
      exact ⟨B', f1, hL.toG, hn, fun _ h => h, by simp only [VR]; exact ⟨_, ev, hv⟩⟩
    match rs, h with
    | [], h => simp only [CRl] at h; obtain ⟨rfl, _⟩ := h; exact gen rfl hr
    | [r], h =>
      simp only [CRl] at h
      obtain ⟨v0, vs', g1, g2, rfl, h1, ⟨rfl, rfl⟩, rfl⟩ := h
      simp only [Rv] at hr
      subst hr
      rw [List.append_nil] at hn
      obtain ⟨B', hL, hv, _⟩ := intern_spec r [d] c v g1 B h1 hn
      simp only [resO, resV]
      exact ⟨B', g1, hL.toG, hn, fun b hb => by simpa using hb, hv⟩
    | r :: r2 :: rr, h =>
      have h' := h
      simp only [CRl] at h'
      obtain ⟨v0, vs', g1, g2, rfl, h1, ⟨v1, vs1, g3, g4, rfl, _⟩, rfl⟩ := h'
      exact gen rfl hr
theorem call_Tr (hf : FR F B w S a) (hN : a.tmps.size = N) {dst : Option Nat} (hd : dstOK N dst = true) {ms : List Mode} {xs : List AV} {cs : List CV} {kf kr ko : List Key} {vs : List Value}
    (ha : argsC P S.H ms xs = some (cs, kf, kr, ko)) (hv : VRl w F B S.c xs vs) (hn : ko.Nodup) (hdj : ∀ k ∈ ko, k ∉ kf ∧ k ∉ kr) {rs az : List CV} {v : Value} {F' : Nat → Prop} {vr : List Value} {f1 f2 : List Nat}
    (hl : Left (fun b => F b ∨ FK S.H B kf b ∨ FK S.H B kr b) w vs (fpOf S.H B ko) rs az v w' F' vr f1 f2) (hfl : kr = [] ∨ (flats rs = true ∧ flats az = true)) :
    ∃ F2 B2, Tr N F B w S F2 B2 w' (afterCall S dst ms xs kf ko rs az) (a.put dst v) := by
  have hf1 := hf.freeze kf
  have hnd := List.nodup_append.1 hl.nodup
  have hapart : ∀ k1 g1 o1 k2 g2 o2 b n1 n2, (k1, g1, o1) ∈ S.H → (k2, g2, o2) ∈ S.H → k1 ≠ k2 → B g1 = some (b, n1) → B g2 = some (b, n2) → False := by
    intro k1 g1 o1 k2 g2 o2 b n1 n2 m1 m2 hne e1 e2
    by_cases hg : g1 = g2
    · have := same_entry hf.gensNodup m1 m2 hg
      simp only [Prod.mk.injEq] at this
      exact hne this.1
    · exact hf.apart m1 m2 hg e1 e2
  have hfpOwn : ∀ b, b ∈ fpOf S.H B ko → Own S.H B b := fun b hb => by
    obtain ⟨k, g, o, n, _, hm, hB⟩ := fpOf_mem hb
    exact ⟨k, g, o, n, hm, hB⟩
  have hfkOwn : ∀ ks b, FK S.H B ks b → Own S.H B b := fun ks b hb => by
    obtain ⟨k, g, o, n, _, hm, hB⟩ := hb
    exact ⟨k, g, o, n, hm, hB⟩
  have hfpF1 : ∀ b, b ∈ fpOf S.H B ko → ¬ (F b ∨ FK S.H B kf b) := fun b hb h => by
    rcases h with h | ⟨k1, g1, o1, n1, hk1, hm1, hB1⟩
    · exact (hf.sep b (hfpOwn b hb)).1 h
    · obtain ⟨k, g, o, n, hk, hm, hB⟩ := fpOf_mem hb
      exact hapart k g o k1 g1 o1 b n n1 hm hm1 (fun e => (hdj k hk).1 (e ▸ hk1)) hB hB1
  let H2 := dropO dst (rmKeys ko (S.freeze kf).H)
  have hH2s : ∀ x ∈ H2, ∃ o, (x.1, x.2.1, o) ∈ S.H := fun x hx => freeze_H _ _ x (((dropO_sub _ _).trans (rmKeys_sub _ _)).subset hx)
  have hH2k : ∀ x ∈ H2, x.1 ∉ ko := fun x hx => rmKeys_not ((dropO_sub _ _).subset hx)
  have hfpO : ∀ b, b ∈ fpOf S.H B ko → ¬ Own H2 B b := fun b hb h => by
    obtain ⟨k1, g1, o1, n1, hm1, hB1⟩ := h
    obtain ⟨k, g, o, n, hk, hm, hB⟩ := fpOf_mem hb
    obtain ⟨o2, hm2⟩ := hH2s _ hm1
    exact hapart k g o k1 g1 o2 b n n1 hm hm2 (fun e => hH2k _ hm1 (e ▸ hk)) hB hB1
  have hf2 : FR (fun b => F b ∨ FK S.H B kf b) B w ⟨(S.freeze kf).E, H2, S.c⟩ a := by
    have hf1' : FR (fun b => F b ∨ FK S.H B kf b) B w ⟨(S.freeze kf).E, (S.freeze kf).H, S.c⟩ a := by
      have := hf1
      rw [← freeze_c S kf]
      exact this
    exact hf1'.drop (fun t => .inl rfl) ((dropO_sub _ _).trans (rmKeys_sub _ _))
  obtain ⟨F2, hF1, hF2, hrs, has⟩ : ∃ F2 : Nat → Prop, (∀ b, F b ∨ FK S.H B kf b → F2 b) ∧ (∀ b, F2 b → F' b ∧ (F b ∨ FK S.H B kf b ∨ b ∈ fpOf S.H B ko ∨ w.heap.size ≤ b)) ∧ CRl w' F2 rs vr f1 ∧ CRl w' F2 az vs f2 := by
    rcases hfl with rfl | ⟨h1, h2⟩
    · refine ⟨F', fun b hb => hl.sub b (hb.imp id .inl), fun b hb => ⟨hb, ?_⟩, hl.rs, hl.az⟩
      rcases hl.new b (.inl hb) with (h | h | ⟨_, _, _, _, h, _⟩) | h | h
      · exact .inl h
      · exact .inr (.inl h)
      · cases h
      · exact .inr (.inr (.inl h))
      · exact .inr (.inr (.inr h))
    · exact ⟨fun b => F b ∨ FK S.H B kf b, fun _ h => h, fun b hb => ⟨hl.sub b (hb.imp id .inl), hb.elim .inl (.inr ∘ .inl)⟩, CRl.flat _ _ _ h1 hl.rs, CRl.flat _ _ _ h2 hl.az⟩
  have hf3 : FR F2 B w' ⟨(S.freeze kf).E, H2, S.c⟩ a := by
    refine hf2.world (fun b hb => ?_) hF1 (fun b hb h => ?_) (hf.Flt.mono (fun b h => hF1 b (.inl h)) (fun b hb => hl.keep b (hf.Flt b hb) fun h => hfpF1 b h (.inl hb)) (fun b hb => hl.lt b (hF2 b hb).1)) hl.size
    · rcases hb with hb | hb
      · exact hl.keep b (hf2.Flt b hb) fun h => hfpF1 b h hb
      · exact hl.keep b (hf2.sep b hb).2 fun h => hfpO b h hb
    · have hs := hf2.sep b hb
      rcases (hF2 b h).2 with h | h | h | h
      · exact hs.1 (.inl h)
      · exact hs.1 (.inr h)
      · exact hfpO b h hb
      · exact absurd hs.2 (by omega)
  obtain ⟨B1, g1, hL1, hg1n, hg1, hvr⟩ := resO_spec (dst := dst) (c := S.c) hl.res hrs hnd.1 B
  obtain ⟨B2, g2, hL2, hg2n, hg2⟩ := reown_spec hf ms xs cs kf kr ko vs az f2 ha hn hv has hnd.2.1 B1 (resO dst S.c rs).2.2 hL1.old hL1.le
  have hgg : (g1 ++ g2).Nodup := List.nodup_append.2 ⟨hg1n, hg2n, fun b hb b' hb' => hnd.2.2 b (hg1 b hb) b' (hg2 b' hb')⟩
  have hggs : ∀ b ∈ g1 ++ g2, b ∈ f1 ++ f2 := fun b hb => by
    rcases List.mem_append.1 hb with h | h
    · exact List.mem_append_left _ (hg1 b h)
    · exact List.mem_append_right _ (hg2 b h)
  have hGlt : ∀ g ∈ gensOf ms xs, g < S.c := fun g hg => by
    obtain ⟨k, o, _, h2⟩ := argsC_gens ms xs _ _ _ _ ha g hg
    exact (hf.objs _ _ _ (mem_of_objIn h2)).1
  have hL := hL1.append hL2 (by simp) hGlt (by simpa using argsC_gensNodup hf ms xs _ _ _ _ ha hn) hgg
  have hnewb : ∀ b ∈ f1 ++ f2, b ∈ fpOf S.H B ko ∨ w.heap.size ≤ b := fun b hb => by
    rcases hl.new b (.inr hb) with h | h | h
    · exact absurd (hl.sub b h) (hl.sep b hb).1
    · exact .inl h
    · exact .inr h
  have hf4 := hf3.lay hL (fun g hg x hx => by
    simp only [List.nil_append] at hg
    obtain ⟨k, o, hk, h2⟩ := argsC_gens ms xs _ _ _ _ ha g hg
    intro e
    obtain ⟨o2, hm2⟩ := hH2s _ hx
    have := same_entry hf.gensNodup hm2 (mem_of_objIn h2) e
    simp only [Prod.mk.injEq] at this
    exact hH2k _ hx (this.1 ▸ hk)) (fun b hb => by
    have hb' := hggs b hb
    refine ⟨fun h => (hl.sep b hb').1 (hF2 b h).1, (hl.sep b hb').2, fun h => ?_⟩
    rcases hnewb b hb' with h1 | h1
    · exact hfpO b h1 h
    · have := (hf2.sep b h).2
      omega)
  have hf5 := hf4.put hN hd (hvr.lift hL2.old hL2.le)
  refine ⟨F2, B2, ?_, by rw [Act.put_size]; exact hN, fun b hb => hF1 b (.inl hb), fun b hb ho => hl.keep b hb fun h => ho (hfpOwn b h), fun b hb => ?_, hl.os, hl.tape, hl.output, hl.size, fun g hg => hL.old g (Nat.lt_of_lt_of_le hg hf.pin)⟩
  · have e : afterCall S dst ms xs kf ko rs az = St.put ⟨(S.freeze kf).E, ((resO dst S.c rs).2.1 ++ (reown (resO dst S.c rs).2.2 ms xs az).1) ++ H2, (reown (resO dst S.c rs).2.2 ms xs az).2⟩ dst (resO dst S.c rs).1 := by
      simp only [afterCall, List.append_assoc]
      rfl
    rw [e]
    exact hf5
  · rcases hb with hb | ⟨k, g, o, n, hm, hB⟩
    · rcases (hF2 b hb).2 with h | h | h | h
      · exact .inl h
      · exact .inr (.inl (hfkOwn _ _ h))
      · exact .inr (.inl (hfpOwn _ h))
      · exact .inr (.inr h)
    · have hm' : (k, g, o) ∈ ((resO dst S.c rs).2.1 ++ (reown (resO dst S.c rs).2.2 ms xs az).1) ++ H2 := by
        have e : (afterCall S dst ms xs kf ko rs az).H = ((resO dst S.c rs).2.1 ++ (reown (resO dst S.c rs).2.2 ms xs az).1) ++ H2 := by
          cases dst <;> simp only [afterCall, St.put, List.append_assoc] <;> rfl
        rw [← e]
        exact hm
      rcases List.mem_append.1 hm' with h | h
      · have := hnewb b (hggs b (hL.blk _ h b n hB))
        exact .inr (this.imp (hfpOwn b) id)
      · obtain ⟨o2, hm2⟩ := hH2s _ h
        have hg := (hf.objs _ _ _ hm2).1
        rw [hL.old g hg] at hB
        exact .inr (.inl ⟨k, g, o2, n, hm2, hB⟩)
def nodupK : List Key → Bool
  | [] => true
  | k :: r => !(r.contains k) && nodupK r
def okK (ko kf kr : List Key) : Bool := nodupK ko && ko.all fun k => !(kf.contains k) && !(kr.contains k)
theorem nodupK_spec : ∀ {l : List Key}, nodupK l = true → l.Nodup
  | [], _ => List.nodup_nil
  | k :: r, h => by
    simp only [nodupK, Bool.and_eq_true, Bool.not_eq_true', List.contains_eq_mem, decide_eq_false_iff_not] at h
    exact List.nodup_cons.2 ⟨h.1, nodupK_spec h.2⟩
theorem okK_spec {ko kf kr : List Key} (h : okK ko kf kr = true) : ko.Nodup ∧ ∀ k ∈ ko, k ∉ kf ∧ k ∉ kr := by
  simp only [okK, Bool.and_eq_true, List.all_eq_true, Bool.not_eq_true', List.contains_eq_mem, decide_eq_false_iff_not] at h
  exact ⟨nodupK_spec h.1, h.2⟩
 
structure Tab where
  M : FuncId → List Mode
  C : FuncId → List CV → (List CV → List CV → Prop) → Prop
def Tab.Sound (P : Program) (T : Tab) : Prop := ∀ g args K, T.C g args K → Con P g args K
 
def calleeV (S : St) (c : Call) : Option (FuncId × List AV) := match c.callee with
  | .value x => match S.ev x with
    | .d (.clo (.func g) f cp) => some (g, f.map .d ++ (c.args.toList.map S.ev ++ cp.map .d))
    | .clo (.func g) f cp => some (g, f ++ (c.args.toList.map S.ev ++ cp))
    | _ => none
  | _ => none
def callV (P : Program) (T : Tab) (o : Oper) (S : St) (K : St → Prop) : Prop := match o.op with
  | .call c => match calleeV S c with
    | some (g, xs) => match argsC P S.H (T.M g) xs with
      | some (cs, kf, kr, ko) => bif okK ko kf kr then T.C g cs fun rs az => bif kr.isEmpty || (flats rs && flats az) then K (afterCall S o.dst (T.M g) xs kf ko rs az) else False
          else False
      | none => False
    | none => False
  | _ => False
theorem evs_VRl'' (hf : FR F B w S a) : ∀ l : List Operand, VRl w F B S.c (l.map S.ev) (l.map a.eval)
  | [] => by simp [VRl]
  | x :: r => by simp only [List.map_cons, VRl]; exact ⟨_, _, rfl, ev_VR hf x, evs_VRl'' hf r⟩
theorem calleeV_spec (hf : FR F B w S a) {c : Call} {g : FuncId} {xs : List AV} (h : calleeV S c = some (g, xs)) (ty : TypeId) :
    ∃ vs, VRl w F B S.c xs vs ∧ ∀ W, (do let d ← resolve a.eval c ty; invoke d.target d.args : Sem Next).run P W = (callFunc g vs.toArray).run P W := by
  unfold calleeV at h
  split at h
  · rename_i x hc
    have hx := ev_VR hf x
    have hargs := evs_VRl'' hf c.args.toList
    split at h
    · rename_i g' f cp hx'
      simp only [Option.some.injEq, Prod.mk.injEq] at h
      obtain ⟨rfl, rfl⟩ := h
      rw [hx'] at hx
      simp only [VR, DRv, DRc, List.cons.injEq, and_true] at hx
      obtain ⟨fv, cv, hv, h1, h2⟩ := hx
      refine ⟨fv.toList ++ (c.args.toList.map a.eval ++ cv.toList), VRl.append (VRl_of_DRl h1).1 (VRl.append hargs (VRl_of_DRl h2).1), fun W => ?_⟩
      simp only [resolve, hc, hv, Deferred.ofValue, pure_bind, invoke]
      congr 2
      apply Array.ext'
      simp
    · rename_i g' f cp hx'
      simp only [Option.some.injEq, Prod.mk.injEq] at h
      obtain ⟨rfl, rfl⟩ := h
      rw [hx'] at hx
      simp only [VR] at hx
      obtain ⟨fv, cv, hv, h1, h2⟩ := hx
      refine ⟨fv.toList ++ (c.args.toList.map a.eval ++ cv.toList), VRl.append h1 (VRl.append hargs h2), fun W => ?_⟩
      simp only [resolve, hc, hv, Deferred.ofValue, pure_bind, invoke]
      congr 2
      apply Array.ext'
      simp
    · cases h
  · cases h
 
theorem callV_run {T : Tab} (hT : T.Sound P) (hf : FR F B w S a) (hN : a.tmps.size = N) (o : Oper) (hd : dstOK N o.dst = true) {K : St → Prop} (h : callV P T o S K) {Q : Exit → Act → World → Prop} {next : Act → World → Prop}
    (hk : ∀ a' w', (∃ S' F' B', K S' ∧ Tr N F B w S F' B' w' S' a') → next a' w') : o.wp P a w next Q := by
  obtain ⟨dst, op, ty, pos, after, guard⟩ := o
  unfold callV at h
  split at h
  · rename_i c hop
    simp only at hop
    subst hop
    split at h
    · rename_i g xs hc
      obtain ⟨vs, hvs, hrun⟩ := calleeV_spec hf hc ty
      split at h
      · rename_i cs kf kr ko ha
        cases hok : okK ko kf kr with
        | false => rw [hok] at h; exact h.elim
        | true =>
        rw [hok] at h
        have hC : T.C g cs fun rs az => bif kr.isEmpty || (flats rs && flats az) then K (afterCall S dst (T.M g) xs kf ko rs az) else False := h
        obtain ⟨hn, hdj⟩ := okK_spec hok
        have hcr := argsC_spec hf _ _ _ _ _ _ _ ha hvs
        have hfpOwn : ∀ b, b ∈ fpOf S.H B ko → Own S.H B b := fun b hb => by
          obtain ⟨k, g, o, n, _, hm, hB⟩ := fpOf_mem hb
          exact ⟨k, g, o, n, hm, hB⟩
        have hfpN : ∀ ks, (∀ k ∈ ko, k ∉ ks) → ∀ b ∈ fpOf S.H B ko, ¬ FK S.H B ks b := fun ks hks b hb h => by
          obtain ⟨k1, g1, o1, n1, hk1, hm1, hB1⟩ := h
          obtain ⟨k, g, o, n, hk, hm, hB⟩ := fpOf_mem hb
          by_cases hg : g = g1
          · have := same_entry hf.gensNodup hm hm1 hg
            simp only [Prod.mk.injEq] at this
            exact hks k hk (this.1 ▸ hk1)
          · exact hf.apart hm hm1 hg hB hB1
        have hen := hT g cs _ hC _ w vs _ hcr (fpOf_nodup hf hn) (fun b hb => ⟨fun h => by
          rcases h with h | h | h
          · exact (hf.sep b (hfpOwn b hb)).1 h
          · exact hfpN kf (fun k hk => (hdj k hk).1) b hb h
          · exact hfpN kr (fun k hk => (hdj k hk).2) b hb h, (hf.sep b (hfpOwn b hb)).2⟩) (hf.Flt.mono (fun _ h => .inl h) (fun _ _ => rfl) (fun b hb => by
          rcases hb with h | ⟨k, g, o, n, _, hm, hB⟩ | ⟨k, g, o, n, _, hm, hB⟩
          · exact hf.Flt b h
          · exact (hf.sep b ⟨k, g, o, n, hm, hB⟩).2
          · exact (hf.sep b ⟨k, g, o, n, hm, hB⟩).2))
        have fin : ∀ v w', (∃ rs az F' vr f1 f2, (bif kr.isEmpty || (flats rs && flats az) then K (afterCall S dst (T.M g) xs kf ko rs az) else False) ∧ Left (fun b => F b ∨ FK S.H B kf b ∨ FK S.H B kr b) w vs (fpOf S.H B ko) rs az v w' F' vr f1 f2) → next (a.put dst v) w' := by
          rintro v w' ⟨rs, az, F', vr, f1, f2, h12, hl⟩
          cases hfl : (kr.isEmpty || (flats rs && flats az)) with
          | false => rw [hfl] at h12; exact h12.elim
          | true =>
          rw [hfl] at h12
          have h2 : K (afterCall S dst (T.M g) xs kf ko rs az) := h12
          have h1 : kr = [] ∨ (flats rs = true ∧ flats az = true) := by simpa using hfl
          obtain ⟨F2, B2, ht⟩ := call_Tr hf hN hd ha hvs hn hdj hl h1
          exact hk _ _ ⟨_, F2, B2, h2, ht⟩
        have hex : (execOp a.eval (⟨dst, .call c, ty, pos, after, guard⟩ : Oper)).run P w = (callFunc g vs.toArray).run P w := hrun w
        unfold Oper.wp
        rw [hex]
        unfold Enters at hen
        split at hen
        · rename_i v w' hr
          rw [hr]
          exact fin v w' hen
        · rename_i f' xs' w' hr
          rw [hr]
          simp only [Oper.upon]
          refine hen.mono fun e w'' he => ?_
          cases e with
          | returned v => exact fin v w'' he
          | panicked c => exact he.elim
          | outgrown => exact he.elim
        · rename_i row xs' w' hr
          rw [hr]
          simp only [Oper.upon]
          exact hen.mono fun v w'' he => fin v w'' he
        · exact hen.elim
      · exact h.elim
    · exact h.elim
  · exact h.elim
end
end Go.Fw
