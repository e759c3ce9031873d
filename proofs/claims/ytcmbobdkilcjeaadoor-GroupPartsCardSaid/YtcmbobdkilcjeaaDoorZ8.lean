/- What the proofs of this seat lean on, part 8: a symbolic machine that is shown sound, walks through functions, plain laws. -/
import Derived.Test.YtcmbobdkilcjeaaDoorZ7
import Derived.Maps.RangeRun
import Derived.MapKept
namespace Go.Fw
open Go Go.MapKept
set_option linter.unusedVariables false
set_option linter.unusedSimpArgs false
section
variable {P : Program} {w : World} {F : Nat → Prop}
theorem mem_of_objG : ∀ {H : List (Key × Nat × AO)} {g : Nat} {o : AO}, objG H g = some o → ∃ k, (k, g, o) ∈ H
  | [], g, o, h => by simp [objG] at h
  | (k, g', o') :: r, g, o, h => by
    simp only [objG] at h
    split at h
    · rename_i hg
      simp only [Option.some.injEq] at h
      exact ⟨k, by rw [hg, h]; exact List.mem_cons_self⟩
    · obtain ⟨k', hk⟩ := mem_of_objG h
      exact ⟨k', List.mem_cons_of_mem _ hk⟩
theorem MR_of : ∀ {i : Nat} {es : List (Option (D × D))} {l : List MapEntry}, MR w F i es l → ∀ e ∈ l, ∃ j k v, j < es.length ∧ e.born = i + j ∧ es.getD j none = some (k, v) ∧ DRv w F k e.key ∧ DRv w F v e.val
  | i, [], l, h, e, he => by
    simp only [MR] at h
    subst h
    cases he
  | i, none :: r, l, h, e, he => by
    simp only [MR] at h
    obtain ⟨j, k, v, h1, h2, h3, h4, h5⟩ := MR_of h e he
    exact ⟨j + 1, k, v, by simpa using h1, by omega, by simpa using h3, h4, h5⟩
  | i, some (k, v) :: r, l, h, e, he => by
    simp only [MR] at h
    obtain ⟨e0, es', rfl, h2, h3, h4, h5⟩ := h
    rcases List.mem_cons.1 he with rfl | he
    · exact ⟨0, k, v, by simp, by omega, by simp, h2, h3⟩
    · obtain ⟨j, k', v', g1, g2, g3, g4, g5⟩ := MR_of h5 e he
      exact ⟨j + 1, k', v', by simpa using g1, by omega, by simpa using g3, g4, g5⟩
theorem MR_get : ∀ {i : Nat} {es : List (Option (D × D))} {l : List MapEntry}, MR w F i es l → ∀ {j : Nat} {k v : D}, es.getD j none = some (k, v) → ∃ e ∈ l, e.born = i + j ∧ DRv w F k e.key ∧ DRv w F v e.val
  | i, [], l, h, j, k, v, he => by simp at he
  | i, none :: r, l, h, j, k, v, he => by
    simp only [MR] at h
    cases j with
    | zero => simp at he
    | succ j =>
      obtain ⟨e, h1, h2, h3⟩ := MR_get h (j := j) (by simpa using he)
      exact ⟨e, h1, by omega, h3⟩
  | i, some (k', v') :: r, l, h, j, k, v, he => by
    simp only [MR] at h
    obtain ⟨e0, es', rfl, h2, h3, h4, h5⟩ := h
    cases j with
    | zero =>
      simp only [List.getD_cons_zero, Option.some.injEq, Prod.mk.injEq] at he
      obtain ⟨rfl, rfl⟩ := he
      exact ⟨e0, List.mem_cons_self, by omega, h2, h3⟩
    | succ j =>
      obtain ⟨e, g1, g2, g3⟩ := MR_get h5 (j := j) (by simpa using he)
      exact ⟨e, List.mem_cons_of_mem _ g1, by omega, g3⟩
theorem MR_nodup : ∀ {i : Nat} {es : List (Option (D × D))} {l : List MapEntry}, MR w F i es l → (l.map (·.born)).Nodup
  | i, [], l, h => by
    simp only [MR] at h
    subst h
    exact List.nodup_nil
  | i, none :: r, l, h => MR_nodup (i := i + 1) (es := r) h
  | i, some (k, v) :: r, l, h => by
    simp only [MR] at h
    obtain ⟨e0, es', rfl, h2, h3, h4, h5⟩ := h
    rw [List.map_cons, List.nodup_cons]
    refine ⟨fun hm => ?_, MR_nodup h5⟩
    obtain ⟨e, he, hb⟩ := List.mem_map.1 hm
    obtain ⟨j, _, _, _, g2, _⟩ := MR_of h5 e he
    omega
theorem MR_push : ∀ {i : Nat} {es : List (Option (D × D))} {l : List MapEntry}, MR w F i es l → ∀ {k v : D} {key val : Value}, DRv w F k key → DRv w F v val → MR w F i (es ++ [some (k, v)]) (l ++ [⟨key, val, i + es.length⟩])
  | i, [], l, h, k, v, key, val, hk, hv => by
    simp only [MR] at h
    subst h
    simp only [List.nil_append, MR]
    exact ⟨_, _, rfl, hk, hv, rfl, rfl⟩
  | i, none :: r, l, h, k, v, key, val, hk, hv => by
    simp only [MR] at h
    have := MR_push h hk hv
    simp only [List.cons_append, MR, List.length_cons]
    rw [show i + (r.length + 1) = i + 1 + r.length by omega]
    exact this
  | i, some (k', v') :: r, l, h, k, v, key, val, hk, hv => by
    simp only [MR] at h
    obtain ⟨e0, es', rfl, h2, h3, h4, h5⟩ := h
    have := MR_push h5 hk hv
    simp only [List.cons_append, MR, List.length_cons]
    rw [show i + (r.length + 1) = i + 1 + r.length by omega]
    exact ⟨e0, _, rfl, h2, h3, h4, this⟩
theorem keyK_is {kt : TypeId} {k : D} {v : Value} (hk : keyK P kt k = true) (hv : DRv w F k v) : ∃ d, P.underlying kt = some d ∧ IsKey d v := by
  cases k <;> simp only [keyK] at hk <;> try cases hk
  case int q n =>
    simp only [DRv, DRc, List.cons.injEq, and_true] at hv
    subst hv
    split at hk
    · rename_i k' hu
      simp only [decide_eq_true_eq] at hk
      exact ⟨_, hu, by subst hk; simp [IsKey]⟩
    · cases hk
  case str s =>
    simp only [DRv, DRc, List.cons.injEq, and_true] at hv
    subst hv
    split at hk
    · rename_i hu
      exact ⟨_, hu, by simp [IsKey]⟩
    · cases hk
  case bool b =>
    simp only [DRv, DRc, List.cons.injEq, and_true] at hv
    subst hv
    split at hk
    · rename_i hu
      exact ⟨_, hu, by simp [IsKey]⟩
    · cases hk
theorem dEq_iff {kt : TypeId} {k k' : D} {v v' : Value} (hk : keyK P kt k = true) (hk' : keyK P kt k' = true) (hv : DRv w F k v) (hv' : DRv w F k' v') : dEq k k' = true ↔ v = v' := by
  cases k <;> simp only [keyK] at hk <;> try cases hk
  all_goals
    cases k' <;> simp only [keyK] at hk' <;> try cases hk'
    all_goals
      simp only [DRv, DRc, List.cons.injEq, and_true] at hv hv'
      subst hv
      subst hv'
      simp [dEq]
theorem allM_cons {kt : TypeId} {x : Option (D × D)} {r : List (Option (D × D))} (h : AllM P kt (x :: r)) : AllM P kt r := ⟨fun i hi k v hy => h.at' (i + 1) (by simpa using hi) k v (by simpa using hy)⟩
theorem upd_find {kt : TypeId} {d : TypeDesc} {kx vx : D} {key val : Value} (hd : P.underlying kt = some d) (hkx : keyK P kt kx = true) (hk : DRv w F kx key) (hv : DRv w F vx val) : ∀ (es : List (Option (D × D))) (l : List MapEntry) (i i0 : Nat), MR w F i es l → AllM P kt es →
    (Instr.findNow d key l i0 = some none ∧ updM kx vx es = es ++ [some (kx, vx)]) ∨
    ∃ j e, Instr.findNow d key l i0 = some (some (i0 + j, e.val)) ∧ l[j]? = some e ∧ e.key = key ∧ MR w F i (updM kx vx es) (l.set j { e with key := key, val := val }) ∧ (updM kx vx es).length = es.length
  | [], l, i, i0, h, ha => by
    simp only [MR] at h
    subst h
    exact .inl ⟨rfl, rfl⟩
  | none :: r, l, i, i0, h, ha => by
    simp only [MR] at h
    rcases upd_find hd hkx hk hv r l (i + 1) i0 h (allM_cons ha) with ⟨h1, h2⟩ | ⟨j, e, h1, h2, h3, h4, h5⟩
    · exact .inl ⟨h1, by simp [updM, h2]⟩
    · exact .inr ⟨j, e, h1, h2, h3, by simpa only [updM, MR] using h4, by simp [updM, h5]⟩
  | some (k', v') :: r, l, i, i0, h, ha => by
    simp only [MR] at h
    obtain ⟨e0, es', rfl, h2, h3, h4, h5⟩ := h
    have hk' : keyK P kt k' = true := ha.at' 0 (by simp) k' v' rfl
    obtain ⟨d1, hd1, hi1⟩ := keyK_is hkx hk
    obtain ⟨d2, hd2, hi2⟩ := keyK_is hk' h2
    rw [hd] at hd1 hd2
    cases hd1
    cases hd2
    obtain ⟨q, hq, hqi⟩ := sameNow_of_keys hi1 hi2
    have hde := dEq_iff hk' hkx h2 hk
    cases q with
    | true =>
      have e : key = e0.key := hqi.1 rfl
      refine .inr ⟨0, e0, by simp [Instr.findNow, hq], rfl, e.symm, ?_, ?_⟩
      · rw [updM, if_pos (hde.2 e.symm)]
        simp only [List.set_cons_zero, MR]
        exact ⟨_, _, rfl, hk, hv, h4, h5⟩
      · rw [updM, if_pos (hde.2 e.symm)]; rfl
    | false =>
      have hne : ¬ dEq k' kx = true := fun hh => by
        have := hqi.2 (hde.1 hh).symm
        cases this
      rcases upd_find hd hkx hk hv r es' (i + 1) (i0 + 1) h5 (allM_cons ha) with ⟨g1, g2⟩ | ⟨j, e, g1, g2, g3, g4, g5⟩
      · exact .inl ⟨by simp [Instr.findNow, hq, g1], by rw [updM, if_neg hne, g2]; rfl⟩
      · refine .inr ⟨j + 1, e, by simp [Instr.findNow, hq, g1]; omega, by simpa using g2, g3, ?_, ?_⟩
        · rw [updM, if_neg hne]
          simp only [List.set_cons_succ, MR]
          exact ⟨e0, _, rfl, h2, h3, h4, g4⟩
        · rw [updM, if_neg hne, List.length_cons, g5, List.length_cons]
theorem modify_set {α : Type} (f : α → α) : ∀ {l : List α} {j : Nat} {e : α}, l[j]? = some e → l.modify j f = l.set j (f e)
  | [], j, e, h => by simp at h
  | a :: r, 0, e, h => by
    simp at h
    subst h
    rfl
  | a :: r, j + 1, e, h => by
    have := modify_set f (l := r) (j := j) (e := e) (by simpa using h)
    simp [this]
theorem mapUpdate_run {t kt et : TypeId} {b : Nat} {ea : Array MapEntry} {es : List (Option (D × D))} {kx vx : D} {key val : Value} (ht : P.underlying t = some (.map kt et)) (hb : w.heap[b]? = some (.map ea es.length)) (hm : MR w F 0 es ea.toList)
    (hkx : keyK P kt kx = true) (ha : AllM P kt es) (hk : DRv w F kx key) (hv : DRv w F vx val) :
    ∃ ea', (Instr.mapUpdate t (.map (some b)) key val).run P w = .ok () (setB w b (.map ea' (updM kx vx es).length)) ∧ MR w F 0 (updM kx vx es) ea'.toList := by
  obtain ⟨d, hd, hi⟩ := keyK_is hkx hk
  have hgo : (getObj b).run P w = .ok (.map ea es.length) w := by simp [getObj, Sem.run, hb]
  have hso : ∀ o', (setObj b o').run P w = .ok () (setB w b o') := by intro o'; simp [setObj, Sem.run, hb, setB]
  rcases upd_find hd hkx hk hv es ea.toList 0 0 hm ha with ⟨h1, h2⟩ | ⟨j, e, h1, h2, h3, h4, h5⟩
  · refine ⟨ea.push ⟨key, val, es.length⟩, ?_, ?_⟩
    · simp only [Instr.mapUpdate, Sem.run_bind, run_underlying ht, Result.andThen_ok, hgo, run_checkKey hd hi, run_findKey hd h1, hso, h2, List.length_append, List.length_cons, List.length_nil, Nat.zero_add]
    · rw [h2, Array.toList_push]
      have := MR_push hm hk hv
      rwa [Nat.zero_add] at this
  · have hj : ea[j]? = some e := by rw [← Array.getElem?_toList]; exact h2
    refine ⟨ea.modify j fun e => { e with key := key, val := val }, ?_, ?_⟩
    · simp only [Instr.mapUpdate, Sem.run_bind, run_underlying ht, Result.andThen_ok, hgo, run_checkKey hd hi, run_findKey hd h1, Nat.zero_add, hj, Option.map_some, Option.getD_some, h3, run_keyThatStays hi, hso, h5]
    · rw [Array.toList_modify, modify_set _ h2]
      exact h4
 
theorem next_run {r bm since last : Nat} {seen : List Nat} {es : List (Option (D × D))} {ea : Array MapEntry} (ty : TypeId) (hr : w.heap[r]? = some (.mapIter (some bm) since seen.toArray last)) (hb : w.heap[bm]? = some (.map ea es.length)) (hm : MR w F 0 es ea.toList)
    (hs : es.length ≤ since) (hl : since ≤ last) :
    ((∀ j, j < es.length → es.getD j none = none ∨ j ∈ seen) ∧ (Instr.next (.pointer (some ⟨r, 0, none⟩)) false ty).run P w = .ok (.tuple #[.bool false]) w) ∨
    ∃ j k v key val, ∃ w1 : World, j < es.length ∧ ¬ j ∈ seen ∧ es.getD j none = some (k, v) ∧ DRv w F k key ∧ DRv w F v val ∧ (w1 = w ∨ w1 = w.drew) ∧
      (Instr.next (.pointer (some ⟨r, 0, none⟩)) false ty).run P w = .ok (.tuple #[.bool true, key, val]) (setB w1 r (.mapIter (some bm) since (seen ++ [j]).toArray es.length)) := by
  have hold : ∀ x ∈ ea.toList, x.born < since := fun x hx => by
    obtain ⟨j, k, v, h1, h2, _⟩ := MR_of hm x hx
    omega
  rcases run_next_at (P := P) w ty r bm since last seen.toArray ea es.length hr hb hold hl with ⟨h1, h2⟩ | ⟨e, he, w1, hw, h2⟩
  · left
    refine ⟨fun j hj => ?_, h2⟩
    cases hg : es.getD j none with
    | none => exact .inl rfl
    | some p =>
      right
      obtain ⟨k, v⟩ := p
      obtain ⟨e, g1, g2, _⟩ := MR_get hm hg
      have h0 : leftOf ea seen.toArray = #[] := Array.eq_empty_of_size_eq_zero h1
      unfold leftOf at h0
      rw [Array.filter_eq_empty_iff] at h0
      have := h0 e (by simpa using g1)
      simp only [Bool.not_eq_true', Bool.not_eq_false, List.contains_toArray] at this
      have h3 : e.born ∈ seen := by simpa using this
      rwa [show e.born = j by omega] at h3
  · right
    unfold leftOf at he
    simp only [Array.toList_filter, List.mem_filter] at he
    obtain ⟨j, k, v, g1, g2, g3, g4, g5⟩ := MR_of hm e he.1
    have hbj : e.born = j := by omega
    refine ⟨j, k, v, e.key, e.val, w1, g1, ?_, g3, g4, g5, hw, ?_⟩
    · have := he.2
      rw [hbj] at this
      simpa using this
    · rw [h2, hbj]
      simp [setB, ChangeMaps.setBlock]
theorem entry_run {r bm since : Nat} {seen : List Nat} {j : Nat} {es : List (Option (D × D))} {ea : Array MapEntry} {k v : D} (hr : w.heap[r]? = some (.mapIter (some bm) since (seen ++ [j]).toArray es.length)) (hb : w.heap[bm]? = some (.map ea es.length)) (hm : MR w F 0 es ea.toList)
    (hj : es.getD j none = some (k, v)) : ∃ key val, DRv w F k key ∧ DRv w F v val ∧ (Instr.entry (.pointer (some ⟨r, 0, none⟩))).run P w = .ok (.tuple #[key, val]) w := by
  obtain ⟨e, g1, g2, g3, g4⟩ := MR_get hm hj
  refine ⟨e.key, e.val, g3, g4, ?_⟩
  refine run_entry_at w r bm since seen.toArray ea es.length e ?_ hb g1 (MR_nodup hm)
  rw [hr, show e.born = j by omega]
  simp
end
end Go.Fw
namespace Go.Fw
open Go
set_option linter.unusedVariables false
set_option linter.unusedSimpArgs false
section
variable {P : Program} {F : Nat → Prop} {B : Blk} {w w' : World} {S : St} {a : Act} {N nv : Nat} {K : St → Prop}
 
theorem moved_Tr (hf : FR F B w S a) (hN : a.tmps.size = N) {d : Nat} (hd : dstOK N (some d) = true) {H1 : List (Key × Nat × AO)} (hs : H1.Sublist S.H) (hsz : w.heap.size ≤ w'.heap.size)
    (hkeep : ∀ i, i < w.heap.size → (Own S.H B i → Own H1 B i) → w'.heap[i]? = w.heap[i]?) (hos : w'.os = w.os) (htp : w'.tape = w.tape) (hout : w'.output = w.output)
    {bo : Option (Nat × Nat)} (hbo : ∀ b ∈ blkO bo, (w.heap.size ≤ b ∧ b < w'.heap.size) ∨ (Own S.H B b ∧ ¬ Own H1 B b)) {o : AO} {v : Value} {av : AV} (hnd : NewOK bo o)
    (hor : OR w' F (updB B S.c bo) (S.c + 1) S.c o) (hv : VR w' F (updB B S.c bo) (S.c + 1) av v) :
    Tr N F B w S F (updB B S.c bo) w' ⟨putIn S.E d av, ([d], S.c, o) :: dropKey [d] H1, S.c + 1⟩ (a.put (some d) v) := by
  have hF : ∀ b, F b → w'.heap[b]? = w.heap[b]? := fun b hb => hkeep b (hf.Flt b hb) fun ho => absurd hb (hf.sep b ho).1
  have hs2 : (dropKey [d] H1).Sublist S.H := (dropKey_sub [d] H1).trans hs
  have hO1 : ∀ x ∈ dropKey [d] H1, ∀ b ∈ blkL B x.2.1, Own H1 B b := fun x hx b hb => ⟨x.1, x.2.1, x.2.2, (dropKey_sub [d] H1).subset hx, hb⟩
  have hO : ∀ x ∈ dropKey [d] H1, ∀ b ∈ blkL B x.2.1, Own S.H B b := fun x hx b hb => ⟨x.1, x.2.1, x.2.2, hs2.subset hx, hb⟩
  have hf2 := FR.add (w' := w') (bo := bo) (k := [d]) (o := o) hf hs2 hsz hF (fun x hx b hb => hkeep b (hf.sep b (hO x hx b hb)).2 fun _ => hO1 x hx b hb)
    (fun b hb => by
      rcases hbo b hb with ⟨h1, h2⟩ | ⟨h1, h2⟩
      · refine ⟨fun hFb => by have := hf.Flt b hFb; omega, h2, fun x hx hx' => ?_⟩
        have := (hf.sep b (hO x hx b hx')).2
        omega
      · have := hf.sep b h1
        exact ⟨this.1, by omega, fun x hx hx' => h2 (hO1 x hx b hx')⟩) hnd hor
  have hf3 := hf2.put (S := ⟨S.E, ([d], S.c, o) :: dropKey [d] H1, S.c + 1⟩) hN hd hv
  refine ⟨hf3, by rw [Act.put_size]; exact hN, fun b h => h, fun b hb hn => hkeep b hb fun ho => absurd ho hn, fun b hb => ?_, hos, htp, hout, hsz, fun g hg => updB_old (Nat.lt_of_lt_of_le hg hf.pin)⟩
  rcases hb with hb | ⟨k, g, o', hm, hB⟩
  · exact .inl hb
  · have hm' : (k, g, o') ∈ ([d], S.c, o) :: dropKey [d] H1 := hm
    rcases List.mem_cons.1 hm' with h | h
    · simp only [Prod.mk.injEq] at h
      obtain ⟨rfl, rfl, rfl⟩ := h
      rw [blkL_new] at hB
      rcases hbo b hB with ⟨h1, _⟩ | ⟨h1, _⟩
      · exact .inr (.inr h1)
      · exact .inr (.inl h1)
    · have hmS := hs2.subset h
      rw [blkL_congr (updB_old (hf.objs k g o' hmS).1)] at hB
      exact .inr (.inl ⟨k, g, o', hmS, hB⟩)
theorem blkO_enc (b n : Nat) (is : List Info) : blkO (some (b, encBN (n, is))) = b :: is.filterMap fun x => x.map Prod.fst := by
  simp [blkO, subB, decBN_enc]
 
theorem own_rmKey (hf : FR F B w S a) {k : Key} {g : Nat} {o : AO} (hob : objIn S.H k = some (g, o)) {b : Nat} (hb : b ∈ blkL B g) : ¬ Own (rmKey (some k) S.H) B b := by
  rintro ⟨k', g', o', hm, hb'⟩
  have hm2 := List.mem_filter.1 hm
  have hm1 := mem_of_objIn hob
  have hk : k' ≠ k := by simpa using hm2.2
  by_cases hg : g' = g
  · have := same_entry hf.gensNodup hm2.1 hm1 hg
    simp only [Prod.mk.injEq] at this
    exact hk this.1
  · exact hf.apartL hm2.1 hm1 hg hb' hb
theorem rmKey_sub (k : Option Key) (H : List (Key × Nat × AO)) : (rmKey k H).Sublist H := by
  cases k with
  | none => exact List.Sublist.refl _
  | some k => exact List.filter_sublist
theorem nestOf_run (hf : FR F B w S a) {e : Nat} {x : AV} {v : Value} (hx : VR w F B S.c x v) {ne : NE} {k : Option Key} {q : Prop} (h : nestOf P e S [x] = some (ne, k, q)) (hq : q) :
    ∃ i : Info, NR w F ne i v ∧ ∀ b n, i = some (b, n) → Own S.H B b ∧ ¬ Own (rmKey k S.H) B b := by
  unfold nestOf at h
  cases hc : nestList.contains e with
  | false => rw [hc] at h; cases h
  | true =>
  rw [hc, cond_true] at h
  split at h
  · rename_i hxs
    simp only [List.cons.injEq, and_true] at hxs
    subst hxs
    split at h
    · simp only [Option.some.injEq, Prod.mk.injEq] at h
      obtain ⟨rfl, rfl, rfl⟩ := h
      simp only [VR] at hx
      exact ⟨none, ⟨hx, rfl⟩, fun b n h => by cases h⟩
    · cases h
  · rename_i k' g z off len hxs
    simp only [List.cons.injEq, and_true] at hxs
    subst hxs
    split at h
    · rename_i g' e' z' l hob
      simp only [Option.some.injEq, Prod.mk.injEq] at h
      obtain ⟨rfl, rfl, rfl⟩ := h
      obtain ⟨rfl, rfl, rfl, rfl⟩ := hq
      have hor := hf.objsIn hob
      simp only [VR] at hx
      obtain ⟨hg, hx⟩ := hx
      refine ⟨B g', ?_, fun b n hB => ⟨Own.of (mem_of_objIn hob) hB, own_rmKey hf hob (blkL_of hB)⟩⟩
      simp only [OR] at hor
      simp only [NR]
      cases hB : B g' with
      | none =>
        rw [hB] at hx hor
        exact ⟨hx.1, hor⟩
      | some p =>
        obtain ⟨b, n⟩ := p
        rw [hB] at hx hor
        obtain ⟨ad, rfl, hcap, had⟩ := hx
        have had' : ad = ⟨b, 0, none⟩ := by
          rcases had with h | h
          · simpa using h
          · omega
        subst had'
        exact ⟨rfl, hor⟩
    · cases h
  · cases h
theorem own_rmKey2 (hf : FR F B w S a) {k : Key} {g : Nat} {o : AO} (hob : objIn S.H k = some (g, o)) {b : Nat} (hb : b ∈ blkL B g) (k' : Option Key) : ¬ Own (rmKey k' (rmKey (some k) S.H)) B b :=
  fun h => own_rmKey hf hob hb (h.mono fun x hx => (rmKey_sub _ _).subset hx)
theorem own_rmKey3 (hf : FR F B w S a) {k : Key} {g : Nat} {o : AO} (hob : objIn S.H k = some (g, o)) {b : Nat} (hb : b ∈ blkL B g) (k' : Option Key) : ¬ Own (rmKey (some k) (rmKey k' S.H)) B b :=
  fun h => own_rmKey hf hob hb (by
    obtain ⟨q, g', o', hm, hb'⟩ := h
    have := List.mem_filter.1 hm
    exact ⟨q, g', o', List.mem_filter.2 ⟨(rmKey_sub _ _).subset this.1, this.2⟩, hb'⟩)
 
def rowsI (is : List Info) : List Nat := is.filterMap fun x => x.map Prod.fst
theorem rowsI_append (a b : List Info) : rowsI (a ++ b) = rowsI a ++ rowsI b := List.filterMap_append
theorem NRl_one : ∀ {l : List NE} {is : List Info} {vs : List Value}, NRl w F l is vs → ∀ v ∈ vs, v.oneCell' = true
  | [], is, vs, h => by obtain ⟨rfl, rfl⟩ := h; simp
  | x :: r, is, vs, h => by
    obtain ⟨i, is', v, vs', rfl, rfl, h1, h2⟩ := h
    intro u hu
    rcases List.mem_cons.1 hu with rfl | hu
    · cases x with
      | d x => simp only [NR] at h1; exact DRc_one h1.2.2 _ (List.mem_singleton.2 rfl)
      | row e z l =>
        simp only [NR] at h1
        cases i with
        | none => rw [h1.1]; rfl
        | some q => obtain ⟨b, n⟩ := q; rw [h1.1]; rfl
      | hole => obtain ⟨_, A, n, c, rfl⟩ := h1; rfl
    · exact NRl_one h2 u hu
theorem rowsI_own {B : Blk} {g b n : Nat} (hB : B g = some (b, n)) {x : Nat} (hx : x ∈ rowsI (decBN n).2) : x ∈ blkL B g := by
  simp only [blkL, blkO, hB, subB]
  exact List.mem_cons_of_mem _ hx
 
structure NB (F : Nat → Prop) (B : Blk) (w : World) (S : St) (e : Nat) (k : Option Key) (l : List NE) (u : Value) (is : List Info) (old : List Value) : Prop where
  nr : NRl w F l is old
  at' : (u = .slice none 0 0 ∧ l.length = 0 ∧ old = []) ∨ ∃ b cap cs fr, u = .slice (some ⟨b, 0, none⟩) l.length cap ∧ w.heap[b]? = some (.cells cs e fr) ∧ Unf cs fr ∧ cs.size = cap ∧ l.length ≤ cap ∧ cap ≤ maxLen ∧ old = cs.toList.take l.length
  own : ∀ b, u.ownBlock = some b ∨ b ∈ rowsI is → ∃ k0 g o, k = some k0 ∧ objIn S.H k0 = some (g, o) ∧ b ∈ blkL B g
  nd : (match u.ownBlock with
    | some b => b :: rowsI is
    | none => rowsI is).Nodup
theorem nbBase_run (hf : FR F B w S a) {e : Nat} {x : AV} {u : Value} (hx : VR w F B S.c x u) {l : List NE} {k : Option Key} {q : Prop} (h : nbBase S.H e x = some (l, k, q)) (hq : q) : ∃ is old, NB F B w S e k l u is old := by
  unfold nbBase at h
  split at h
  · simp only [Option.some.injEq, Prod.mk.injEq] at h
    obtain ⟨rfl, rfl, rfl⟩ := h
    simp only [VR] at hx
    subst hx
    exact ⟨[], [], ⟨⟨rfl, rfl⟩, .inl ⟨rfl, rfl, rfl⟩, fun b hb => by simp [Value.ownBlock, rowsI] at hb, by simp [Value.ownBlock, rowsI]⟩⟩
  · rename_i k' g len
    split at h
    · rename_i g' e' l' hob
      simp only [Option.some.injEq, Prod.mk.injEq] at h
      obtain ⟨rfl, rfl, rfl⟩ := h
      obtain ⟨rfl, rfl, rfl⟩ := hq
      have hor := hf.objsIn hob
      have how := hf.own1 _ (mem_of_objIn hob)
      simp only [VR] at hx
      obtain ⟨hg, hx⟩ := hx
      simp only [OR] at hor
      cases hB : B g' with
      | none =>
        rw [hB] at hx hor
        obtain ⟨rfl, hl⟩ := hx
        simp only at hor
        subst hor
        exact ⟨[], [], ⟨⟨rfl, rfl⟩, .inl ⟨rfl, rfl, rfl⟩, fun b hb => by simp [Value.ownBlock, rowsI] at hb, by simp [Value.ownBlock, rowsI]⟩⟩
      | some p =>
        obtain ⟨b, n⟩ := p
        rw [hB] at hx hor
        simp only at hx hor
        subst hx
        obtain ⟨cs, fr, h1, h2, h3, h4, h5, h6⟩ := hor
        refine ⟨(decBN n).2, _, ⟨h6, .inr ⟨b, _, cs, fr, rfl, h1, h2, h3, h4, h5, rfl⟩, fun b' hb => ⟨k', g', _, rfl, hob, ?_⟩, ?_⟩⟩
        · rcases hb with hb | hb
          · simp only [Value.ownBlock, Option.some.injEq] at hb
            subst hb
            exact blkL_of hB
          · exact rowsI_own hB hb
        · have := how.1
          simpa [blkL, blkO, hB, subB, Value.ownBlock, rowsI] using this
    · cases h
  · rename_i k' g z off len
    split at h
    · rename_i g' e' z' hob
      simp only [Option.some.injEq, Prod.mk.injEq] at h
      obtain ⟨rfl, rfl, rfl⟩ := h
      obtain ⟨rfl, rfl, rfl, rfl, rfl⟩ := hq
      have hor := hf.objsIn hob
      simp only [VR] at hx
      obtain ⟨hg, hx⟩ := hx
      simp only [OR] at hor
      cases hB : B g' with
      | none =>
        rw [hB] at hx hor
        obtain ⟨rfl, _, hl⟩ := hx
        exact ⟨[], [], ⟨⟨rfl, rfl⟩, .inl ⟨rfl, rfl, rfl⟩, fun b hb => by simp [Value.ownBlock, rowsI] at hb, by simp [Value.ownBlock, rowsI]⟩⟩
      | some p =>
        obtain ⟨b, n⟩ := p
        rw [hB] at hx hor
        obtain ⟨ad, rfl, hcap, had⟩ := hx
        have had' : ad = ⟨b, 0, none⟩ := by
          rcases had with h | h
          · simpa using h
          · omega
        subst had'
        obtain ⟨cs, fr, h1, h2, h3, h4, h5, h6, h7⟩ := hor
        refine ⟨[], [], ⟨⟨rfl, rfl⟩, .inr ⟨b, n, cs, fr, rfl, h1, h2, by omega, by simp, h6, by simp⟩, fun b' hb => ⟨k', g', _, rfl, hob, ?_⟩, by simp [Value.ownBlock, rowsI]⟩⟩
        rcases hb with hb | hb
        · simp only [Value.ownBlock, Option.some.injEq] at hb
          subst hb
          exact blkL_of hB
        · simp [rowsI] at hb
    · cases h
  · cases h
theorem nbNew_run (hf : FR F B w S a) {y : AV} {v : Value} (hy : VR w F B S.c y v) {l : List NE} {k : Key} {q : Prop} (h : nbNew S.H y = some (l, k, q)) (hq : q) : ∃ e is old, NB F B w S e (some k) l v is old := by
  unfold nbNew at h
  split at h
  · rename_i k' g len
    split at h
    · rename_i g' e' l' hob
      simp only [Option.some.injEq, Prod.mk.injEq] at h
      obtain ⟨rfl, rfl, rfl⟩ := h
      have hb : nbBase S.H e' (.nref k' g len) = some (l', some k', g' = g ∧ e' = e' ∧ len = l'.length) := by simp only [nbBase, hob]
      obtain ⟨is, old, hn⟩ := nbBase_run hf hy hb ⟨hq.1, rfl, hq.2⟩
      exact ⟨e', is, old, hn⟩
    · cases h
  · cases h
theorem appendN_run (hf : FR F B w S a) (hN : a.tmps.size = N) {d : Nat} (hd : dstOK N (some d) = true) {ats : Array TypeId} {ty : TypeId} {x y : AV} {u v : Value} (hx : VR w F B S.c x u) (hy : VR w F B S.c y v) (h : appendN P ats x y d S K) :
    ∃ r w', (Builtin.append_ ats ty #[u, v]).run P w = .ok r w' ∧ ∃ S' F' B', K S' ∧ Tr N F B w S F' B' w' S' (a.put (some d) r) := by
  unfold appendN at h
  split at h
  · rename_i t t' ht
    have hats' : ats = #[t, t'] := Array.ext' (by simpa using ht)
    subst hats'
    split at h
    · rename_i e sz b hei
      obtain ⟨ti, hu, hti, hsz, h0, hag, hb1⟩ := elemI_spec hei
      obtain ⟨rfl, hzl, hsh, hby0, h⟩ := h
      have hbo : P.bytesOf e = ti.bytes := by simp [Program.bytesOf, hti]
      rw [hbo] at hby0 h
      have hz : ∃ z, ti.zero = some z ∧ z.cells.size = 1 := by
        unfold zeroI at hzl
        rw [hti] at hzl
        simp only at hzl
        cases hzz : ti.zero with
        | none => simp [hzz] at hzl
        | some z => exact ⟨z, rfl, by simpa [hzz] using hzl⟩
      obtain ⟨z, hz, hzs⟩ := hz
      split at h
      · rename_i l k q ys k' q' hap han
        obtain ⟨hq, hq', hkk, hby, hk⟩ := h
        replace hk := hk _ rfl
        obtain ⟨is, old, nb⟩ := nbBase_run hf hx hap hq
        obtain ⟨e2, is2, news, nb2⟩ := nbNew_run hf hy han hq'
        have hnl : news.length = ys.length := nb2.nr.len.2
        have hlen : ∀ W, (Builtin.lenOf v).run P W = .ok ys.length W := fun W => by
          rcases nb2.at' with ⟨rfl, h2, h3⟩ | ⟨b, cap, cs, fr, rfl, _⟩
          · simp [Builtin.lenOf, h2]
          · simp [Builtin.lenOf]
        have hfc : ∀ W : World, W.heap = w.heap → (Builtin.firstCells 1 ys.length v).run P W = .ok news.toArray W := fun W hW => by
          rcases nb2.at' with ⟨rfl, h2, rfl⟩ | ⟨b, cap, cs, fr, rfl, hh, hun, hcs, hln, hmx, rfl⟩
          · simp [Builtin.firstCells]
          · refine run_firstCells_some (P := P) W 1 ys.length ⟨b, 0, none⟩ ys.length cap _ (by rw [hnl, Nat.mul_one]) ?_
            have := Cells_of_block (w := W) (by rw [hW]; exact hh) 0 ys.length
            rw [List.drop_zero] at this
            exact this
        obtain ⟨v', w', hr, hos, htp, hout, hcase⟩ := run_append (P := P) (ty := ty) hu hti hsz hz hzs h0 (.inl hsh) hlen hfc (by rw [hnl, Nat.mul_one]) (NRl_one nb2.nr)
          (x := u) (n := l.length) (old := old) (by
            rcases nb.at' with h | ⟨b, cap, cs, fr, h1, h2, h3, h4, h5, h6, h7⟩
            · exact .inl h
            · exact .inr ⟨b, cap, cs, fr, h1, h2, h3, by omega, h5, h6, by rw [Nat.mul_one]; exact h7⟩) hby hby0
        refine ⟨v', w', hr, ?_⟩
        have hsub : (rmKey k (rmKey (some k') S.H)).Sublist S.H := (rmKey_sub _ _).trans (rmKey_sub _ _)
        have hgone1 : ∀ b, u.ownBlock = some b ∨ b ∈ rowsI is → Own S.H B b ∧ ¬ Own (rmKey k (rmKey (some k') S.H)) B b := fun b hb => by
          obtain ⟨k0, g, o, rfl, hob, hbl⟩ := nb.own b hb
          exact ⟨⟨k0, g, o, mem_of_objIn hob, hbl⟩, own_rmKey3 hf hob hbl _⟩
        have hgone2 : ∀ b, b ∈ rowsI is2 → Own S.H B b ∧ ¬ Own (rmKey k (rmKey (some k') S.H)) B b := fun b hb => by
          obtain ⟨k0, g, o, e0, hob, hbl⟩ := nb2.own b (.inr hb)
          simp only [Option.some.injEq] at e0
          subst e0
          exact ⟨⟨_, g, o, mem_of_objIn hob, hbl⟩, own_rmKey2 hf hob hbl _⟩
        have hdisj : ∀ b, (u.ownBlock = some b ∨ b ∈ rowsI is) → b ∈ rowsI is2 → False := fun b h1 h2 => by
          obtain ⟨k0, g, o, rfl, hob, hbl⟩ := nb.own b h1
          obtain ⟨k1, g1, o1, e1, hob1, hbl1⟩ := nb2.own b (.inr h2)
          simp only [Option.some.injEq] at e1
          subst e1
          by_cases hg : g = g1
          · have := same_entry hf.gensNodup (mem_of_objIn hob) (mem_of_objIn hob1) hg
            simp only [Prod.mk.injEq] at this
            exact hkk (by rw [this.1])
          · exact hf.apartL (mem_of_objIn hob) (mem_of_objIn hob1) hg hbl hbl1
        have hnd2 : (rowsI is2).Nodup := by
          have := nb2.nd
          split at this
          · exact (List.nodup_cons.1 this).2
          · exact this
        have hnd1 : (rowsI is).Nodup := by
          have := nb.nd
          split at this
          · exact (List.nodup_cons.1 this).2
          · exact this
        have hndR : (rowsI (is ++ is2)).Nodup := by
          rw [rowsI_append]
          exact List.nodup_append.2 ⟨hnd1, hnd2, fun b hb b' hb' e => hdisj b (.inr hb) (e ▸ hb')⟩
        have hrows : ∀ b ∈ rowsI (is ++ is2), Own S.H B b ∧ ¬ Own (rmKey k (rmKey (some k') S.H)) B b := fun b hb => by
          rw [rowsI_append] at hb
          rcases List.mem_append.1 hb with h | h
          · exact hgone1 b (.inr h)
          · exact hgone2 b h
        have hll : (l ++ ys).length = l.length + ys.length := List.length_append
        rcases hcase with ⟨rfl, rfl, rfl, hnm⟩ | ⟨b, cap, cs, fr, cs', rfl, hh, rfl, hheap, hun', hcs', hroom, hcm, htake⟩ | ⟨cap, cs', rfl, hheap, hcs', hroom, hcm, htake⟩
        · have hl0 : l ++ ys = [] := List.eq_nil_of_length_eq_zero (by rw [hll]; exact hnm)
          rw [hl0] at hk
          refine ⟨_, F, _, hk, moved_Tr (bo := none) hf hN hd hsub (Nat.le_refl _) (fun _ _ _ => rfl) rfl rfl rfl (fun b hb => by cases hb) (NewOK.of fun _ _ h => by cases h) (by simp only [OR, updB_new]) (by simp only [VR, updB_new]; exact ⟨Nat.lt_succ_self _, by simp⟩)⟩
        · have hlt := lt_heap hh
          have hub := hgone1 b (.inl rfl)
          have hk2 : ∀ i, i ≠ b → w'.heap[i]? = w.heap[i]? := fun i hi => by rw [hheap]; exact setB_ne w b i _ hi
          refine ⟨_, F, _, hk, moved_Tr (w' := w') (bo := some (b, encBN (cap, is ++ is2))) hf hN hd hsub (by rw [hheap, setB_size]; omega) (fun i hi ho => hk2 i fun e => hub.2 (ho (e ▸ hub.1) |> fun h => e ▸ h)) hos htp hout (fun b' hb => ?_) ⟨?_, fun h => by cases h⟩ ?_ ?_⟩
          · rw [blkO_enc] at hb
            rcases List.mem_cons.1 hb with rfl | hb
            · exact .inr hub
            · exact .inr (hrows b' hb)
          · rw [blkO_enc]
            refine List.nodup_cons.2 ⟨fun hb => ?_, hndR⟩
            have hb' : b ∈ rowsI (is ++ is2) := hb
            rw [rowsI_append] at hb'
            rcases List.mem_append.1 hb' with h | h
            · have := nb.nd
              simp only [Value.ownBlock] at this
              exact (List.nodup_cons.1 this).1 h
            · exact hdisj b (.inl rfl) h
          · simp only [OR, updB_new, decBN_enc]
            refine ⟨cs', fr, by rw [hheap]; exact setB_at w b _ hlt, hun', by omega, by rw [hll]; exact hroom, hcm, ?_⟩
            rw [Nat.mul_one] at htake
            rw [hll, htake]
            refine NRl.mono (fun i hi => hk2 i fun e => (hf.sep b hub.1).1 (e ▸ hi)) (fun _ h => h) (fun b' n' hm => hk2 b' fun e => ?_) (nb.nr.append nb2.nr)
            subst e
            have hb' : b' ∈ rowsI (is ++ is2) := List.mem_filterMap.2 ⟨_, hm, rfl⟩
            rw [rowsI_append] at hb'
            rcases List.mem_append.1 hb' with h | h
            · have := nb.nd
              simp only [Value.ownBlock] at this
              exact (List.nodup_cons.1 this).1 h
            · exact hdisj b' (.inl rfl) h
          · simp only [VR, updB_new, decBN_enc, hll]
            exact ⟨Nat.lt_succ_self _, trivial⟩
        · have hext : ∀ i, i < w.heap.size → w'.heap[i]? = w.heap[i]? := fun i hi => by rw [hheap]; exact ext_alloc w _ i hi
          refine ⟨_, F, _, hk, moved_Tr (w' := w') (bo := some (w.heap.size, encBN (cap, is ++ is2))) hf hN hd hsub (by rw [hheap, alloc_size]; omega) (fun i hi _ => hext i hi) hos htp hout (fun b' hb => ?_) ⟨?_, fun h => by cases h⟩ ?_ ?_⟩
          · rw [blkO_enc] at hb
            rcases List.mem_cons.1 hb with rfl | hb
            · exact .inl ⟨Nat.le_refl _, by rw [hheap, alloc_size]; omega⟩
            · exact .inr (hrows b' hb)
          · rw [blkO_enc]
            refine List.nodup_cons.2 ⟨fun hb => ?_, hndR⟩
            have := (hf.sep _ (hrows _ hb).1).2
            omega
          · simp only [OR, updB_new, decBN_enc]
            refine ⟨cs', (0, 0), by rw [hheap]; exact alloc_at w _, unf0 cs', by omega, by rw [hll]; exact hroom, hcm, ?_⟩
            rw [Nat.mul_one] at htake
            rw [hll, htake]
            exact NRl.mono (fun i hi => hext i (hf.Flt i hi)) (fun _ h => h) (fun b' n' hm => hext b' (hf.sep b' (hrows b' (List.mem_filterMap.2 ⟨_, hm, rfl⟩)).1).2) (nb.nr.append nb2.nr)
          · simp only [VR, updB_new, decBN_enc, hll]
            exact ⟨Nat.lt_succ_self _, trivial⟩
      · exact h.elim
    · exact h.elim
  · exact h.elim
theorem rowsI_nodup_cons {i : Info} {is : List Info} (h : (rowsI (i :: is)).Nodup) : (rowsI is).Nodup ∧ ∀ b n, i = some (b, n) → ¬ b ∈ rowsI is := by
  cases i with
  | none => exact ⟨by simpa [rowsI] using h, fun b n h => by cases h⟩
  | some q =>
    obtain ⟨b, n⟩ := q
    have h' : (b :: rowsI is).Nodup := by simpa [rowsI] using h
    have := List.nodup_cons.1 h'
    exact ⟨this.2, fun b' n' e => by cases e; exact this.1⟩
theorem mem_rowsI {is : List Info} {j b n : Nat} (h : is.getD j none = some (b, n)) : b ∈ rowsI is := by
  refine List.mem_filterMap.2 ⟨some (b, n), ?_, rfl⟩
  rw [List.getD_eq_getElem?_getD] at h
  cases hj : is[j]? with
  | none => rw [hj] at h; cases h
  | some y =>
    rw [hj] at h
    simp only [Option.getD_some] at h
    subst h
    exact List.mem_of_getElem? hj
 
theorem NRl.upd {b n : Nat} {x : NE} (hF : ∀ i, F i → w'.heap[i]? = w.heap[i]?) (hw : ∀ i, i ≠ b → w'.heap[i]? = w.heap[i]?) : ∀ {l : List NE} {is : List Info} {vs : List Value} {j : Nat}, NRl w F l is vs → (rowsI is).Nodup → is.getD j none = some (b, n) → (∀ v, vs[j]? = some v → NR w F (l.getD j .hole) (some (b, n)) v → NR w' F x (some (b, n)) v) → NRl w' F (l.set j x) is vs
  | [], is, vs, j, h, hn, hj, hx => by
    obtain ⟨rfl, rfl⟩ := h
    cases j <;> cases hj
  | y :: r, is, vs, 0, h, hn, hj, hx => by
    obtain ⟨i, is', v, vs', rfl, rfl, h1, h2⟩ := h
    have hi : i = some (b, n) := by simpa using hj
    subst hi
    obtain ⟨hn2, hnb⟩ := rowsI_nodup_cons hn
    refine ⟨_, is', v, vs', rfl, rfl, hx v (by simp) (by simpa using h1), NRl.mono hF (fun _ h => h) (fun b' n' hm => hw b' fun e => hnb b n rfl ?_) h2⟩
    subst e
    exact List.mem_filterMap.2 ⟨_, hm, rfl⟩
  | y :: r, is, vs, j + 1, h, hn, hj, hx => by
    obtain ⟨i, is', v, vs', rfl, rfl, h1, h2⟩ := h
    obtain ⟨hn2, hnb⟩ := rowsI_nodup_cons hn
    have hj' : is'.getD j none = some (b, n) := by simpa using hj
    refine ⟨i, is', v, vs', rfl, rfl, h1.mono hF (fun _ h => h) (fun b' n' e => hw b' fun e2 => hnb b' n' e (e2 ▸ mem_rowsI hj')), NRl.upd hF hw h2 hn2 hj' fun u hu hr => hx u (by simpa using hu) (by simpa using hr)⟩
theorem DRr_put {w' : World} {F : Nat → Prop} {sz : Nat} {l : List D} {cs cs' : List Value} {j : Nat} {y : D} {nv : List Value} (h : DRr w' F sz l (cs.take (l.length * sz))) (hj : j < l.length) (hL : l.length * sz ≤ cs.length) (hy : DRc w' F y nv) (hn : nv.length = sz) (e : cs' = cs.take (j * sz) ++ nv ++ cs.drop (j * sz + sz)) : DRr w' F sz (l.set j y) (cs'.take (l.length * sz)) := by
  have hjn : (j + 1) * sz ≤ l.length * sz := Nat.mul_le_mul_right _ hj
  rw [Nat.add_mul, Nat.one_mul] at hjn
  have hset := DRr_set h hj hy hn
  have e3 : cs'.take (l.length * sz) = (cs.take (l.length * sz)).take (j * sz) ++ nv ++ (cs.take (l.length * sz)).drop (j * sz + sz) := by
    rw [e]
    generalize l.length * sz = L at *
    generalize j * sz = J at *
    apply List.ext_getElem?
    intro i
    simp only [List.getElem?_take, List.getElem?_append, List.getElem?_drop, List.length_take, List.length_append]
    have c1 : min J cs.length = J := by omega
    have c2 : min J (min L cs.length) = J := by omega
    rw [c1, c2]
    by_cases h1 : i < L
    · rw [if_pos h1]
      by_cases h2 : i < J
      · rw [if_pos (by omega), if_pos h2, if_pos h2, if_pos (by omega), if_pos h2, if_pos h2, if_pos h1]
      · by_cases h3 : i < J + nv.length
        · rw [if_pos h3, if_neg h2, if_pos h3, if_neg h2]
        · rw [if_neg h3, if_neg h3, if_pos (by omega)]
    · rw [if_neg h1]
      by_cases h3 : i < J + nv.length
      · omega
      · rw [if_neg h3, if_neg (by omega)]
  rw [e3]
  exact hset
theorem storeN_run (hf : FR F B w S a) (hN : a.tmps.size = N) {t : TypeId} {p x : AV} {u v : Value} (hp : VR w F B S.c p u) (hx : VR w F B S.c x v) (h : storeN P t p x S K) :
    ∃ w', (Instr.storeAt t u v).run P w = .ok () w' ∧ ∃ S' F' B', K S' ∧ Tr N F B w S F' B' w' S' a := by
  unfold storeN at h
  split at h
  · rename_i sz b hvi
    obtain ⟨ti, hi, hsz, h0, hag, hb1⟩ := varI_spec hvi
    split at h
    · rename_i k g j z i
      split at h
      · rename_i g' e l hob
        obtain ⟨rfl, rfl, hj, h⟩ := h
        replace h := h _ rfl
        split at h
        · rename_i e' z' il hlj
          obtain ⟨rfl, hil, h⟩ := h
          split at h
          · rename_i y htd
            obtain ⟨h1, h2, hk⟩ := h
            replace hk := hk _ rfl
            have hD := toD_DR hf 60 x y [] v htd hx
            rw [FK_nil] at hD
            have hDc := DRc_of_DRv hD
            have hvl : v.cells.toList.length = z' := by rw [hDc.len, h2]
            have hvs : v.cells.size = z' := by simpa using hvl
            simp only [VR] at hp
            obtain ⟨hg, bb, n, b', n', hB, hin, rfl⟩ := hp
            have hor := hf.objsIn hob
            have how := (hf.own1 _ (mem_of_objIn hob)).1
            simp only [OR, hB] at hor
            obtain ⟨cs, fr, hh, hun, hcs, hln, hmx, hnr⟩ := hor
            have hb'r : b' ∈ rowsI (decBN n).2 := mem_rowsI hin
            have hb'o : b' ∈ blkL B g' := rowsI_own hB hb'r
            have hnd : bb ≠ b' ∧ (rowsI (decBN n).2).Nodup := by
              have h3 : (bb :: rowsI (decBN n).2).Nodup := by simpa [blkL, blkO, hB, subB, rowsI] using how
              have h4 := List.nodup_cons.1 h3
              exact ⟨fun e => h4.1 (e ▸ hb'r), h4.2⟩
            obtain ⟨vj, hv1, hv2⟩ := hnr.get hj
            rw [hlj, hin] at hv2
            simp only [NR] at hv2
            obtain ⟨_, cs2, fr2, k1, k2, k3, k4, k5, k6, k7⟩ := hv2
            have hin1 : (i + 1) * z' ≤ il.length * z' := Nat.mul_le_mul_right _ hil
            have hin2 : il.length * z' ≤ n' * z' := Nat.mul_le_mul_right _ k5
            rw [Nat.add_mul, Nat.one_mul] at hin1
            obtain ⟨cs3, r1, r2⟩ := run_storeCells (P := P) (b := b') (off := i * z') (e := e') (fr := fr2) v.cells.toList 0 cs2 w k1 k2 (by omega) (DRc_one hDc)
            have hrun : (Instr.storeAt t (.pointer (some ⟨b', i * z', none⟩)) v).run P w = (storeCells ⟨b', i * z', none⟩ v.cells.toList).run P w := by
              simp [Instr.storeAt, Instr.sureAddr, run_storeVar (P := P) hi (v := v) (by rw [hsz]; exact hvs)]
            have hlt := lt_heap k1
            have hown : Own S.H B b' := ⟨k, g', _, mem_of_objIn hob, hb'o⟩
            have hw : ∀ q, q ≠ b' → (setB w b' (.cells cs3 e' fr2)).heap[q]? = w.heap[q]? := fun q hq => setB_ne w b' q _ hq
            have hF : ∀ q, F q → (setB w b' (.cells cs3 e' fr2)).heap[q]? = w.heap[q]? := fun q hq => hw q fun e => (hf.sep b' hown).1 (e ▸ hq)
            have hs3 : cs3.size = cs2.size := by
              have := congrArg List.length r2
              simp at this
              omega
            have hf2 := FR.upd (w' := setB w b' (.cells cs3 e' fr2)) (o := .nest e (l.set j (.row e' z' (il.set i y)))) hf hob hb'o (by rw [setB_size]; omega) (fun q _ hq => hw q hq) (by
              simp only [OR, hB]
              refine ⟨cs, fr, by rw [hw bb hnd.1]; exact hh, hun, hcs, by simpa using hln, hmx, ?_⟩
              rw [List.length_set]
              refine NRl.upd hF hw hnr hnd.2 hin fun v0 _ hv0 => ?_
              rw [hlj] at hv0
              simp only [NR] at hv0 ⊢
              refine ⟨by rw [List.length_set]; exact hv0.1, cs3, fr2, setB_at w b' _ hlt, fun q hq => k2 q (by omega), k3, by omega, by simpa using k5, k6, ?_⟩
              rw [List.length_set]
              refine DRr_put (cs := cs2.toList) (DRr.mono hF (fun _ h => h) _ _ _ k7) hil (by simp; omega) (DRc.mono hF (fun _ h => h) _ _ hDc) hvl ?_
              rw [r2, Nat.add_zero, hvl]) (fun h => by cases h)
            exact ⟨_, by rw [hrun]; exact r1, _, F, B, hk, hf2, hN, fun _ h => h, fun q _ hq => hw q fun e => hq (e ▸ hown), fun q hq => hq.elim .inl fun h => .inr (.inl (own_setO hob h)), rfl, rfl, rfl, by rw [setB_size]; omega, fun _ _ => rfl⟩
          · exact h.elim
        · exact h.elim
      · exact h.elim
    · exact h.elim
  · exact h.elim
theorem getIn_regE (g g' : Nat) : ∀ (E : List (Nat × AV)) (t : Nat), getIn (regE g g' E) t = regA g g' (getIn E t)
  | [], t => rfl
  | (k, v) :: r, t => by
    simp only [regE, getIn]
    split
    · rfl
    · exact getIn_regE g g' r t
 
theorem FR.reg {E : List (Nat × AV)} {H : List (Key × Nat × AO)} {c : Nat} (hf : FR F B w ⟨E, H, c⟩ a) {g g' b n n' : Nat} (hB : B g = some (b, n)) (hB' : B g' = some (b, n')) (hn : (decBN n').1 = (decBN n).1) (hc : g' < c) : FR F B w ⟨regE g g' E, H, c⟩ a where
  slots t := by
    show VR w F B c (getIn (regE g g' E) t) _
    rw [getIn_regE]
    have h := hf.slots t
    have h' : VR w F B c (getIn E t) (a.tmps.getD t undef) := h
    generalize getIn E t = x at h'
    cases x <;> try exact h'
    case nref k q len =>
      simp only [regA]
      split
      · rename_i hq
        subst hq
        simp only [VR, hB, hB', hn] at h' ⊢
        exact ⟨hc, h'.2⟩
      · exact h'
    case elt k q sz j o =>
      simp only [regA]
      split
      · rename_i hq
        subst hq
        simp only [VR] at h' ⊢
        obtain ⟨_, b2, n2, h1, h2⟩ := h'
        rw [hB] at h1
        simp only [Option.some.injEq, Prod.mk.injEq] at h1
        obtain ⟨rfl, rfl⟩ := h1
        exact ⟨hc, b, n', hB', h2⟩
      · exact h'
  objs := hf.objs
  sep := hf.sep
  inj := hf.inj
  own1 := hf.own1
  Flt := hf.Flt
  defers := hf.defers
  pin := hf.pin
theorem rowsI_set_sub {x : Nat} : ∀ {is : List Info} {j : Nat}, x ∈ rowsI (is.set j none) → x ∈ rowsI is
  | [], j, h => by simpa using h
  | i :: is, 0, h => by
    have h' : x ∈ rowsI is := by simpa [rowsI] using h
    cases i with
    | none => simpa [rowsI] using h'
    | some p => simp only [rowsI, List.filterMap_cons, Option.map_some]; exact List.mem_cons_of_mem _ h'
  | i :: is, j + 1, h => by
    cases i with
    | none =>
      have h' : x ∈ rowsI (is.set j none) := by simpa [rowsI] using h
      have := rowsI_set_sub h'
      simpa [rowsI] using this
    | some p =>
      have h' : x ∈ p.1 :: rowsI (is.set j none) := by simpa [rowsI] using h
      have h2 : x ∈ p.1 :: rowsI is := by
        rcases List.mem_cons.1 h' with e | e
        · exact e ▸ List.mem_cons_self ..
        · exact List.mem_cons_of_mem _ (rowsI_set_sub e)
      simpa [rowsI] using h2
theorem rowsI_set_nodup : ∀ {is : List Info} {j : Nat}, (rowsI is).Nodup → (rowsI (is.set j none)).Nodup ∧ ∀ b n, is.getD j none = some (b, n) → ¬ b ∈ rowsI (is.set j none)
  | [], j, h => by simp [rowsI]
  | i :: is, 0, h => by
    obtain ⟨h1, h2⟩ := rowsI_nodup_cons h
    have e : rowsI ((i :: is).set 0 none) = rowsI is := by simp [rowsI]
    rw [e]
    exact ⟨h1, fun b n hi => h2 b n (by simpa using hi)⟩
  | i :: is, j + 1, h => by
    obtain ⟨h1, h2⟩ := rowsI_nodup_cons h
    obtain ⟨k1, k2⟩ := rowsI_set_nodup (j := j) h1
    cases i with
    | none =>
      have e : rowsI ((none :: is).set (j + 1) none) = rowsI (is.set j none) := by simp [rowsI]
      rw [e]
      exact ⟨k1, fun b n hi => k2 b n (by simpa using hi)⟩
    | some p =>
      have e : rowsI ((some p :: is).set (j + 1) none) = p.1 :: rowsI (is.set j none) := by simp [rowsI]
      rw [e]
      refine ⟨List.nodup_cons.2 ⟨fun hm => h2 p.1 p.2 rfl (rowsI_set_sub hm), k1⟩, fun b n hi hm => ?_⟩
      have hi' : is.getD j none = some (b, n) := by simpa using hi
      rcases List.mem_cons.1 hm with e | e
      · subst e
        exact h2 p.1 p.2 rfl (mem_rowsI hi')
      · exact k2 b n hi' e
theorem rowsI_set_some {x b n : Nat} : ∀ {is : List Info} {j : Nat}, j < is.length → (x ∈ rowsI (is.set j (some (b, n))) ↔ x = b ∨ x ∈ rowsI (is.set j none))
  | [], j, h => by simp at h
  | i :: is, 0, h => by simp [rowsI]
  | i :: is, j + 1, h => by
    have := rowsI_set_some (x := x) (b := b) (n := n) (is := is) (j := j) (by simpa using h)
    cases i with
    | none => simpa [rowsI] using this
    | some p =>
      simp only [rowsI] at this
      simp only [rowsI, List.set_cons_succ, List.filterMap_cons, Option.map_some, List.mem_cons, this]
      constructor
      · rintro (h | h | h)
        · exact .inr (.inl h)
        · exact .inl h
        · exact .inr (.inr h)
      · rintro (h | h | h)
        · exact .inr (.inl h)
        · exact .inl h
        · exact .inr (.inr h)
theorem rowsI_set_some_nodup {b n : Nat} : ∀ {is : List Info} {j : Nat}, j < is.length → (rowsI (is.set j none)).Nodup → ¬ b ∈ rowsI (is.set j none) → (rowsI (is.set j (some (b, n)))).Nodup
  | [], j, h, _, _ => by simp at h
  | i :: is, 0, h, h1, h2 => by
    have e : rowsI ((i :: is).set 0 none) = rowsI is := by simp [rowsI]
    rw [e] at h1 h2
    have e2 : rowsI ((i :: is).set 0 (some (b, n))) = b :: rowsI is := by simp [rowsI]
    rw [e2]
    exact List.nodup_cons.2 ⟨h2, h1⟩
  | i :: is, j + 1, h, h1, h2 => by
    have hj : j < is.length := by simpa using h
    cases i with
    | none =>
      have e : ∀ q, rowsI ((none :: is).set (j + 1) q) = rowsI (is.set j q) := fun q => by simp [rowsI]
      rw [e] at h1 h2 ⊢
      exact rowsI_set_some_nodup hj h1 h2
    | some p =>
      have e : ∀ q, rowsI ((some p :: is).set (j + 1) q) = p.1 :: rowsI (is.set j q) := fun q => by simp [rowsI]
      rw [e] at h1 h2 ⊢
      obtain ⟨k1, k2⟩ := List.nodup_cons.1 h1
      have h2' := fun h => h2 (List.mem_cons_of_mem _ h)
      refine List.nodup_cons.2 ⟨fun hm => ?_, rowsI_set_some_nodup hj k2 h2'⟩
      rcases (rowsI_set_some hj).1 hm with e | e
      · exact h2 (e ▸ List.mem_cons_self ..)
      · exact k1 e
theorem NRl.set2 {x : NE} {i : Info} {v : Value} {l : List NE} {is : List Info} {vs : List Value} {j : Nat} (hx : NR w F x i v) (h : NRl w F l is vs) (hj : j < l.length) (hv : vs[j]? = some v) : NRl w F (l.set j x) (is.set j i) vs := by
  have := h.set hx hj
  have e : vs.set j v = vs := by
    apply List.ext_getElem?
    intro q
    rw [List.getElem?_set]
    split
    · rename_i hq
      subst hq
      split
      · exact hv.symm
      · rename_i hlt
        rw [List.getElem?_eq_none (by omega)]
    · rfl
  rwa [e] at this
theorem appendS_run (hf : FR F B w S a) (hN : a.tmps.size = N) {d : Nat} (hd : dstOK N (some d) = true) {ats : Array TypeId} {ty : TypeId} {k : Key} {g j z len : Nat} {y : AV} {u v : Value} (hx : VR w F B S.c (.sub k g j z len) u) (hy : VR w F B S.c y v) (h : appendS P ats k g j z len y d S K) :
    ∃ r w', (Builtin.append_ ats ty #[u, v]).run P w = .ok r w' ∧ ∃ S' F' B', K S' ∧ Tr N F B w S F' B' w' S' (a.put (some d) r) := by
  unfold appendS at h
  split at h
  · rename_i t t' ht
    have hats' : ats = #[t, t'] := Array.ext' (by simpa using ht)
    subst hats'
    split at h
    · rename_i e sz b hei
      obtain ⟨ti, hu, hti, hsz, h0, hag, hb1⟩ := elemI_spec hei
      obtain ⟨hzl, hsh, hby0, h⟩ := h
      have hbo : P.bytesOf e = ti.bytes := by simp [Program.bytesOf, hti]
      rw [hbo] at hby0 h
      have hz : ∃ z, ti.zero = some z ∧ z.cells.size = sz := by
        unfold zeroI at hzl
        rw [hti] at hzl
        simp only at hzl
        cases hzz : ti.zero with
        | none => simp [hzz] at hzl
        | some z => exact ⟨z, rfl, by simpa [hzz] using hzl⟩
      obtain ⟨z0, hz, hzs⟩ := hz
      split at h
      · rename_i g' en l ys hob han
        obtain ⟨rfl, hj, h⟩ := h
        replace h := h _ rfl
        split at h
        · rename_i e' z' il hlj
          obtain ⟨rfl, rfl, rfl, rfl, hby, h⟩ := h
          have hk := h _ rfl _ rfl
          obtain ⟨news, n1, n2, n3, n4⟩ := apNew_run (P := P) hf hy han
          simp only [VR] at hx
          obtain ⟨hg, bN, nN, hB, hxu, hxn⟩ := hx
          have hor := hf.objsIn hob
          have how := (hf.own1 _ (mem_of_objIn hob)).1
          simp only [OR, hB] at hor
          obtain ⟨cs, fr, hh, hun, hcs, hln, hmx, hnr⟩ := hor
          have hblk : blkL B g' = bN :: rowsI (decBN nN).2 := by simp [blkL, blkO, hB, subB, rowsI]
          rw [hblk] at how
          obtain ⟨hnd1, hnd2⟩ := List.nodup_cons.1 how
          obtain ⟨vj, hv1, hv2⟩ := hnr.get hj
          rw [hlj] at hv2
          have hisl := hnr.len.1
          have hbase : ∃ old : List Value, DRr w F z il old ∧ ((u = .slice none 0 0 ∧ il.length = 0 ∧ old = []) ∨ ∃ b cap cs fr, u = .slice (some ⟨b, 0, none⟩) il.length cap ∧ w.heap[b]? = some (.cells cs e' fr) ∧ Unf cs fr ∧ cs.size = cap * z ∧ il.length ≤ cap ∧ cap ≤ maxLen ∧ old = cs.toList.take (il.length * z)) ∧
              (∀ b, u.ownBlock = some b → ∃ n, (decBN nN).2.getD j none = some (b, n)) ∧ NR w F .hole none vj := by
            cases hi : (decBN nN).2.getD j none with
            | none =>
              rw [hi] at hxu hv2
              simp only [NR] at hv2
              obtain ⟨rfl, rfl⟩ := hv2
              refine ⟨[], by simp [DRr], .inl ⟨hxu, rfl, rfl⟩, fun b hb => ?_, ⟨rfl, none, 0, 0, rfl⟩⟩
              rw [hxu] at hb
              simp [slv, Value.ownBlock] at hb
            | some p =>
              obtain ⟨b', n'⟩ := p
              rw [hi] at hxu hv2
              simp only [NR] at hv2
              obtain ⟨rfl, cs2, fr2, k1, k2, k3, k4, k5, k6, k7⟩ := hv2
              refine ⟨_, k7, .inr ⟨b', n', cs2, fr2, hxu, k1, k2, k4, k5, k6, rfl⟩, fun b hb => ?_, ⟨rfl, _, _, _, rfl⟩⟩
              rw [hxu] at hb
              simp only [slv, Value.ownBlock, Option.some.injEq] at hb
              exact ⟨n', by rw [hb]⟩
          obtain ⟨old, ho1, ho2, ho3, hhole⟩ := hbase
          obtain ⟨v', w', hr, hos, htp, hout, hcase⟩ := run_append (P := P) (ty := ty) hu hti hsz hz hzs h0 (.inl hsh) n1 (by rw [hsz] at *; exact n2) n3 (DRr_one n4) ho2 hby hby0
          refine ⟨v', w', hr, ?_⟩
          have hsub : (dropKey [d] (rmKey (some k) S.H)).Sublist S.H := (dropKey_sub _ _).trans (rmKey_sub _ _)
          have hmine : ∀ b, b ∈ blkL B g' → Own S.H B b := fun b hb => ⟨k, g', _, mem_of_objIn hob, hb⟩
          have hrest : ∀ x ∈ dropKey [d] (rmKey (some k) S.H), ∀ b, b ∈ blkL B g' → ¬ b ∈ blkL B x.2.1 := fun x hx b hb hb' =>
            own_rmKey hf hob hb ⟨x.1, x.2.1, x.2.2, (dropKey_sub _ _).subset hx, hb'⟩
          have hub : ∀ b, u.ownBlock = some b → b ∈ rowsI (decBN nN).2 ∧ b ∈ blkL B g' ∧ b ≠ bN ∧ ¬ b ∈ rowsI ((decBN nN).2.set j none) := fun b hb => by
            obtain ⟨n, hn⟩ := ho3 b hb
            have h1 := mem_rowsI hn
            exact ⟨h1, by rw [hblk]; exact List.mem_cons_of_mem _ h1, fun e => hnd1 (e ▸ h1), (rowsI_set_nodup hnd2).2 b n hn⟩
          have finish : ∀ (bo : Option (Nat × Nat)), w.heap.size ≤ w'.heap.size → (∀ i, i < w.heap.size → u.ownBlock ≠ some i → w'.heap[i]? = w.heap[i]?) →
              (∀ b n, bo = some (b, n) → b < w'.heap.size ∧ (w.heap.size ≤ b ∨ u.ownBlock = some b) ∧ n ≤ maxLen) → (∀ B' c g, B' g = bo → OR w' F B' c g (.row e' z (il ++ ys))) →
              (∀ B' c k g, g < c → B' g = bo → VR w' F B' c (.ref k g z 0 (il ++ ys).length) v') →
              ∃ S' F' B', K S' ∧ Tr N F B w S F' B' w' S' (a.put (some d) v') := by
            intro bo hle hkeep hbo hor hvr
            have hFb : ∀ i, F i → w'.heap[i]? = w.heap[i]? := fun i hi => hkeep i (hf.Flt i hi) fun hb => (hf.sep i (hmine i (hub i hb).2.1)).1 hi
            have hbN : blkO (some (bN, encBN ((decBN nN).1, (decBN nN).2.set j none))) = bN :: rowsI ((decBN nN).2.set j none) := blkO_enc _ _ _
            have hin : ∀ b, b ∈ bN :: rowsI ((decBN nN).2.set j none) → b ∈ blkL B g' := fun b hb => by
              rw [hblk]
              rcases List.mem_cons.1 hb with e | e
              · exact e ▸ List.mem_cons_self ..
              · exact List.mem_cons_of_mem _ (rowsI_set_sub e)
            have hnin : ∀ b, u.ownBlock = some b → ¬ b ∈ bN :: rowsI ((decBN nN).2.set j none) := fun b hb hm => by
              rcases List.mem_cons.1 hm with e | e
              · exact (hub b hb).2.2.1 e
              · exact (hub b hb).2.2.2 e
            have hkN : ∀ b, b ∈ bN :: rowsI ((decBN nN).2.set j none) → w'.heap[b]? = w.heap[b]? := fun b hb => hkeep b (hf.sep b (hmine b (hin b hb))).2 fun hu => hnin b hu hb
            have hf1 := FR.add (w' := w') (bo := some (bN, encBN ((decBN nN).1, (decBN nN).2.set j none))) (k := k) (o := .nest en (l.set j .hole)) hf hsub hle hFb
              (fun x hx b hb => hkeep b (hf.sep b ⟨x.1, x.2.1, x.2.2, hsub.subset hx, hb⟩).2 fun hu => hrest x hx b (hub b hu).2.1 hb)
              (fun b hb => by
                rw [hbN] at hb
                have := hf.sep b (hmine b (hin b hb))
                exact ⟨this.1, by omega, fun x hx => hrest x hx b (hin b hb)⟩)
              ⟨by rw [hbN]; exact List.nodup_cons.2 ⟨fun hm => hnd1 (rowsI_set_sub hm), (rowsI_set_nodup hnd2).1⟩, fun h => by cases h⟩
              (by
                simp only [OR, updB_new, decBN_enc]
                refine ⟨cs, fr, by rw [hkN bN (List.mem_cons_self ..)]; exact hh, hun, hcs, by rw [List.length_set]; exact hln, hmx, ?_⟩
                rw [List.length_set]
                exact NRl.mono hFb (fun _ h => h) (fun b n hm => hkN b (List.mem_cons_of_mem _ (List.mem_filterMap.2 ⟨_, hm, rfl⟩))) (NRl.set2 hhole hnr hj hv1))
            have hBo : ∀ b ∈ blkO bo, b < w'.heap.size ∧ (w.heap.size ≤ b ∨ u.ownBlock = some b) := fun b hb => by
              cases bo with
              | none => simp [blkO] at hb
              | some p =>
                obtain ⟨b', n⟩ := p
                obtain ⟨h1, h2, h3⟩ := hbo b' n rfl
                rw [blkO_le h3, List.mem_singleton] at hb
                subst hb
                exact ⟨h1, h2⟩
            have hf2 := FR.add (w' := w') (bo := bo) (k := [d]) (o := .row e' z (il ++ ys)) hf1 (List.Sublist.refl _) (Nat.le_refl _) (fun _ _ => rfl) (fun _ _ _ _ => rfl)
              (fun b hb => by
                obtain ⟨h1, h2⟩ := hBo b hb
                refine ⟨fun hF => ?_, h1, fun x hx hb' => ?_⟩
                · rcases h2 with h2 | h2
                  · have := hf.Flt b hF
                    omega
                  · exact (hf.sep b (hmine b (hub b h2).2.1)).1 hF
                · rcases List.mem_cons.1 hx with rfl | hx
                  · simp only [blkL_new, hbN] at hb'
                    rcases h2 with h2 | h2
                    · have := (hf.sep b (hmine b (hin b hb'))).2
                      omega
                    · exact hnin b h2 hb'
                  · rw [blkL_congr (updB_old (hf.objs x.1 x.2.1 x.2.2 (hsub.subset hx)).1)] at hb'
                    rcases h2 with h2 | h2
                    · have := (hf.sep b ⟨x.1, x.2.1, x.2.2, hsub.subset hx, hb'⟩).2
                      omega
                    · exact hrest x hx b (hub b h2).2.1 hb')
              (NewOK.of fun b n h => (hbo b n h).2.2) (hor _ _ _ updB_new)
            have hf3 := hf2.reg (g := g') (g' := S.c) (b := bN) (n := nN) (n' := encBN ((decBN nN).1, (decBN nN).2.set j none)) (by rw [updB_old (by show g' < S.c + 1; omega), updB_old hg]; exact hB) (by rw [updB_old (by show S.c < S.c + 1; omega), updB_new]) (by rw [decBN_enc]) (by show S.c < S.c + 1 + 1; omega)
            have hf4 := hf3.put (S := ⟨regE g' S.c S.E, _, _⟩) hN hd (hvr _ _ [d] (S.c + 1) (Nat.lt_succ_self _) updB_new)
            refine ⟨_, F, _, hk, hf4, by rw [Act.put_size]; exact hN, fun b h => h, fun b hb hn => hkeep b hb fun hu => hn (hmine b (hub b hu).2.1), fun b hb => ?_, hos, htp, hout, hle, fun g hg => ?_⟩
            · rcases hb with hb | ⟨k2, g2, o2, hm, hB2⟩
              · exact .inl hb
              · have hm' : (k2, g2, o2) ∈ ([d], S.c + 1, AO.row e' z (il ++ ys)) :: (k, S.c, AO.nest en (l.set j .hole)) :: dropKey [d] (rmKey (some k) S.H) := hm
                rcases List.mem_cons.1 hm' with h | h
                · simp only [Prod.mk.injEq] at h
                  obtain ⟨rfl, rfl, rfl⟩ := h
                  have hB3 : b ∈ blkO bo := by
                    have e : blkL (updB (updB B S.c (some (bN, encBN ((decBN nN).1, (decBN nN).2.set j none)))) (S.c + 1) bo) (S.c + 1) = blkO bo := blkL_new
                    exact e ▸ hB2
                  obtain ⟨_, h2⟩ := hBo b hB3
                  rcases h2 with h2 | h2
                  · exact .inr (.inr h2)
                  · exact .inr (.inl (hmine b (hub b h2).2.1))
                · rcases List.mem_cons.1 h with h | h
                  · simp only [Prod.mk.injEq] at h
                    obtain ⟨rfl, rfl, rfl⟩ := h
                    have e : blkL (updB (updB B S.c (some (bN, encBN ((decBN nN).1, (decBN nN).2.set j none)))) (S.c + 1) bo) S.c = bN :: rowsI ((decBN nN).2.set j none) := by
                      rw [blkL_congr (updB_old (Nat.lt_succ_self _)), blkL_new, hbN]
                    exact .inr (.inl (hmine b (hin b (e ▸ hB2))))
                  · have hmS := hsub.subset h
                    have hlt := (hf.objs k2 g2 o2 hmS).1
                    have e : blkL (updB (updB B S.c (some (bN, encBN ((decBN nN).1, (decBN nN).2.set j none)))) (S.c + 1) bo) g2 = blkL B g2 := by
                      rw [blkL_congr (updB_old (by omega)), blkL_congr (updB_old hlt)]
                    exact .inr (.inl ⟨k2, g2, o2, hmS, e ▸ hB2⟩)
            · have := hf.pin
              show updB (updB B S.c _) (S.c + 1) bo g = B g
              rw [updB_old (by omega), updB_old (by omega)]
          have hll : (il ++ ys).length = il.length + ys.length := List.length_append
          have hsl : ∀ (B' : Blk) (c g cap b : Nat) (k : Key), g < c → B' g = some (b, cap) → (il ++ ys).length ≤ cap → VR w' F B' c (.ref k g z 0 (il ++ ys).length) (.slice (some ⟨b, 0, none⟩) (il.length + ys.length) cap) := fun B' c g cap b k hg hB' hc => by
            simp only [VR, hB', hll]
            exact ⟨hg, ⟨b, 0, none⟩, rfl, by omega, .inl (by simp)⟩
          rcases hcase with ⟨rfl, rfl, rfl, hnm⟩ | ⟨b, cap, cs2, fr2, cs', rfl, hh2, rfl, hheap, hun', hcs', hroom, hcm, htake⟩ | ⟨cap, cs', rfl, hheap, hcs', hroom, hcm, htake⟩
          · have hl0 : il ++ ys = [] := List.eq_nil_of_length_eq_zero (by rw [hll]; exact hnm)
            exact finish none (Nat.le_refl _) (fun _ _ _ => rfl) (fun _ _ h => by cases h) (fun B' c g hb => by simp only [OR, hb]; exact hl0) (fun B' c k g hg hb => by simp [VR, hb, hl0, hg])
          · have hlt := lt_heap hh2
            have hk2 : ∀ i, i ≠ b → w'.heap[i]? = w.heap[i]? := fun i hi => by rw [hheap]; exact setB_ne w b i _ hi
            have hFk : ∀ i, F i → w'.heap[i]? = w.heap[i]? := fun i hi => hk2 i fun e => (hf.sep b (hmine b (hub b rfl).2.1)).1 (e ▸ hi)
            refine finish (some (b, cap)) (by rw [hheap, setB_size]; omega) (fun i _ hi => hk2 i fun e => hi (by rw [e]; rfl)) (fun b' n hb => by cases hb; exact ⟨by rw [hheap, setB_size]; exact hlt, .inr rfl, hcm⟩) (fun B' c g hb => ?_) (fun B' c k g hg hb => hsl B' c g cap b k hg hb (by omega))
            simp only [OR, hb]
            refine ⟨cs', fr2, by rw [hheap]; exact setB_at w b _ hlt, hun', h0, hcs', by omega, hcm, ?_⟩
            rw [hll, htake]
            exact DRr.mono hFk (fun _ h => h) _ _ _ (ho1.append n4)
          · have hext : ∀ i, i < w.heap.size → w'.heap[i]? = w.heap[i]? := fun i hi => by rw [hheap]; exact ext_alloc w _ i hi
            refine finish (some (w.heap.size, cap)) (by rw [hheap, alloc_size]; omega) (fun i hi _ => hext i hi) (fun b' n hb => by cases hb; exact ⟨by rw [hheap, alloc_size]; omega, .inl (Nat.le_refl _), hcm⟩) (fun B' c g hb => ?_) (fun B' c k g hg hb => hsl B' c g cap _ k hg hb (by omega))
            simp only [OR, hb]
            refine ⟨cs', (0, 0), by rw [hheap]; exact alloc_at w _, unf0 cs', h0, hcs', by omega, hcm, ?_⟩
            rw [hll, htake]
            exact DRr.mono (fun i hi => hext i (hf.Flt i hi)) (fun _ h => h) _ _ _ (ho1.append n4)
        · exact h.elim
      · exact h.elim
    · exact h.elim
  · exact h.elim
theorem storeE_run (hf : FR F B w S a) (hN : a.tmps.size = N) {t : TypeId} {k : Key} {g z j o : Nat} {x : AV} {u v : Value} (hp : VR w F B S.c (.elt k g z j o) u) (hx : VR w F B S.c x v) (h : storeE P t k g z j o x S K) :
    ∃ w', (Instr.storeAt t u v).run P w = .ok () w' ∧ ∃ S' F' B', K S' ∧ Tr N F B w S F' B' w' S' a := by
  unfold storeE at h
  split at h
  · rename_i sz b hvi
    obtain ⟨ti, hi, hsz, h0, hag, hb1⟩ := varI_spec hvi
    split at h
    · rename_i g' e l k2 g2 z2 off len hob
      split at h
      · rename_i g3 e' z' il hob2
        obtain ⟨rfl, rfl, rfl, rfl, rfl, rfl, rfl, rfl, rfl, hkk, hj, h⟩ := h
        have hk := h _ rfl
        have hor := hf.objsIn hob
        have hor2 := hf.objsIn hob2
        have how := (hf.own1 _ (mem_of_objIn hob)).1
        have how2 := hf.own1 _ (mem_of_objIn hob2)
        simp only [VR] at hp
        obtain ⟨hg, bN, nN, hB, rfl⟩ := hp
        simp only [OR, hB] at hor
        obtain ⟨cs, fr, hh, hun, hcs, hln, hmx, hnr⟩ := hor
        have hblk : blkL B g' = bN :: rowsI (decBN nN).2 := by simp [blkL, blkO, hB, subB, rowsI]
        rw [hblk] at how
        obtain ⟨hnd1, hnd2⟩ := List.nodup_cons.1 how
        have hisl := hnr.len.1
        have hgg : g' ≠ g3 := fun e => by
          have := same_entry hf.gensNodup (mem_of_objIn hob) (mem_of_objIn hob2) e
          simp only [Prod.mk.injEq] at this
          exact hkk this.1
        have hapart : ∀ b, b ∈ blkL B g' → ¬ b ∈ blkL B g3 := fun b h1 h2 => hf.apartL (mem_of_objIn hob) (mem_of_objIn hob2) hgg h1 h2
        have hrow : NR w F (.row e' z2 il) (B g3) v ∧ v.cells = #[v] ∧ v.oneCell' = true := by
          simp only [VR] at hx
          obtain ⟨hg2, hx⟩ := hx
          simp only [OR] at hor2
          simp only [NR]
          cases hB2 : B g3 with
          | none =>
            rw [hB2] at hx hor2
            obtain ⟨rfl, _, hl⟩ := hx
            exact ⟨⟨rfl, hor2⟩, rfl, rfl⟩
          | some p =>
            obtain ⟨b, n⟩ := p
            rw [hB2] at hx hor2
            obtain ⟨ad, rfl, hcap, had⟩ := hx
            have had' : ad = ⟨b, 0, none⟩ := by rcases had with h | h; simpa using h; omega
            subst had'
            exact ⟨⟨rfl, hor2⟩, rfl, rfl⟩
        obtain ⟨hrow, hvc, hv1c⟩ := hrow
        have hjc : j < cs.size := by omega
        obtain ⟨cs3, r1, r2⟩ := run_storeCells (P := P) (b := bN) (off := j) (e := e) (fr := fr) [v] 0 cs w hh hun (by simp; omega) (by simp [hv1c])
        have hrun : (Instr.storeAt t (.pointer (some ⟨bN, j * 1 + 0, none⟩)) v).run P w = (storeCells ⟨bN, j, none⟩ [v]).run P w := by
          have := run_storeVar (P := P) hi (ad := ⟨bN, j, none⟩) (v := v) (by rw [hsz, hvc]; rfl) w
          rw [hvc] at this
          simp only [Nat.mul_one, Nat.add_zero, Instr.storeAt, Instr.sureAddr]
          simpa using this
        have hlt := lt_heap hh
        have hownN : Own S.H B bN := ⟨k, g', _, mem_of_objIn hob, by rw [hblk]; exact List.mem_cons_self ..⟩
        have hmine : ∀ b, b ∈ blkL B g' → Own S.H B b := fun b hb => ⟨k, g', _, mem_of_objIn hob, hb⟩
        have hmine2 : ∀ b, b ∈ blkL B g3 → Own S.H B b := fun b hb => ⟨k2, g3, _, mem_of_objIn hob2, hb⟩
        have hw : ∀ q, q ≠ bN → (setB w bN (.cells cs3 e fr)).heap[q]? = w.heap[q]? := fun q hq => setB_ne w bN q _ hq
        have hF : ∀ q, F q → (setB w bN (.cells cs3 e fr)).heap[q]? = w.heap[q]? := fun q hq => hw q fun e => (hf.sep bN hownN).1 (e ▸ hq)
        have hs3 : cs3.size = cs.size := by
          have := congrArg List.length r2
          simp at this
          omega
        have hB2le : ∀ b n, B g3 = some (b, n) → blkL B g3 = [b] := fun b n h => how2.one rfl h
        have hsub : (rmKey (some k) (rmKey (some k2) S.H)).Sublist S.H := (rmKey_sub _ _).trans (rmKey_sub _ _)
        have hnew : ∀ b, b ∈ rowsI ((decBN nN).2.set j (B g3)) → b ∈ blkL B g3 ∨ b ∈ rowsI ((decBN nN).2.set j none) := fun b hb => by
          cases hB2 : B g3 with
          | none => rw [hB2] at hb; exact .inr hb
          | some p =>
            obtain ⟨b', n'⟩ := p
            rw [hB2] at hb
            rcases (rowsI_set_some (by omega)).1 hb with e | e
            · exact .inl (e ▸ blkL_of hB2)
            · exact .inr e
        have hins : ∀ b, b ∈ rowsI ((decBN nN).2.set j none) → b ∈ blkL B g' := fun b hb => by rw [hblk]; exact List.mem_cons_of_mem _ (rowsI_set_sub hb)
        have hbN2 : blkO (some (bN, encBN ((decBN nN).1, (decBN nN).2.set j (B g3)))) = bN :: rowsI ((decBN nN).2.set j (B g3)) := blkO_enc _ _ _
        have hall : ∀ b, b ∈ bN :: rowsI ((decBN nN).2.set j (B g3)) → b ∈ blkL B g' ∨ b ∈ blkL B g3 := fun b hb => by
          rcases List.mem_cons.1 hb with e | e
          · exact .inl (by rw [hblk, e]; exact List.mem_cons_self ..)
          · exact (hnew b e).elim .inr fun h => .inl (hins b h)
        have hgone : ∀ b, b ∈ blkL B g' ∨ b ∈ blkL B g3 → ¬ Own (rmKey (some k) (rmKey (some k2) S.H)) B b := fun b hb => hb.elim (fun h => own_rmKey3 hf hob h _) fun h => own_rmKey2 hf hob2 h _
        have hndN : (bN :: rowsI ((decBN nN).2.set j (B g3))).Nodup := by
          refine List.nodup_cons.2 ⟨fun hm => ?_, ?_⟩
          · rcases hnew bN hm with h | h
            · exact hapart bN (by rw [hblk]; exact List.mem_cons_self ..) h
            · exact hnd1 (rowsI_set_sub h)
          · cases hB2 : B g3 with
            | none => exact (rowsI_set_nodup hnd2).1
            | some p =>
              obtain ⟨b', n'⟩ := p
              exact rowsI_set_some_nodup (by omega) (rowsI_set_nodup hnd2).1 fun h => hapart b' (hins b' h) (blkL_of hB2)
        have hf1 := FR.add (w' := setB w bN (.cells cs3 e fr)) (bo := some (bN, encBN ((decBN nN).1, (decBN nN).2.set j (B g3)))) (k := k) (o := .nest e (l.set j (.row e' z2 il))) hf hsub (by rw [setB_size]; omega) hF
          (fun y hy b hb => hw b fun e => hgone bN (.inl (by rw [hblk]; exact List.mem_cons_self ..)) ⟨y.1, y.2.1, y.2.2, hy, e ▸ hb⟩)
          (fun b hb => by
            rw [hbN2] at hb
            have ho : Own S.H B b := (hall b hb).elim (hmine b) (hmine2 b)
            have := hf.sep b ho
            exact ⟨this.1, by rw [setB_size]; exact this.2, fun y hy hb' => hgone b (hall b hb) ⟨y.1, y.2.1, y.2.2, hy, hb'⟩⟩)
          ⟨by rw [hbN2]; exact hndN, fun h => by cases h⟩
          (by
            simp only [OR, updB_new, decBN_enc]
            refine ⟨cs3, fr, setB_at w bN _ hlt, fun q hq => hun q (by omega), by omega, by rw [List.length_set]; exact hln, hmx, ?_⟩
            rw [List.length_set]
            have hset := hnr.set hrow hj
            have ecs : (cs.toList.take l.length).set j v = cs3.toList.take l.length := by
              rw [r2, Nat.add_zero]
              apply List.ext_getElem?
              intro q
              simp only [List.getElem?_set, List.getElem?_take, List.getElem?_append, List.getElem?_drop, List.length_take, List.length_append, List.length_cons, List.length_nil]
              have c3 : cs.toList.length = cs.size := by simp
              have c1 : min j cs.toList.length = j := by omega
              have c2 : min l.length cs.toList.length = l.length := by omega
              rw [c1, c2]
              repeat' split
              all_goals first | rfl | (exfalso; omega) | (subst_vars; simp; done) | (congr 1; omega) | fail
            rw [ecs] at hset
            refine NRl.mono hF (fun _ h => h) (fun b n hm => hw b fun e => (List.nodup_cons.1 hndN).1 (e ▸ List.mem_filterMap.2 ⟨_, hm, rfl⟩)) hset)
        have hf2 := hf1.reg (g := g') (g' := S.c) (b := bN) (n := nN) (n' := encBN ((decBN nN).1, (decBN nN).2.set j (B g3))) (by rw [updB_old hg]; exact hB) updB_new (by rw [decBN_enc]) (Nat.lt_succ_self _)
        have r1' : (storeCells ⟨bN, j, none⟩ [v]).run P w = .ok () (setB w bN (.cells cs3 e fr)) := r1
        refine ⟨_, by rw [hrun]; exact r1', _, F, _, hk, hf2, hN, fun _ h => h, fun b hb hn => hw b fun e => hn (e ▸ hownN), fun b hb => ?_, rfl, rfl, rfl, by rw [setB_size]; omega, fun q hq => updB_old (Nat.lt_of_lt_of_le hq hf.pin)⟩
        rcases hb with hb | ⟨k4, g4, o4, hm, hB4⟩
        · exact .inl hb
        · have hm' : (k4, g4, o4) ∈ (k, S.c, AO.nest e (l.set j (.row e' z2 il))) :: rmKey (some k) (rmKey (some k2) S.H) := hm
          rcases List.mem_cons.1 hm' with h | h
          · simp only [Prod.mk.injEq] at h
            obtain ⟨rfl, rfl, rfl⟩ := h
            rw [blkL_new, hbN2] at hB4
            exact .inr (.inl ((hall b hB4).elim (hmine b) (hmine2 b)))
          · have hmS := hsub.subset h
            rw [blkL_congr (updB_old (hf.objs k4 g4 o4 hmS).1)] at hB4
            exact .inr (.inl ⟨k4, g4, o4, hmS, hB4⟩)
      · exact h.elim
    · exact h.elim
  · exact h.elim
theorem storeW_run (hf : FR F B w S a) (hN : a.tmps.size = N) {t : TypeId} {p x : AV} {u v : Value} (hp : VR w F B S.c p u) (hx : VR w F B S.c x v) (h : storeW P nv t p x S K) :
    ∃ w', (Instr.storeAt t u v).run P w = .ok () w' ∧ ∃ S' F' B', K S' ∧ Tr N F B w S F' B' w' S' a := by
  unfold storeW at h
  split at h
  · exact storeN_run hf hN hp hx h
  · rename_i k g z j o
    cases hq : isNestAt S.H k with
    | true => rw [hq] at h; exact storeE_run hf hN hp hx h
    | false => rw [hq] at h; exact storeV_run (nv := nv) hf hN hp hx h
  · exact storeV_run hf hN hp hx h
end
end Go.Fw
namespace Go.Fw
open Go
set_option linter.unusedVariables false
set_option linter.unusedSimpArgs false
section
variable {P : Program} {F : Nat → Prop} {B : Blk} {w w' : World} {S : St} {a : Act} {N nv : Nat} {K : St → Prop}
 
def Ends (P : Program) (N : Nat) (F : Nat → Prop) (B : Blk) (w : World) (S : St) (a : Act) (o : Oper) (K : St → Prop) : Prop :=
  ∃ r w' v, (execOp a.eval o).run P w = .ok r w' ∧ (r = .value v ∨ (r = .skip ∧ v = undef)) ∧ (isDs o = false → Ext w w') ∧ ∃ S' F' B', K S' ∧ Tr N F B w S F' B' w' S' (a.put o.dst v)
theorem evs_VRl (hf : FR F B w S a) : ∀ l : List Operand, VRl w F B S.c (l.map S.ev) (l.map a.eval)
  | [] => by simp [VRl]
  | x :: r => by simp only [List.map_cons, VRl]; exact ⟨_, _, rfl, ev_VR hf x, evs_VRl hf r⟩
theorem evs_VRl' (hf : FR F B w S a) : ∀ l : List (Nat × Operand), VRl w F B S.c (l.map fun p => S.ev p.2) (l.map fun p => a.eval p.2)
  | [] => by simp [VRl]
  | x :: r => by simp only [List.map_cons, VRl]; exact ⟨_, _, rfl, ev_VR hf x.2, evs_VRl' hf r⟩
theorem dropEmpty (K : St → Prop) {d : Nat} {o : AO} {av : AV} (h : K (S.newObj d o av)) : K ((S.freeze []).newObj d o av) := h
theorem elemsP_len {b : Bool} {sz : Nat} : ∀ {xs : List D}, elemsP b sz xs → ∀ {vs : List Value}, DRvl w F xs vs → vs.length = xs.length
  | [], _, vs, h => by simp only [DRvl] at h; simp [h]
  | x :: r, he, vs, h => by
    simp only [DRvl] at h
    obtain ⟨v, vs', rfl, _, h2⟩ := h
    simp only [elemsP] at he
    simp [elemsP_len he.2.2 h2]
theorem effV_run (hf : FR F B w S a) (hN : a.tmps.size = N) (o : Oper) (hd : dstOK N o.dst = true) (h : effV P nv o S K) : Ends P N F B w S a o K := by
  obtain ⟨dst, op, ty, pos, after, guard⟩ := o
  cases op <;> simp only [effV] at h <;> try exact h.elim
  case alloc t =>
    split at h
    · rename_i d p z hv hz
      obtain ⟨i, zv, hi, hzv, rfl⟩ := zeroI_spec hz
      have hzr : (zeroValue t).run P w = .ok zv w := by simp [zeroValue, typeInfo, hi, hzv]
      have ht := box_Tr (B := B) (t := t) (cs := zv.cells) hf hN hd h.1 (zero_VR zv w F B S.c _)
      refine ⟨.value (.pointer (some ⟨w.heap.size, 0, none⟩)), _, _, ?_, .inl rfl, fun _ => ext_alloc w _, _, _, _, h.2, ht⟩
      simp only [execOp, Instr.alloc, Sem.run_bind, hzr, Result.andThen_ok, newVar, run_newRow, Sem.run_pure]
    · exact h.elim
  case box t x =>
    split at h
    · rename_i d
      have hcx := avCells_VR (ev_VR hf x) (by intro e0; have := h.1; rw [e0] at this; cases this)
      have ht := box_Tr (B := B) (t := t) (cs := (a.eval x).cells) hf hN hd h.2.1 hcx
      refine ⟨.value (.pointer (some ⟨w.heap.size, 0, none⟩)), _, _, ?_, .inl rfl, fun _ => ext_alloc w _, _, _, _, h.2.2, ht⟩
      simp only [execOp, Instr.box, Sem.run_bind, Result.andThen_ok, newVar, run_newRow, Sem.run_pure]
    · exact h.elim
  case buildSlice t len parts =>
    split at h
    · rename_i d e sz b hei
      obtain ⟨hzs, hsq, rfl, hl24, h⟩ := h
      obtain ⟨ti, hu, hti, hsz, h0, hag, hb1⟩ := elemI_spec hei
      have hz : ∃ z, ti.zero = some z := by
        obtain ⟨zz, hzz⟩ := Option.isSome_iff_exists.1 hzs
        obtain ⟨i, v, hi, hv, _⟩ := zeroI_spec hzz
        rw [hti] at hi
        cases hi
        exact ⟨v, hv⟩
      obtain ⟨z, hz⟩ := hz
      split at h
      · rename_i ne k q hne
        obtain ⟨rfl, hq, hk⟩ := h
        have hp1 : ∃ p, parts.toList = [p] := by
          have : (parts.toList.map fun p => S.ev p.2).length = 1 := by
            unfold nestOf at hne
            cases hc : nestList.contains e with
            | false => rw [hc] at hne; cases hne
            | true =>
              rw [hc, cond_true] at hne
              split at hne
              · rename_i h; rw [h]; rfl
              · rename_i h; rw [h]; rfl
              · cases hne
          rw [List.length_map] at this
          match parts.toList, this with
          | [p], _ => exact ⟨p, rfl⟩
        obtain ⟨p, hp⟩ := hp1
        have hps : parts.size = 1 := by rw [← Array.length_toList, hp]; rfl
        rw [hp] at hne
        obtain ⟨i, hnr, hio⟩ := nestOf_run hf (ev_VR hf p.2) hne hq
        have hvc : (a.eval p.2).cells = #[a.eval p.2] := by
          cases ne with
          | d x =>
            unfold nestOf at hne
            cases hc : nestList.contains e with
            | false => rw [hc] at hne; cases hne
            | true =>
              rw [hc, cond_true] at hne
              split at hne
              · split at hne <;> cases hne
              · split at hne <;> cases hne
              · cases hne
          | row e z l =>
            simp only [NR] at hnr
            cases i with
            | none => rw [hnr.1]; rfl
            | some q => obtain ⟨b, n⟩ := q; rw [hnr.1]; rfl
          | hole =>
            unfold nestOf at hne
            cases hc : nestList.contains e with
            | false => rw [hc] at hne; cases hne
            | true =>
              rw [hc, cond_true] at hne
              split at hne
              · split at hne <;> cases hne
              · split at hne <;> cases hne
              · cases hne
        obtain ⟨cs, e1, e2, e3⟩ := run_buildSlice (P := P) (w := w) (f := a.eval) hei hti hz hsq hl24 (fun p' hp' => by
          rw [hp, List.mem_singleton] at hp'
          subst hp'
          rw [hvc]; rfl)
        rw [hp] at e3
        rw [hps] at e1 e2 e3
        simp only [List.map_cons, List.map_nil, List.flatMap_cons, List.flatMap_nil, List.append_nil, hvc] at e3
        have ht := moved_Tr (B := B) (w' := w.alloc (.cells cs e)) (bo := some (w.heap.size, encBN (1, [i]))) (o := .nest e [ne]) (v := .slice (some ⟨w.heap.size, 0, none⟩) 1 1) (av := .nref [d] S.c 1) hf hN hd (rmKey_sub k S.H) (by rw [alloc_size]; omega)
          (fun i hi _ => ext_alloc w _ i hi) rfl rfl rfl (fun b hb => by
            rw [blkO_enc] at hb
            rcases List.mem_cons.1 hb with rfl | hb
            · exact .inl ⟨Nat.le_refl _, by rw [alloc_size]; omega⟩
            · obtain ⟨y, hy, hy2⟩ := List.mem_filterMap.1 hb
              rw [List.mem_singleton] at hy
              subst hy
              cases y with
              | none => cases hy2
              | some q =>
                obtain ⟨b', n⟩ := q
                simp only [Option.map_some, Option.some.injEq] at hy2
                subst hy2
                exact .inr (hio _ _ rfl))
          ⟨by
            rw [blkO_enc]
            cases i with
            | none => simp
            | some q =>
              obtain ⟨b', n⟩ := q
              have := (hf.sep b' (hio _ _ rfl).1).2
              simp
              omega, fun h => by cases h⟩
          (by
            simp only [OR, updB_new, decBN_enc]
            refine ⟨cs, (0, 0), alloc_at w _, unf0 cs, by rw [e2], by simp, by simp [maxLen], ?_⟩
            have e4 : cs.toList.take 1 = [a.eval p.2] := by simpa using e3
            simp only [List.length_cons, List.length_nil, Nat.zero_add, e4]
            exact ⟨i, [], _, [], rfl, rfl, hnr.mono (fun b hb => ext_alloc w _ b (hf.Flt b hb)) (fun _ h => h) (fun b n hb => ext_alloc w _ b (hf.sep b (hio b n hb).1).2), rfl, rfl⟩)
          (by
            simp only [VR, updB_new, decBN_enc]
            exact ⟨Nat.lt_succ_self _, trivial⟩)
        refine ⟨.value (.slice (some ⟨w.heap.size, 0, none⟩) 1 1), _, _, ?_, .inl rfl, fun _ => ext_alloc w _, _, _, _, hk, ht⟩
        simp only [execOp, Sem.run_bind, hps, e1, Result.andThen_ok, Sem.run_pure]
      split at h
      · rename_i xs ks hxs
        obtain ⟨hel, hk⟩ := h
        have hD := toDl_DRv hf 60 _ xs ks _ hxs (evs_VRl' hf parts.toList)
        obtain ⟨hr, hcs⟩ := DRr_of_vals hel hD
        have hxl : xs.length = parts.size := by have := elemsP_len hel hD; simpa using this.symm
        obtain ⟨cs, e1, e2, e3⟩ := run_buildSlice (P := P) (w := w) (f := a.eval) hei hti hz hsq hl24 (fun p hp => hcs _ (List.mem_map.2 ⟨p, hp, rfl⟩))
        have hm : parts.size ≤ maxLen := by
          have : parts.size ≤ parts.size * sz := Nat.le_mul_of_pos_right _ h0
          simp only [maxLen]; omega
        have ht := row_Tr (B := B) (e := e) (n := parts.size) (xs := xs) (cs := cs) (fr := (0, 0)) hf hN hd ks (unf0 cs) h0 e2 (by omega) hm (by rw [hxl, e3]; exact hr) (w' := w.alloc (.cells cs e)) rfl rfl rfl rfl
        rw [hxl] at ht
        refine ⟨.value (.slice (some ⟨w.heap.size, 0, none⟩) parts.size parts.size), _, _, ?_, .inl rfl, fun _ => ext_alloc w _, _, _, _, hk, ht⟩
        simp only [execOp, Sem.run_bind, e1, Result.andThen_ok, Sem.run_pure]
      · exact h.elim
    · exact h.elim
  case makeSlice t l c =>
    split at h
    · rename_i d e sz b n m hei hl hc
      obtain ⟨rfl, hn0, hby, hb0, h⟩ := h
      obtain ⟨ti, hu, hti, hsz, h0, hag, hb1⟩ := elemI_spec hei
      have hbo : P.bytesOf e = ti.bytes := by simp [Program.bytesOf, hti]
      split at h
      · rename_i z hz
        obtain ⟨hz1, hz2, hzl, hk⟩ := h
        have el : a.eval l = .int .i64 n := val_of_scalar rfl (by rw [← hl]; exact ev_VR hf l)
        have ec : a.eval c = .int .i64 n := val_of_scalar rfl (by rw [← hc]; exact ev_VR hf c)
        obtain ⟨cs, e1, e2, e3⟩ := makeSlice_run (P := P) (w := w) (F := F) hf.Flt hei hn0 hby hb0 hz hzl
        have hm : n.toNat ≤ maxLen := by
          have : n.toNat ≤ n.toNat * P.bytesOf e := Nat.le_mul_of_pos_right _ hb0
          simp only [maxLen]; omega
        have hrl : (List.replicate n.toNat z).length = n.toNat := by simp
        have ht := row_Tr (B := B) (e := e) (n := n.toNat) (xs := List.replicate n.toNat z) (cs := cs) (fr := (0, 0)) hf hN hd [] (unf0 cs) h0 e2 (by omega) hm (by rw [hrl, FK_nil]; exact e3) (w' := w.alloc (.cells cs e)) rfl rfl rfl rfl
        rw [hrl] at ht
        refine ⟨.value (.slice (some ⟨w.heap.size, 0, none⟩) n.toNat n.toNat), _, _, ?_, .inl rfl, fun _ => ext_alloc w _, _, _, _, hk, ht⟩
        simp only [execOp, el, ec, Sem.run_bind, e1, Result.andThen_ok, Sem.run_pure]
      · exact h.elim
    · exact h.elim
  case convert src dst' x =>
    split at h
    · rename_i d e s hs hu hx
      obtain ⟨he, hsz, hk⟩ := h
      have ex : a.eval x = .string s := val_of_scalar rfl (by rw [← hx]; exact ev_VR hf x)
      obtain ⟨w', cs, n, e1, e2, e3, e4, e5, e6, e7, e8, e9⟩ := toBytes_run (P := P) (w := w) (e := e) hsz
      have hl : (s.data.toList.map byteD).length = s.size := by simp
      have ht := row_Tr (B := B) (e := e) (sz := 1) (n := n) (xs := s.data.toList.map byteD) (cs := cs) (fr := (cs.size, cs.size + 1)) hf hN hd [] (unfL cs) (by omega) (by omega) (by omega) e5 (by rw [hl, FK_nil, Nat.mul_one, e6]; exact bytesD _) e2 e7 e8 e9
      rw [hl] at ht
      refine ⟨.value (.slice (some ⟨w.heap.size, 0, none⟩) s.size n), w', _, ?_, .inl rfl, fun _ b hb => by rw [e2]; exact ext_alloc w _ b hb, _, _, _, hk, ht⟩
      have hrun : (convert src dst' (.string s)).run P w = .ok (.slice (some ⟨w.heap.size, 0, none⟩) s.size n) w' := by
        simp only [convert, Sem.run_bind, run_underlying (shapeT_str hs), run_underlying hu, Result.andThen_ok, run_underlying (shapeT_int he), e1]
      simp only [execOp, ex, Sem.run_bind, hrun, Result.andThen_ok, Sem.run_pure]
    · exact h.elim
  case store t p x =>
    obtain ⟨hd0, h⟩ := h
    have hd0' : dst = none := hd0
    subst hd0'
    obtain ⟨w', e1, S', F', B', hk, ht⟩ := storeW_run hf hN (ev_VR hf p) (ev_VR hf x) h
    refine ⟨.skip, w', undef, ?_, .inr ⟨rfl, rfl⟩, fun hds => by simp [isDs] at hds, S', F', B', hk, ht⟩
    simp only [execOp, Sem.run_bind, e1, Result.andThen_ok, Sem.run_pure]
  case assign x =>
    split at h
    · rename_i d
      obtain ⟨S', B', hk, ht⟩ := assignV_run hf hN hd (ev_VR hf x) h
      exact ⟨.value (a.eval x), w, _, by simp [execOp], .inl rfl, fun _ => Ext.refl w, S', F, B', hk, ht⟩
    · exact h.elim
  case makeMap t r =>
    split at h
    · rename_i d
      have hh := alloc_at w (.map #[] 0)
      have ht := newObj_Tr (o := .map []) (av := .mp [d] S.c) (v := .map (some w.heap.size)) (bo := some (w.heap.size, 0)) hf hN hd [] (ext_alloc w (.map #[] 0)) rfl rfl rfl
        (fun b n hb => by simp only [Option.some.injEq, Prod.mk.injEq] at hb; obtain ⟨rfl, rfl⟩ := hb; exact ⟨Nat.le_refl _, by rw [alloc_size]; omega, Nat.zero_le _⟩)
        (by simp only [OR]; exact ⟨_, _, _, updB_new, hh, rfl⟩) (by simp only [VR]; exact ⟨Nat.lt_succ_self _, _, _, updB_new, rfl⟩)
      refine ⟨.value (.map (some w.heap.size)), _, _, ?_, .inl rfl, fun _ => ext_alloc w _, _, _, _, h, ht⟩
      rfl
    · exact h.elim
  case mapUpdate t m k x =>
    obtain ⟨hd0, h⟩ := h
    have hd0' : dst = none := hd0
    subst hd0'
    unfold mapUV at h
    split at h
    · rename_i q g hm
      split at h
      · rename_i g' es hob
        obtain ⟨rfl, h⟩ := h
        split at h
        · rename_i kt et hu
          split at h
          · rename_i kx vx hkx hvx
            obtain ⟨h1, h2, h3⟩ := h
            have hmv := ev_VR hf m
            rw [hm] at hmv
            simp only [VR] at hmv
            obtain ⟨hg, b, n, hB, hev⟩ := hmv
            have hor := hf.objsIn hob
            simp only [OR] at hor
            obtain ⟨b', n', ea, hB', hh, hmr⟩ := hor
            rw [hB] at hB'
            simp only [Option.some.injEq, Prod.mk.injEq] at hB'
            obtain ⟨rfl, rfl⟩ := hB'
            have hlt := lt_heap hh
            have hkv := ev_VR hf k
            rw [hkx] at hkv
            simp only [VR] at hkv
            have hxv := ev_VR hf x
            rw [hvx] at hxv
            simp only [VR] at hxv
            obtain ⟨ea', e1, e2⟩ := mapUpdate_run (key := a.eval k) (val := a.eval x) hu hh hmr h1 h2 hkv hxv
            have hF : ∀ i, F i → (setB w b (.map ea' (updM kx vx es).length)).heap[i]? = w.heap[i]? := fun i hi => setB_ne w b i _ fun e => (hf.sep b (Own.of (mem_of_objIn hob) hB)).1 (e ▸ hi)
            have hf2 := FR.upd (w' := setB w b (.map ea' (updM kx vx es).length)) (o := .map (updM kx vx es)) hf hob (blkL_of hB) (by rw [setB_size]; omega) (fun i _ hi => setB_ne w b i _ hi) (by simp only [OR]; exact ⟨b, n, ea', hB, setB_at w b _ hlt, e2.mono hF (fun _ h => h)⟩)
            have ht := Tr.stored (N := N) hf (by exact hN) hob hB hf2 (fun i hi => setB_ne w b i _ hi) rfl rfl rfl (setB_size w b _) (fun i hi => own_setO hob hi)
            refine ⟨.skip, _, undef, ?_, .inr ⟨rfl, rfl⟩, fun hds => by simp [isDs] at hds, _, F, B, h3 _ rfl, ht⟩
            simp only [execOp, hev, Sem.run_bind, e1, Result.andThen_ok, Sem.run_pure]
          · exact h.elim
        · exact h.elim
      · exact h.elim
    · exact h.elim
  case entry x =>
    split at h
    · rename_i d
      unfold entryV at h
      split at h
      · rename_i k g c hx
        split at h
        · rename_i g' m since last seen j hob
          obtain ⟨rfl, rfl, h⟩ := h
          split at h
          · rename_i es hog
            obtain ⟨rfl, hj, h⟩ := h
            have hy := h _ rfl
            split at hy
            · rename_i kx vx hy0
              have hxv := ev_VR hf x
              rw [hx] at hxv
              simp only [VR] at hxv
              obtain ⟨hg, b, n, hB, hev⟩ := hxv
              have hor := hf.objsIn hob
              simp only [OR] at hor
              obtain ⟨hmc, b', n', bm, nm, hB', hBm, hh, hsl⟩ := hor
              rw [hB] at hB'
              simp only [Option.some.injEq, Prod.mk.injEq] at hB'
              obtain ⟨rfl, rfl⟩ := hB'
              obtain ⟨km, hmm⟩ := mem_of_objG hog
              have hom := (hf.objs _ _ _ hmm).2
              simp only [OR] at hom
              obtain ⟨bm', nm', ea, hBm', hhm, hmr⟩ := hom
              rw [hBm] at hBm'
              simp only [Option.some.injEq, Prod.mk.injEq] at hBm'
              obtain ⟨rfl, rfl⟩ := hBm'
              obtain ⟨key, val, e1, e2, e3⟩ := entry_run (P := P) (by simpa using hh) hhm hmr hy0
              refine ⟨.value (.tuple #[key, val]), w, _, ?_, .inl rfl, fun _ => Ext.refl w, _, F, B, hy, Tr.still hf hN (hf.put hN hd (by simp only [VR, VRl]; exact ⟨_, rfl, _, _, rfl, e1, _, _, rfl, e2, rfl⟩)) (by rw [Act.put_size]; exact hN) (fun b h => h)⟩
              simp only [execOp, hev, Sem.run_bind, e3, Result.andThen_ok, Sem.run_pure]
            · exact hy.elim
          · exact h.elim
        · exact h.elim
      · exact h.elim
    · exact h.elim
  case range t x =>
    split at h
    · rename_i d s hs hx
      have ex : a.eval x = .string s := val_of_scalar rfl (by rw [← hx]; exact ev_VR hf x)
      have hh := alloc_at w (.stringIter s 0)
      have ht := newObj_Tr (o := .iter s 0) (av := .addr [d] S.c 0) (v := .pointer (some ⟨w.heap.size, 0, none⟩)) (bo := some (w.heap.size, 0)) hf hN hd [] (ext_alloc w (.stringIter s 0)) rfl rfl rfl
        (fun b n hb => by simp only [Option.some.injEq, Prod.mk.injEq] at hb; obtain ⟨rfl, rfl⟩ := hb; exact ⟨Nat.le_refl _, by rw [alloc_size]; omega, Nat.zero_le _⟩)
        (by simp only [OR]; exact ⟨_, _, updB_new, hh⟩) (by simp only [VR]; exact ⟨Nat.lt_succ_self _, _, _, updB_new, rfl⟩)
      refine ⟨.value (.pointer (some ⟨w.heap.size, 0, none⟩)), _, _, ?_, .inl rfl, fun _ => ext_alloc w _, _, _, _, h, ht⟩
      simp [execOp, ex, Instr.range, run_underlying (shapeT_str hs), newObj]
      rfl
    · rename_i d k g hx
      split at h
      · rename_i kt et g' es hu hob
        obtain ⟨rfl, h⟩ := h
        have hxv := ev_VR hf x
        rw [hx] at hxv
        simp only [VR] at hxv
        obtain ⟨hg, b, n, hB, hev⟩ := hxv
        have hor := hf.objsIn hob
        simp only [OR] at hor
        obtain ⟨b', n', ea, hB', hh0, hmr⟩ := hor
        rw [hB] at hB'
        simp only [Option.some.injEq, Prod.mk.injEq] at hB'
        obtain ⟨rfl, rfl⟩ := hB'
        have hh := alloc_at w (.mapIter (some b) es.length #[] es.length)
        have ht := newObj_Tr (o := .miter g' es.length es.length [] none) (av := .addr [d] S.c 0) (v := .pointer (some ⟨w.heap.size, 0, none⟩)) (bo := some (w.heap.size, 0)) hf hN hd [] (ext_alloc w (.mapIter (some b) es.length #[] es.length)) rfl rfl rfl
          (fun b n hb => by simp only [Option.some.injEq, Prod.mk.injEq] at hb; obtain ⟨rfl, rfl⟩ := hb; exact ⟨Nat.le_refl _, by rw [alloc_size]; omega, Nat.zero_le _⟩)
          (by simp only [OR]; exact ⟨Nat.lt_succ_of_lt hg, _, _, b, n, updB_new, by rw [updB_old hg]; exact hB, by simpa using hh, Nat.le_refl _⟩) (by simp only [VR]; exact ⟨Nat.lt_succ_self _, _, _, updB_new, rfl⟩)
        refine ⟨.value (.pointer (some ⟨w.heap.size, 0, none⟩)), _, _, ?_, .inl rfl, fun _ => ext_alloc w _, _, _, _, h, ht⟩
        have hgo : (getObj b).run P w = .ok (.map ea es.length) w := by simp [getObj, Sem.run, hh0]
        simp [execOp, hev, Instr.range, run_underlying hu, hgo, newObj]
        rfl
      · exact h.elim
    · exact h.elim
  case next x isS =>
    split at h
    · rename_i d xv
      unfold nextM at h
      split at h
      · rename_i k g c hx
        split at h
        · rename_i g' m since last seen cur hob
          obtain ⟨rfl, rfl, h⟩ := h
          split at h
          · rename_i es hog
            obtain ⟨hes, h1, h2⟩ := h
            have hxv := ev_VR hf x
            rw [hx] at hxv
            simp only [VR] at hxv
            obtain ⟨hg, b, n, hB, hev⟩ := hxv
            have hor := hf.objsIn hob
            simp only [OR] at hor
            obtain ⟨hmc, b', n', bm, nm, hB', hBm, hh, hsl⟩ := hor
            rw [hB] at hB'
            simp only [Option.some.injEq, Prod.mk.injEq] at hB'
            obtain ⟨rfl, rfl⟩ := hB'
            obtain ⟨km, hmm⟩ := mem_of_objG hog
            have hom := (hf.objs _ _ _ hmm).2
            simp only [OR] at hom
            obtain ⟨bm', nm', ea, hBm', hhm, hmr⟩ := hom
            rw [hBm] at hBm'
            simp only [Option.some.injEq, Prod.mk.injEq] at hBm'
            obtain ⟨rfl, rfl⟩ := hBm'
            have hlt := lt_heap hh
            rcases next_run (P := P) ty hh hhm hmr (Nat.le_of_eq hes) hsl with ⟨g1, g2⟩ | ⟨j, kx, vx, key, val, w1, g1, g2, g3, g4, g5, hw1, g6⟩
            · refine ⟨.value (.tuple #[.bool false]), w, _, ?_, .inl rfl, fun hds => by simp [isDs] at hds, _, F, B, h2 g1, Tr.still hf hN (hf.put hN hd (by simp [VR, VRl, DRv, DRc])) (by rw [Act.put_size]; exact hN) (fun b h => h)⟩
              simp only [execOp, hev, Sem.run_bind, g2, Result.andThen_ok, Sem.run_pure]
            · have hk := h1 j g1 g2 _ g3
              have hhe : w1.heap = w.heap := by rcases hw1 with rfl | rfl <;> rfl
              have ho1 : w1.os = w.os := by rcases hw1 with rfl | rfl <;> rfl
              have ho2 : w1.tape = w.tape := by rcases hw1 with rfl | rfl <;> rfl
              have ho3 : w1.output = w.output := by rcases hw1 with rfl | rfl <;> rfl
              have hne : ∀ i, i ≠ b → (setB w1 b (.mapIter (some bm) since ((seen ++ cur.toList) ++ [j]).toArray es.length)).heap[i]? = w.heap[i]? := fun i hi => by rw [setB_ne w1 b i _ hi, hhe]
              have hsz : (setB w1 b (.mapIter (some bm) since ((seen ++ cur.toList) ++ [j]).toArray es.length)).heap.size = w.heap.size := by rw [setB_size, hhe]
              have hF : ∀ i, F i → (setB w1 b (.mapIter (some bm) since ((seen ++ cur.toList) ++ [j]).toArray es.length)).heap[i]? = w.heap[i]? := fun i hi => hne i fun e => (hf.sep b (Own.of (mem_of_objIn hob) hB)).1 (e ▸ hi)
              have hf2 := FR.upd (w' := setB w1 b (.mapIter (some bm) since ((seen ++ cur.toList) ++ [j]).toArray es.length)) (o := .miter m since es.length (seen ++ cur.toList) (some j)) hf hob (blkL_of hB) (by rw [hsz]; omega) (fun i _ hi => hne i hi)
                (by simp only [OR]; exact ⟨hmc, b, n, bm, nm, hB, hBm, by rw [setB_at w1 b _ (by rw [hhe]; exact hlt)]; simp, by omega⟩)
              have hf3 := hf2.put (S := ⟨S.E, setO S.H k (.miter m since es.length (seen ++ cur.toList) (some j)), S.c⟩) hN hd (av := .tup [.d (.bool true), .d kx, .d vx]) (v := .tuple #[.bool true, key, val]) (by
                simp only [VR, VRl]
                exact ⟨_, rfl, _, _, rfl, by simp [DRv, DRc], _, _, rfl, g4.mono hF (fun _ h => h), _, _, rfl, g5.mono hF (fun _ h => h), rfl⟩)
              have ht := Tr.stored (N := N) hf (by exact hN) hob hB hf2 (fun i hi => hne i hi) ho1 ho2 ho3 hsz (fun i hi => own_setO hob hi)
              refine ⟨.value (.tuple #[.bool true, key, val]), _, _, ?_, .inl rfl, fun hds => by simp [isDs] at hds, _, F, B, hk, ⟨hf3, by rw [Act.put_size]; exact hN, ht.sub, ht.keep, ht.new, ht.os, ht.tape, ht.output, ht.size, ht.old⟩⟩
              simp only [execOp, hev, Sem.run_bind, g6, Result.andThen_ok, Sem.run_pure]
          · exact h.elim
        · exact h.elim
      · exact h.elim
    · rename_i d k g c hx
      split at h
      · rename_i g' s pos hob
        obtain ⟨rfl, rfl, h1, h2⟩ := h
        have hxv := ev_VR hf x
        rw [hx] at hxv
        simp only [VR] at hxv
        obtain ⟨hg, b, n, hB, hev⟩ := hxv
        have hor := hf.objsIn hob
        simp only [OR] at hor
        obtain ⟨b', n', hB', hh⟩ := hor
        rw [hB] at hB'
        simp only [Option.some.injEq, Prod.mk.injEq] at hB'
        obtain ⟨rfl, rfl⟩ := hB'
        have hlt := lt_heap hh
        have hgo : (getObj b).run P w = .ok (.stringIter s pos) w := by simp [getObj, Sem.run, hh]
        by_cases hp : pos < s.size
        · have hso : ∀ o', (setObj b o').run P w = .ok () (setB w b o') := by intro o'; simp [setObj, Sem.run, hh, setB]
          have hF : ∀ i, F i → (setB w b (.stringIter s (pos + (Utf8.decode s pos).2))).heap[i]? = w.heap[i]? := fun i hi => setB_ne w b i _ fun e => (hf.sep b (Own.of (mem_of_objIn hob) hB)).1 (e ▸ hi)
          have hf2 := FR.upd (w' := setB w b (.stringIter s (pos + (Utf8.decode s pos).2))) (o := .iter s (pos + (Utf8.decode s pos).2)) hf hob (blkL_of hB) (by rw [setB_size]; omega) (fun i _ hi => setB_ne w b i _ hi) (by simp only [OR]; exact ⟨b, n, hB, setB_at w b _ hlt⟩)
          have hf3 := hf2.put (S := ⟨S.E, setO S.H k (.iter s (pos + (Utf8.decode s pos).2)), S.c⟩) hN hd (av := .tup [.d (.bool true), .d (.int .i64 pos), .d (.int .i32 (Utf8.decode s pos).1)]) (v := .tuple #[.bool true, .int .i64 pos, .int .i32 (Utf8.decode s pos).1]) (by simp [VR, VRl, DRv, DRc])
          have ht := Tr.stored (N := N) hf (by exact hN) hob hB hf2 (fun i hi => setB_ne w b i _ hi) rfl rfl rfl (setB_size w b _) (fun i hi => own_setO hob hi)
          refine ⟨.value (.tuple #[.bool true, .int .i64 pos, .int .i32 (Utf8.decode s pos).1]), _, _, ?_, .inl rfl, fun hds => by simp [isDs] at hds, _, F, B, h1 hp, ⟨hf3, by rw [Act.put_size]; exact hN, ht.sub, ht.keep, ht.new, ht.os, ht.tape, ht.output, ht.size, ht.old⟩⟩
          simp only [execOp, hev, Instr.next, Sem.run_bind, hgo, Result.andThen_ok, if_pos hp, hso, Sem.run_pure]
          rfl
        · refine ⟨.value (.tuple #[.bool false]), w, _, ?_, .inl rfl, fun hds => by simp [isDs] at hds, _, F, B, h2 (by omega), Tr.still hf hN (hf.put hN hd (by simp [VR, VRl, DRv, DRc])) (by rw [Act.put_size]; exact hN) (fun b h => h)⟩
          simp only [execOp, hev, Instr.next, Sem.run_bind, hgo, Result.andThen_ok, if_neg hp, Sem.run_pure]
      · exact h.elim
    · exact h.elim
  case call cl =>
    obtain ⟨callee, args, ats⟩ := cl
    split at h
    · rename_i d hcal
      have hcal' : callee = .builtin .append := hcal
      subst hcal'
      split at h
      · rename_i x y hxy
        have hxy' : args.toList = [x, y] := hxy
        have hargs : args.map a.eval = #[a.eval x, a.eval y] := Array.ext' (by simp [hxy'])
        have hW : ∃ r w', (Builtin.append_ ats ty #[a.eval x, a.eval y]).run P w = .ok r w' ∧ ∃ S' F' B', K S' ∧ Tr N F B w S F' B' w' S' (a.put (some d) r) := by
          have vx := ev_VR hf x
          have vy := ev_VR hf y
          generalize S.ev x = sx at h vx
          generalize S.ev y = sy at h vy
          generalize a.eval x = ux at vx ⊢
          generalize a.eval y = uy at vy ⊢
          unfold appW at h
          split at h
          · rename_i n
            have ey : uy = .int .i64 n := val_of_scalar rfl vy
            have ex : ux = .slice none 0 0 := by simpa only [VR] using vx
            subst ey
            subst ex
            unfold appendZ at h
            split at h
            · rename_i t t' ht
              have hats' : ats = #[t, t'] := Array.ext' (by simpa using ht)
              subst hats'
              split at h
              · rename_i e sz b hei
                obtain ⟨h1, h2, h3, h4, h⟩ := h
                split at h
                · rename_i z hz
                  obtain ⟨hz1, hz2, hzl, hk⟩ := h
                  obtain ⟨ti, hu, hti, hsz, h0, hag, hb1⟩ := elemI_spec hei
                  obtain ⟨cs, cap, e1, e2, e3, e4, e5⟩ := appendZ_run (P := P) (w := w) (F := F) (ty := ty) hf.Flt hei h1 h2 h3 h4 hz hzl
                  have hrl : (List.replicate n.toNat z).length = n.toNat := by simp
                  have ht := row_Tr (B := B) (e := e) (n := cap) (xs := List.replicate n.toNat z) (cs := cs) (fr := (0, 0)) hf hN hd [] (unf0 cs) h0 e2 (by omega) e4 (by rw [hrl, FK_nil]; exact e5) (w' := w.drew.alloc (.cells cs e)) rfl rfl rfl rfl
                  rw [hrl] at ht
                  exact ⟨_, _, e1, _, _, _, hk, ht⟩
                · exact h.elim
              · exact h.elim
            · exact h.elim
          · exact appendN_run (ty := ty) hf hN hd vx vy h
          · exact appendS_run (ty := ty) hf hN hd vx vy h
          · exact appendV_run (ty := ty) hf hN hd vx vy h
        obtain ⟨r, w', e1, S', F', B', hk, ht⟩ := hW
        refine ⟨.value r, w', r, ?_, .inl rfl, fun hds => by simp [isDs] at hds, S', F', B', hk, ht⟩
        simp only [execOp, resolve, invoke, builtin, Sem.run_bind, Sem.run_pure, Result.andThen_ok, hargs]
        simp only [e1, Result.andThen_ok, Sem.run_pure]
      · exact h.elim
    · exact h.elim
end
end Go.Fw
namespace Go.Fw
open Go
set_option linter.unusedVariables false
set_option linter.unusedSimpArgs false
 
inductive CV where
  | d (x : D)
  | nils
  | own (e sz : Nat) (l : List D)
  | nest (e : Nat) (l : List NE)
  | box (e : Nat) (l : List CV)
  | agg (l : List CV)
  | gone
def CV.cell : CV → Bool
  | .d x => !x.isAgg
  | .agg _ | .gone => false
  | _ => true
def cvCells : List CV → Bool
  | [] => true
  | x :: r => x.cell && cvCells r
mutual
def CR (w : World) (F : Nat → Prop) : CV → Value → List Nat → Prop
  | .d x, v, fp => DRv w F x v ∧ fp = []
  | .nils, v, fp => v = .slice none 0 0 ∧ fp = []
  | .own e sz l, v, fp => (v = .slice none 0 0 ∧ l = [] ∧ fp = []) ∨
      ∃ b n cs fr, v = .slice (some ⟨b, 0, none⟩) l.length n ∧ w.heap[b]? = some (.cells cs e fr) ∧ Unf cs fr ∧ 0 < sz ∧ cs.size = n * sz ∧ l.length ≤ n ∧ n ≤ maxLen ∧ DRr w F sz l (cs.toList.take (l.length * sz)) ∧ fp = [b]
  | .nest e l, v, fp => (v = .slice none 0 0 ∧ l = [] ∧ fp = []) ∨
      ∃ b n is cs fr, v = .slice (some ⟨b, 0, none⟩) l.length n ∧ w.heap[b]? = some (.cells cs e fr) ∧ Unf cs fr ∧ cs.size = n ∧ l.length ≤ n ∧ n ≤ maxLen ∧ NRl w F l is (cs.toList.take l.length) ∧ fp = b :: rowsI is
  | .box e l, v, fp => ∃ b cs fr fp', v = .pointer (some ⟨b, 0, none⟩) ∧ w.heap[b]? = some (.cells cs e fr) ∧ Unf cs fr ∧ cvCells l = true ∧ CRl w F l cs.toList fp' ∧ fp = b :: fp'
  | .agg l, v, fp => ∃ cs, v = .agg cs ∧ cvCells l = true ∧ CRl w F l cs.toList fp
  | .gone, v, fp => fp = []
def CRl (w : World) (F : Nat → Prop) : List CV → List Value → List Nat → Prop
  | [], vs, fp => vs = [] ∧ fp = []
  | x :: r, vs, fp => ∃ v vs' f1 f2, vs = v :: vs' ∧ CR w F x v f1 ∧ CRl w F r vs' f2 ∧ fp = f1 ++ f2
end
mutual
 
def intern (k : Key) (c : Nat) : CV → AV × List (Key × Nat × AO) × Nat
  | .d x => (.d x, [], c)
  | .nils => (.nils, [], c)
  | .own e sz l => (.ref k c sz 0 l.length, [(k, c, .row e sz l)], c + 1)
  | .nest e l => (.nref k c l.length, [(k, c, .nest e l)], c + 1)
  | .box e l => (.addr k c 0, (k, c, .box e (interns k 0 (c + 1) l).1) :: (interns k 0 (c + 1) l).2.1, (interns k 0 (c + 1) l).2.2)
  | .agg l => (mkAgg (interns k 0 c l).1, (interns k 0 c l).2.1, (interns k 0 c l).2.2)
  | .gone => (.dead, [], c)
def interns (k : Key) (i c : Nat) : List CV → List AV × List (Key × Nat × AO) × Nat
  | [] => ([], [], c)
  | x :: r => ((intern (k ++ [i]) c x).1 :: (interns k (i + 1) (intern (k ++ [i]) c x).2.2 r).1,
      (intern (k ++ [i]) c x).2.1 ++ (interns k (i + 1) (intern (k ++ [i]) c x).2.2 r).2.1, (interns k (i + 1) (intern (k ++ [i]) c x).2.2 r).2.2)
end
section
variable {P : Program} {F : Nat → Prop} {w w' : World}
 
structure Laid (w : World) (F : Nat → Prop) (B B' : Blk) (c c' : Nat) (hs : List (Key × Nat × AO)) (fp : List Nat) : Prop where
  old : ∀ g, g < c → B' g = B g
  le : c ≤ c'
  objs : ∀ x ∈ hs, c ≤ x.2.1 ∧ x.2.1 < c' ∧ OR w F B' c' x.2.1 x.2.2
  blk : ∀ x ∈ hs, ∀ b ∈ blkL B' x.2.1, b ∈ fp
  inj : (hs.map fun x => x.2.1).Pairwise fun g g' => g ≠ g' ∧ ∀ b, b ∈ blkL B' g → ¬ b ∈ blkL B' g'
  own1 : ∀ x ∈ hs, OwnOK B' x.2.1 x.2.2
theorem OR.lift {B B' : Blk} {c c' g : Nat} (hB : ∀ g, g < c → B' g = B g) (hc : c ≤ c') (hg : g < c) {o : AO} (h : OR w F B c g o) : OR w F B' c' g o :=
  OR.mono (fun _ _ => rfl) (fun _ h => h) hB hc hg (fun _ _ => rfl) h
theorem VR.lift {B B' : Blk} {c c' : Nat} (hB : ∀ g, g < c → B' g = B g) (hc : c ≤ c') {x : AV} {v : Value} (h : VR w F B c x v) : VR w F B' c' x v :=
  VR.mono (fun _ _ => rfl) (fun _ h => h) hB hc x v h
mutual
theorem intern_spec : ∀ (x : CV) (k : Key) (c : Nat) (v : Value) (fp : List Nat) (B : Blk), CR w F x v fp → fp.Nodup → ∃ B', Laid w F B B' c (intern k c x).2.2 (intern k c x).2.1 fp ∧ VR w F B' (intern k c x).2.2 (intern k c x).1 v ∧ (x.cell = true → (intern k c x).1.cell = true)
  | .d x, k, c, v, fp, B, h, hn => by
    simp only [CR] at h
    exact ⟨B, ⟨fun _ _ => rfl, Nat.le_refl _, by simp [intern], by simp [intern], by simp [intern], by simp [intern]⟩, by simpa [intern, VR] using h.1, by simp [intern, CV.cell, AV.cell]⟩
  | .nils, k, c, v, fp, B, h, hn => by
    simp only [CR] at h
    exact ⟨B, ⟨fun _ _ => rfl, Nat.le_refl _, by simp [intern], by simp [intern], by simp [intern], by simp [intern]⟩, by simpa [intern, VR] using h.1, by simp [intern, AV.cell]⟩
  | .gone, k, c, v, fp, B, h, hn => ⟨B, ⟨fun _ _ => rfl, Nat.le_refl _, by simp [intern], by simp [intern], by simp [intern], by simp [intern]⟩, by simp [intern, VR], by simp [CV.cell]⟩
  | .own e sz l, k, c, v, fp, B, h, hn => by
    simp only [CR] at h
    simp only [intern]
    rcases h with ⟨rfl, rfl, rfl⟩ | ⟨b, n, cs, fr, rfl, hh, hu, h0, hcs, hln, hm, hd, rfl⟩
    · refine ⟨updB B c none, ⟨fun g hg => updB_old hg, Nat.le_succ _, fun x hx => ?_, fun x hx b hb => ?_, by simp, fun x hx => ?_⟩, ?_, by simp [AV.cell]⟩
      · simp only [List.mem_singleton] at hx
        subst hx
        exact ⟨Nat.le_refl _, Nat.lt_succ_self _, by simp only [OR, updB_new]⟩
      · simp only [List.mem_singleton] at hx
        subst hx
        rw [blkL_new] at hb
        simp [blkO] at hb
      · simp only [List.mem_singleton] at hx
        subst hx
        unfold OwnOK
        rw [blkL_new]
        simp [blkO]
      · simp only [VR, updB_new]
        exact ⟨Nat.lt_succ_self _, by simp⟩
    · refine ⟨updB B c (some (b, n)), ⟨fun g hg => updB_old hg, Nat.le_succ _, fun x hx => ?_, fun x hx b' hb => ?_, by simp, fun x hx => ?_⟩, ?_, by simp [AV.cell]⟩
      · simp only [List.mem_singleton] at hx
        subst hx
        exact ⟨Nat.le_refl _, Nat.lt_succ_self _, by simp only [OR, updB_new]; exact ⟨cs, fr, hh, hu, h0, hcs, hln, hm, hd⟩⟩
      · simp only [List.mem_singleton] at hx
        subst hx
        rw [blkL_new, blkO_le hm] at hb
        exact hb
      · simp only [List.mem_singleton] at hx
        subst hx
        unfold OwnOK
        rw [blkL_new, blkO_le hm]
        simp
      · simp only [VR, updB_new]
        exact ⟨Nat.lt_succ_self _, _, rfl, by omega, .inl (by simp)⟩
  | .nest e l, k, c, v, fp, B, h, hn => by
    simp only [CR] at h
    simp only [intern]
    rcases h with ⟨rfl, rfl, rfl⟩ | ⟨b, n, is, cs, fr, rfl, hh, hu, hcs, hln, hm, hd, rfl⟩
    · refine ⟨updB B c none, ⟨fun g hg => updB_old hg, Nat.le_succ _, fun x hx => ?_, fun x hx b hb => ?_, by simp, fun x hx => ?_⟩, ?_, by simp [AV.cell]⟩
      · simp only [List.mem_singleton] at hx
        subst hx
        exact ⟨Nat.le_refl _, Nat.lt_succ_self _, by simp only [OR, updB_new]⟩
      · simp only [List.mem_singleton] at hx
        subst hx
        rw [blkL_new] at hb
        simp [blkO] at hb
      · simp only [List.mem_singleton] at hx
        subst hx
        unfold OwnOK
        rw [blkL_new]
        simp [blkO]
      · simp only [VR, updB_new]
        exact ⟨Nat.lt_succ_self _, by simp⟩
    · have hbo : blkO (some (b, encBN (n, is))) = b :: rowsI is := blkO_enc _ _ _
      refine ⟨updB B c (some (b, encBN (n, is))), ⟨fun g hg => updB_old hg, Nat.le_succ _, fun x hx => ?_, fun x hx b' hb => ?_, by simp, fun x hx => ?_⟩, ?_, by simp [AV.cell]⟩
      · simp only [List.mem_singleton] at hx
        subst hx
        exact ⟨Nat.le_refl _, Nat.lt_succ_self _, by simp only [OR, updB_new, decBN_enc]; exact ⟨cs, fr, hh, hu, hcs, hln, hm, hd⟩⟩
      · simp only [List.mem_singleton] at hx
        subst hx
        rw [blkL_new, hbo] at hb
        exact hb
      · simp only [List.mem_singleton] at hx
        subst hx
        unfold OwnOK
        rw [blkL_new, hbo]
        exact ⟨hn, fun h => by cases h⟩
      · simp only [VR, updB_new, decBN_enc]
        exact ⟨Nat.lt_succ_self _, trivial⟩
  | .box e l, k, c, v, fp, B, h, hn => by
    simp only [CR] at h
    obtain ⟨b, cs, fr, fp', rfl, hh, hu, hc, hl, rfl⟩ := h
    simp only [List.nodup_cons] at hn
    obtain ⟨B', hL, hv, hcc⟩ := interns_spec l k 0 (c + 1) cs.toList fp' (updB B c (some (b, 0))) hl hn.2
    have hBc : B' c = some (b, 0) := by rw [hL.old c (Nat.lt_succ_self _), updB_new]
    have hbc : blkL B' c = [b] := blkL_le hBc (Nat.zero_le _)
    simp only [intern]
    refine ⟨B', ⟨fun g hg => by rw [hL.old g (by omega), updB_old hg], Nat.le_trans (Nat.le_succ _) hL.le, fun x hx => ?_, fun x hx b' hb => ?_, ?_, fun x hx => ?_⟩, ?_, by simp [AV.cell]⟩
    · rcases List.mem_cons.1 hx with rfl | hx
      · exact ⟨Nat.le_refl _, hL.le, by simp only [OR]; exact ⟨b, 0, cs, fr, hBc, hh, hu, hcc hc, hv⟩⟩
      · obtain ⟨h1, h2, h3⟩ := hL.objs x hx
        exact ⟨by omega, h2, h3⟩
    · rcases List.mem_cons.1 hx with rfl | hx
      · rw [hbc, List.mem_singleton] at hb
        simp [hb]
      · exact List.mem_cons_of_mem _ (hL.blk x hx b' hb)
    · simp only [List.map_cons, List.pairwise_cons]
      refine ⟨fun g hg => ?_, hL.inj⟩
      obtain ⟨x, hx, rfl⟩ := List.mem_map.1 hg
      refine ⟨by have := (hL.objs x hx).1; omega, fun b' h1 h2 => ?_⟩
      rw [hbc, List.mem_singleton] at h1
      exact hn.1 (h1 ▸ hL.blk x hx b' h2)
    · rcases List.mem_cons.1 hx with rfl | hx
      · unfold OwnOK; rw [hbc]; simp
      · exact hL.own1 x hx
    · simp only [VR]
      exact ⟨by have := hL.le; omega, b, 0, hBc, rfl⟩
  | .agg l, k, c, v, fp, B, h, hn => by
    simp only [CR] at h
    obtain ⟨cs, rfl, hc, hl⟩ := h
    obtain ⟨B', hL, hv, hcc⟩ := interns_spec l k 0 c cs.toList fp B hl hn
    simp only [intern]
    exact ⟨B', hL, mkAgg_VR (hcc hc) hv, by simp [CV.cell]⟩
theorem interns_spec : ∀ (l : List CV) (k : Key) (i c : Nat) (vs : List Value) (fp : List Nat) (B : Blk), CRl w F l vs fp → fp.Nodup → ∃ B', Laid w F B B' c (interns k i c l).2.2 (interns k i c l).2.1 fp ∧ VRl w F B' (interns k i c l).2.2 (interns k i c l).1 vs ∧ (cvCells l = true → cellsOK (interns k i c l).1 = true)
  | [], k, i, c, vs, fp, B, h, hn => by
    simp only [CRl] at h
    obtain ⟨rfl, rfl⟩ := h
    exact ⟨B, ⟨fun _ _ => rfl, Nat.le_refl _, by simp [interns], by simp [interns], by simp [interns], by simp [interns]⟩, by simp [interns, VRl], by simp [interns, cellsOK]⟩
  | x :: r, k, i, c, vs, fp, B, h, hn => by
    simp only [CRl] at h
    obtain ⟨v, vs', f1, f2, rfl, h1, h2, rfl⟩ := h
    have hn' := List.nodup_append.1 hn
    obtain ⟨B1, hL1, hv1, hc1⟩ := intern_spec x (k ++ [i]) c v f1 B h1 hn'.1
    simp only [interns]
    generalize intern (k ++ [i]) c x = p at *
    obtain ⟨B2, hL2, hv2, hc2⟩ := interns_spec r k (i + 1) p.2.2 vs' f2 B1 h2 hn'.2.1
    generalize interns k (i + 1) p.2.2 r = q at *
    refine ⟨B2, ⟨fun g hg => by rw [hL2.old g (Nat.lt_of_lt_of_le hg hL1.le), hL1.old g hg], Nat.le_trans hL1.le hL2.le, fun x hx => ?_, fun x hx b hb => ?_, ?_, fun x hx => ?_⟩, ?_, fun hc => ?_⟩
    · rcases List.mem_append.1 hx with hx | hx
      · obtain ⟨a1, a2, a3⟩ := hL1.objs x hx
        exact ⟨a1, Nat.lt_of_lt_of_le a2 hL2.le, a3.lift hL2.old hL2.le a2⟩
      · obtain ⟨a1, a2, a3⟩ := hL2.objs x hx
        exact ⟨Nat.le_trans hL1.le a1, a2, a3⟩
    · rcases List.mem_append.1 hx with hx | hx
      · rw [blkL_congr (hL2.old _ (hL1.objs x hx).2.1)] at hb
        exact List.mem_append_left _ (hL1.blk x hx b hb)
      · exact List.mem_append_right _ (hL2.blk x hx b hb)
    · rw [List.map_append, List.pairwise_append]
      refine ⟨?_, hL2.inj, fun g hg g' hg' => ?_⟩
      · refine List.Pairwise.imp_of_mem (fun {g g'} hg hg' hh => ?_) hL1.inj
        obtain ⟨x, hx, rfl⟩ := List.mem_map.1 hg
        obtain ⟨y, hy, rfl⟩ := List.mem_map.1 hg'
        refine ⟨hh.1, fun b => ?_⟩
        rw [blkL_congr (hL2.old _ (hL1.objs x hx).2.1), blkL_congr (hL2.old _ (hL1.objs y hy).2.1)]
        exact hh.2 b
      · obtain ⟨x, hx, rfl⟩ := List.mem_map.1 hg
        obtain ⟨y, hy, rfl⟩ := List.mem_map.1 hg'
        have a := (hL1.objs x hx).2.1
        have b' := (hL2.objs y hy).1
        refine ⟨by omega, fun b e1 e2 => ?_⟩
        rw [blkL_congr (hL2.old _ a)] at e1
        exact hn'.2.2 b (hL1.blk x hx b e1) b (hL2.blk y hy b e2) rfl
    · rcases List.mem_append.1 hx with hx | hx
      · exact (hL1.own1 x hx).congr (hL2.old _ (hL1.objs x hx).2.1) id
      · exact hL2.own1 x hx
    · simp only [VRl]
      exact ⟨v, vs', rfl, hv1.lift hL2.old hL2.le, hv2⟩
    · simp only [cvCells, Bool.and_eq_true] at hc
      simp only [cellsOK, hc1 hc.1, hc2 hc.2, Bool.and_self]
end
end
end Go.Fw
namespace Go.Fw
open Go
set_option linter.unusedVariables false
set_option linter.unusedSimpArgs false
mutual
 
def ext (H : List (Key × Nat × AO)) : Nat → AV → Option (CV × List Key)
  | 0, _ => none
  | n + 1, .d x => some (.d x, [])
  | n + 1, .nils => some (.nils, [])
  | n + 1, .ref k g sz off len => match objIn H k with
    | some (g', .row e z l) => if g' = g ∧ z = sz ∧ off = 0 ∧ len ≤ l.length then some (.own e z (l.take len), [k]) else none
    | _ => none
  | n + 1, .addr k g c => match objIn H k with
    | some (g', .box e l) => if g' = g ∧ c = 0 then match exts H n l with
        | some (xs, ks) => some (.box e xs, k :: ks)
        | none => none
      else none
    | _ => none
  | n + 1, .nref k g len => match objIn H k with
    | some (g', .nest e l) => if g' = g ∧ len = l.length then some (.nest e l, [k]) else none
    | _ => none
  | n + 1, .agg l => match exts H n l with
    | some (xs, ks) => some (.agg xs, ks)
    | none => none
  | n + 1, .dead => some (.gone, [])
  | n + 1, _ => none
def exts (H : List (Key × Nat × AO)) : Nat → List AV → Option (List CV × List Key)
  | 0, _ => none
  | n + 1, [] => some ([], [])
  | n + 1, x :: r => match ext H n x, exts H n r with
    | some (y, k1), some (ys, k2) => some (y :: ys, k1 ++ k2)
    | _, _ => none
end
noncomputable def blkOf (H : List (Key × Nat × AO)) (B : Blk) (k : Key) : List Nat := match objIn H k with
  | some (g, _) => blkL B g
  | none => []
noncomputable def fpOf (H : List (Key × Nat × AO)) (B : Blk) (ks : List Key) : List Nat := ks.flatMap (blkOf H B)
 
inductive Mode where
  | ro | frz | own
def argsC (P : Program) (H : List (Key × Nat × AO)) : List Mode → List AV → Option (List CV × List Key × List Key × List Key)
  | _, [] => some ([], [], [], [])
  | ms, x :: r => match argsC P H ms.tail r with
    | some (cs, kf, kr, ko) => match ms.headD .frz with
      | .own => match ext H 60 x with
        | some (c, ks) => some (c :: cs, kf, kr, ks ++ ko)
        | none => none
      | .ro => match toD P H 60 x with
        | some (y, ks) => some (.d y :: cs, kf, ks ++ kr, ko)
        | none => none
      | .frz => match toD P H 60 x with
        | some (y, ks) => some (.d y :: cs, ks ++ kf, kr, ko)
        | none => none
    | none => none
mutual
def CV.flat : CV → Bool
  | .d x => x.flat
  | .nils => true
  | .own _ _ l => D.flat.flats l
  | .nest _ _ => false
  | .box _ l => flats l
  | .agg l => flats l
  | .gone => true
def flats : List CV → Bool
  | [] => true
  | x :: r => x.flat && flats r
end
section
variable {P : Program} {F : Nat → Prop} {B : Blk} {w w' : World} {S : St} {a : Act}
theorem fpOf_mem {H : List (Key × Nat × AO)} {ks : List Key} {b : Nat} (h : b ∈ fpOf H B ks) : FK H B ks b := by
  obtain ⟨k, hk, hb⟩ := List.mem_flatMap.1 h
  unfold blkOf at hb
  split at hb
  · rename_i g o ho
    exact ⟨k, g, o, hk, mem_of_objIn ho, hb⟩
  · simp at hb
theorem fpOf_nodup (hf : FR F B w S a) {ks : List Key} (h : ks.Nodup) : (fpOf S.H B ks).Nodup := by
  refine List.pairwise_flatMap.2 ⟨fun k hk => ?_, h.imp fun {k k'} hne b hb b' hb' e => ?_⟩
  · unfold blkOf
    split
    · rename_i g o ho
      exact (hf.own1 _ (mem_of_objIn ho)).1
    · exact List.nodup_nil
  · subst e
    unfold blkOf at hb hb'
    split at hb
    · rename_i g o ho
      split at hb'
      · rename_i g' o' ho'
        have m1 := mem_of_objIn ho
        have m2 := mem_of_objIn ho'
        by_cases hg : g = g'
        · have := same_entry hf.gensNodup m1 m2 hg
          simp only [Prod.mk.injEq] at this
          exact hne this.1
        · exact hf.apartL m1 m2 hg hb hb'
      · simp at hb'
    · simp at hb
theorem fpOf_append {H : List (Key × Nat × AO)} (k1 k2 : List Key) : fpOf H B (k1 ++ k2) = fpOf H B k1 ++ fpOf H B k2 := List.flatMap_append
mutual
theorem ext_spec (hf : FR F B w S a) : ∀ (n : Nat) (x : AV) (y : CV) (ks : List Key) (v : Value), ext S.H n x = some (y, ks) → VR w F B S.c x v → CR w F y v (fpOf S.H B ks) ∧ (x.cell = true → y.cell = true)
  | 0, x, y, ks, v, h, hv => by simp [ext] at h
  | n + 1, .d x, y, ks, v, h, hv => by
    simp only [ext, Option.some.injEq, Prod.mk.injEq] at h
    obtain ⟨rfl, rfl⟩ := h
    simp only [VR] at hv
    exact ⟨by simp only [CR]; exact ⟨hv, rfl⟩, by simp [AV.cell, CV.cell]⟩
  | n + 1, .nils, y, ks, v, h, hv => by
    simp only [ext, Option.some.injEq, Prod.mk.injEq] at h
    obtain ⟨rfl, rfl⟩ := h
    simp only [VR] at hv
    exact ⟨by simp only [CR]; exact ⟨hv, rfl⟩, by simp [CV.cell]⟩
  | n + 1, .ref k g sz off len, y, ks, v, h, hv => by
    simp only [ext] at h
    split at h
    · rename_i g' e z l hob
      split at h
      · rename_i hc
        obtain ⟨rfl, rfl, rfl, hle⟩ := hc
        simp only [Option.some.injEq, Prod.mk.injEq] at h
        obtain ⟨rfl, rfl⟩ := h
        have hor := hf.objsIn hob
        simp only [VR] at hv
        obtain ⟨hg, hv⟩ := hv
        refine ⟨?_, by simp [CV.cell]⟩
        simp only [CR]
        have htl : (l.take len).length = len := by simp; omega
        have hfp : fpOf S.H B [k] = match B g' with | some (b, _) => [b] | none => [] := by
          simp only [fpOf, List.flatMap_cons, blkOf, hob, List.flatMap_nil, List.append_nil]
          have hok := hf.own1 _ (mem_of_objIn hob)
          cases hB : B g' with
          | none => simp [blkL_none hB]
          | some p => obtain ⟨b, n⟩ := p; exact hok.one rfl hB
        split at hv
        · rename_i hB
          obtain ⟨rfl, _, hl⟩ := hv
          simp only [OR, hB] at hor
          exact .inl ⟨rfl, by rw [hor, List.take_nil], by rw [hfp, hB]⟩
        · rename_i b m hB
          obtain ⟨ad, rfl, hcap, had⟩ := hv
          simp only [OR, hB] at hor
          obtain ⟨cs, fr, hh, hun, hz0, hcs, hln, hmx, hdr⟩ := hor
          rcases had with rfl | ⟨_, h0⟩
          · refine .inr ⟨b, m, cs, fr, by rw [htl]; simp, hh, hun, hz0, hcs, by rw [htl]; omega, hmx, ?_, by rw [hfp, hB]⟩
            have h1 := hdr.take len
            rw [htl]
            have hmul : len * z ≤ l.length * z := Nat.mul_le_mul_right _ hle
            rwa [List.take_take, Nat.min_eq_left hmul] at h1
          · omega
      · cases h
    · cases h
  | n + 1, .addr k g c, y, ks, v, h, hv => by
    simp only [ext] at h
    split at h
    · rename_i g' e l hob
      split at h
      · rename_i hc
        obtain ⟨rfl, rfl⟩ := hc
        split at h
        · rename_i xs ks' hxs
          simp only [Option.some.injEq, Prod.mk.injEq] at h
          obtain ⟨rfl, rfl⟩ := h
          have hor := hf.objsIn hob
          simp only [OR] at hor
          obtain ⟨b, m, cs, fr, hB, hh, hun, hco, hvl⟩ := hor
          simp only [VR] at hv
          obtain ⟨hg, b', m', hB', rfl⟩ := hv
          rw [hB] at hB'
          simp only [Option.some.injEq, Prod.mk.injEq] at hB'
          obtain ⟨rfl, rfl⟩ := hB'
          obtain ⟨h1, h2⟩ := exts_spec hf n l xs ks' cs.toList hxs hvl
          refine ⟨?_, by simp [CV.cell]⟩
          simp only [CR]
          refine ⟨b, cs, fr, _, rfl, hh, hun, h2 hco, h1, ?_⟩
          have hok := (hf.own1 _ (mem_of_objIn hob)).one rfl hB
          simp only [fpOf, List.flatMap_cons, blkOf, hob]
          rw [hok]
          rfl
        · cases h
      · cases h
    · cases h
  | n + 1, .nref k g len, y, ks, v, h, hv => by
    simp only [ext] at h
    split at h
    · rename_i g' e l hob
      split at h
      · rename_i hc
        obtain ⟨rfl, rfl⟩ := hc
        simp only [Option.some.injEq, Prod.mk.injEq] at h
        obtain ⟨rfl, rfl⟩ := h
        have hor := hf.objsIn hob
        simp only [VR] at hv
        obtain ⟨hg, hv⟩ := hv
        refine ⟨?_, by simp [CV.cell]⟩
        simp only [CR]
        have hfp : fpOf S.H B [k] = blkL B g' := by simp only [fpOf, List.flatMap_cons, blkOf, hob, List.flatMap_nil, List.append_nil]
        simp only [OR] at hor
        rw [hfp]
        cases hB : B g' with
        | none =>
          rw [hB] at hv hor
          exact .inl ⟨hv.1, hor, blkL_none hB⟩
        | some p =>
          obtain ⟨b, n⟩ := p
          rw [hB] at hv hor
          simp only at hv hor
          obtain ⟨cs, fr, h1, h2, h3, h4, h5, h6⟩ := hor
          exact .inr ⟨b, (decBN n).1, (decBN n).2, cs, fr, hv, h1, h2, h3, h4, h5, h6, by simp [blkL, blkO, hB, subB, rowsI]⟩
      · cases h
    · cases h
  | n + 1, .agg l, y, ks, v, h, hv => by
    simp only [ext] at h
    split at h
    · rename_i xs ks' hxs
      simp only [Option.some.injEq, Prod.mk.injEq] at h
      obtain ⟨rfl, rfl⟩ := h
      simp only [VR] at hv
      obtain ⟨cs, rfl, hco, hvl⟩ := hv
      obtain ⟨h1, h2⟩ := exts_spec hf n l xs ks' cs.toList hxs hvl
      refine ⟨?_, by simp [AV.cell]⟩
      simp only [CR]
      exact ⟨cs, rfl, h2 hco, h1⟩
    · cases h
  | n + 1, .dead, y, ks, v, h, hv => by
    simp only [ext, Option.some.injEq, Prod.mk.injEq] at h
    obtain ⟨rfl, rfl⟩ := h
    exact ⟨by simp [CR, fpOf], by simp [AV.cell]⟩
  | n + 1, .elt .., y, ks, v, h, hv => by simp [ext] at h
  | n + 1, .tup _, y, ks, v, h, hv => by simp [ext] at h
  | n + 1, .clo .., y, ks, v, h, hv => by simp [ext] at h
  | n + 1, .opt .., y, ks, v, h, hv => by simp [ext] at h
theorem exts_spec (hf : FR F B w S a) : ∀ (n : Nat) (l : List AV) (xs : List CV) (ks : List Key) (vs : List Value), exts S.H n l = some (xs, ks) → VRl w F B S.c l vs → CRl w F xs vs (fpOf S.H B ks) ∧ (cellsOK l = true → cvCells xs = true)
  | 0, l, xs, ks, vs, h, hv => by simp [exts] at h
  | n + 1, [], xs, ks, vs, h, hv => by
    simp only [exts, Option.some.injEq, Prod.mk.injEq] at h
    obtain ⟨rfl, rfl⟩ := h
    simp only [VRl] at hv
    exact ⟨by simp only [CRl]; exact ⟨hv, rfl⟩, by simp [cvCells]⟩
  | n + 1, x :: r, xs, ks, vs, h, hv => by
    simp only [exts] at h
    split at h
    · rename_i y k1 ys k2 h1 h2
      simp only [Option.some.injEq, Prod.mk.injEq] at h
      obtain ⟨rfl, rfl⟩ := h
      simp only [VRl] at hv
      obtain ⟨v, vs', rfl, hv1, hv2⟩ := hv
      obtain ⟨a1, a2⟩ := ext_spec hf n x y k1 v h1 hv1
      obtain ⟨b1, b2⟩ := exts_spec hf n r ys k2 vs' h2 hv2
      refine ⟨?_, fun hc => ?_⟩
      · simp only [CRl]
        exact ⟨v, vs', _, _, rfl, a1, b1, fpOf_append k1 k2⟩
      · simp only [cellsOK, Bool.and_eq_true] at hc
        simp only [cvCells, a2 hc.1, b2 hc.2, Bool.and_self]
    · cases h
end
mutual
theorem CR.mono {F' : Nat → Prop} (hF : ∀ b, F b → F' b) : ∀ (x : CV) (v : Value) (fp : List Nat), CR w F x v fp → CR w F' x v fp
  | .d x, v, fp, h => by simp only [CR] at h ⊢; exact ⟨DRv_mono_F hF h.1, h.2⟩
  | .nils, v, fp, h => by simpa only [CR] using h
  | .own e sz l, v, fp, h => by
    simp only [CR] at h ⊢
    rcases h with h | ⟨b, n, cs, fr, h1, h2, h3, h4, h5, h6, h7, h8, h9⟩
    · exact .inl h
    · exact .inr ⟨b, n, cs, fr, h1, h2, h3, h4, h5, h6, h7, DRr.mono (fun _ _ => rfl) hF _ _ _ h8, h9⟩
  | .nest e l, v, fp, h => by
    simp only [CR] at h ⊢
    rcases h with h | ⟨b, n, is, cs, fr, h1, h2, h3, h4, h5, h6, h7, h8⟩
    · exact .inl h
    · exact .inr ⟨b, n, is, cs, fr, h1, h2, h3, h4, h5, h6, NRl.mono (fun _ _ => rfl) hF (fun _ _ _ => rfl) h7, h8⟩
  | .box e l, v, fp, h => by
    simp only [CR] at h ⊢
    obtain ⟨b, cs, fr, fp', h1, h2, h3, h4, h5, h6⟩ := h
    exact ⟨b, cs, fr, fp', h1, h2, h3, h4, CRl.mono hF _ _ _ h5, h6⟩
  | .agg l, v, fp, h => by
    simp only [CR] at h ⊢
    obtain ⟨cs, h1, h2, h3⟩ := h
    exact ⟨cs, h1, h2, CRl.mono hF _ _ _ h3⟩
  | .gone, v, fp, h => by simpa only [CR] using h
theorem CRl.mono {F' : Nat → Prop} (hF : ∀ b, F b → F' b) : ∀ (l : List CV) (vs : List Value) (fp : List Nat), CRl w F l vs fp → CRl w F' l vs fp
  | [], vs, fp, h => by simpa only [CRl] using h
  | x :: r, vs, fp, h => by
    simp only [CRl] at h ⊢
    obtain ⟨v, vs', f1, f2, e, h1, h2, e2⟩ := h
    exact ⟨v, vs', f1, f2, e, CR.mono hF _ _ _ h1, CRl.mono hF _ _ _ h2, e2⟩
end
mutual
theorem DRc.flat {F' : Nat → Prop} : ∀ (x : D) (vs : List Value), x.flat = true → DRc w F x vs → DRc w F' x vs
  | .int _ _, _, hx, h => by simpa only [DRc] using h
  | .bool _, _, hx, h => by simpa only [DRc] using h
  | .str _, _, hx, h => by simpa only [DRc] using h
  | .nilp, _, hx, h => by simpa only [DRc] using h
  | .nilm, _, hx, h => by simpa only [DRc] using h
  | .nilf, _, hx, h => by simpa only [DRc] using h
  | .sl sz l, vs, hx, h => by
    simp only [D.flat, List.isEmpty_iff] at hx
    subst hx
    simp only [DRc] at h ⊢
    obtain ⟨A, c, h1, h2, h3, _⟩ := h
    exact ⟨A, c, h1, h2, h3, .inl trivial⟩
  | .ptr x, vs, hx, h => by simp [D.flat] at hx
  | .agg l, vs, hx, h => by
    simp only [D.flat] at hx
    simp only [DRc] at h ⊢
    exact DRl.flat l vs hx h
  | .clo fn f c, vs, hx, h => by
    simp only [D.flat, Bool.and_eq_true, List.isEmpty_iff] at hx
    obtain ⟨rfl, rfl⟩ := hx
    simp only [DRc, DRl] at h ⊢
    exact h
theorem DRl.flat {F' : Nat → Prop} : ∀ (l : List D) (vs : List Value), D.flat.flats l = true → DRl w F l vs → DRl w F' l vs
  | [], _, hx, h => by simpa only [DRl] using h
  | x :: r, vs, hx, h => by
    simp only [D.flat.flats, Bool.and_eq_true] at hx
    simp only [DRl] at h ⊢
    obtain ⟨v, vs', e, h0, h1, h2⟩ := h
    exact ⟨v, vs', e, h0, DRc.flat x _ hx.1 h1, DRl.flat r _ hx.2 h2⟩
end
theorem DRr.flat {F' : Nat → Prop} {sz : Nat} : ∀ (l : List D) (vs : List Value), D.flat.flats l = true → DRr w F sz l vs → DRr w F' sz l vs
  | [], _, hx, h => by simpa only [DRr] using h
  | x :: r, vs, hx, h => by
    simp only [D.flat.flats, Bool.and_eq_true] at hx
    simp only [DRr] at h ⊢
    obtain ⟨a, b, e, hl, h1, h2⟩ := h
    exact ⟨a, b, e, hl, DRc.flat x _ hx.1 h1, DRr.flat r _ hx.2 h2⟩
theorem DRv.flat {F' : Nat → Prop} {x : D} {v : Value} (hx : x.flat = true) (h : DRv w F x v) : DRv w F' x v := by
  cases x <;> simp only [DRv] at h ⊢
  case agg l =>
    obtain ⟨cs, e, h⟩ := h
    simp only [D.flat] at hx
    exact ⟨cs, e, DRl.flat _ _ hx h⟩
  all_goals exact DRc.flat _ _ hx h
mutual
theorem CR.flat {F' : Nat → Prop} : ∀ (x : CV) (v : Value) (fp : List Nat), x.flat = true → CR w F x v fp → CR w F' x v fp
  | .d x, v, fp, hx, h => by simp only [CV.flat] at hx; simp only [CR] at h ⊢; exact ⟨h.1.flat hx, h.2⟩
  | .nils, v, fp, hx, h => by simpa only [CR] using h
  | .own e sz l, v, fp, hx, h => by
    simp only [CV.flat] at hx
    simp only [CR] at h ⊢
    rcases h with h | ⟨b, n, cs, fr, h1, h2, h3, h4, h5, h6, h7, h8, h9⟩
    · exact .inl h
    · exact .inr ⟨b, n, cs, fr, h1, h2, h3, h4, h5, h6, h7, DRr.flat _ _ hx h8, h9⟩
  | .nest e l, v, fp, hx, h => by simp [CV.flat] at hx
  | .box e l, v, fp, hx, h => by
    simp only [CV.flat] at hx
    simp only [CR] at h ⊢
    obtain ⟨b, cs, fr, fp', h1, h2, h3, h4, h5, h6⟩ := h
    exact ⟨b, cs, fr, fp', h1, h2, h3, h4, CRl.flat _ _ _ hx h5, h6⟩
  | .agg l, v, fp, hx, h => by
    simp only [CV.flat] at hx
    simp only [CR] at h ⊢
    obtain ⟨cs, h1, h2, h3⟩ := h
    exact ⟨cs, h1, h2, CRl.flat _ _ _ hx h3⟩
  | .gone, v, fp, hx, h => by simpa only [CR] using h
theorem CRl.flat {F' : Nat → Prop} : ∀ (l : List CV) (vs : List Value) (fp : List Nat), flats l = true → CRl w F l vs fp → CRl w F' l vs fp
  | [], vs, fp, hx, h => by simpa only [CRl] using h
  | x :: r, vs, fp, hx, h => by
    simp only [flats, Bool.and_eq_true] at hx
    simp only [CRl] at h ⊢
    obtain ⟨v, vs', f1, f2, e, h1, h2, e2⟩ := h
    exact ⟨v, vs', f1, f2, e, CR.flat _ _ _ hx.1 h1, CRl.flat _ _ _ hx.2 h2, e2⟩
end
theorem argsC_spec (hf : FR F B w S a) : ∀ (ms : List Mode) (xs : List AV) (cs : List CV) (kf kr ko : List Key) (vs : List Value), argsC P S.H ms xs = some (cs, kf, kr, ko) → VRl w F B S.c xs vs →
    CRl w (fun b => F b ∨ FK S.H B kf b ∨ FK S.H B kr b) cs vs (fpOf S.H B ko)
  | ms, [], cs, kf, kr, ko, vs, h, hv => by
    simp only [argsC, Option.some.injEq, Prod.mk.injEq] at h
    obtain ⟨rfl, rfl, rfl, rfl⟩ := h
    simp only [VRl] at hv
    simp only [CRl]
    exact ⟨hv, rfl⟩
  | ms, x :: r, cs, kf, kr, ko, vs, h, hv => by
    simp only [argsC] at h
    simp only [VRl] at hv
    obtain ⟨v, vs', rfl, hv1, hv2⟩ := hv
    split at h
    · rename_i cs0 kf0 kr0 ko0 h0
      have ih := argsC_spec hf ms.tail r cs0 kf0 kr0 ko0 vs' h0 hv2
      split at h
      · split at h
        · rename_i c ks hx
          simp only [Option.some.injEq, Prod.mk.injEq] at h
          obtain ⟨rfl, rfl, rfl, rfl⟩ := h
          simp only [CRl]
          exact ⟨v, vs', _, _, rfl, CR.mono (fun b => .inl) _ _ _ (ext_spec hf 60 x c ks v hx hv1).1, ih, fpOf_append _ _⟩
        · cases h
      · split at h
        · rename_i y ks hx
          simp only [Option.some.injEq, Prod.mk.injEq] at h
          obtain ⟨rfl, rfl, rfl, rfl⟩ := h
          simp only [CRl]
          refine ⟨v, vs', [], _, rfl, ?_, CRl.mono (fun b hb => hb.imp id (.imp id (FK_mono fun k hk => List.mem_append_right _ hk))) _ _ _ ih, rfl⟩
          simp only [CR]
          exact ⟨DRv_mono_F (fun b hb => hb.imp id (fun h => .inr (FK_mono (fun k hk => List.mem_append_left _ hk) h))) (toD_DR hf 60 x y ks v hx hv1), trivial⟩
        · cases h
      · split at h
        · rename_i y ks hx
          simp only [Option.some.injEq, Prod.mk.injEq] at h
          obtain ⟨rfl, rfl, rfl, rfl⟩ := h
          simp only [CRl]
          refine ⟨v, vs', [], _, rfl, ?_, CRl.mono (fun b hb => hb.imp id (.imp (FK_mono fun k hk => List.mem_append_right _ hk) id)) _ _ _ ih, rfl⟩
          simp only [CR]
          exact ⟨DRv_mono_F (fun b hb => hb.imp id (fun h => .inl (FK_mono (fun k hk => List.mem_append_left _ hk) h))) (toD_DR hf 60 x y ks v hx hv1), trivial⟩
        · cases h
    · cases h
end
end Go.Fw
namespace Go.Fw
open Go
set_option linter.unusedVariables false
set_option linter.unusedSimpArgs false
 
def Rv (v : Value) : List Value → Prop
  | [x] => v = x
  | l => v = .tuple l.toArray
 
structure Left (F : Nat → Prop) (w : World) (vs : List Value) (fp : List Nat) (rs az : List CV) (v : Value) (w' : World) (F' : Nat → Prop) (vr : List Value) (f1 f2 : List Nat) : Prop where
  res : Rv v vr
  rs : CRl w' F' rs vr f1
  az : CRl w' F' az vs f2
  nodup : (f1 ++ f2).Nodup
  sep : ∀ b ∈ f1 ++ f2, ¬ F' b ∧ b < w'.heap.size
  lt : ∀ b, F' b → b < w'.heap.size
  sub : ∀ b, F b → F' b
  keep : ∀ b, b < w.heap.size → b ∉ fp → w'.heap[b]? = w.heap[b]?
  new : ∀ b, F' b ∨ b ∈ f1 ++ f2 → F b ∨ b ∈ fp ∨ w.heap.size ≤ b
  os : w'.os = w.os
  tape : w'.tape = w.tape
  output : w'.output = w.output
  size : w.heap.size ≤ w'.heap.size
 
def Enters (P : Program) (g : FuncId) (args : Array Value) (w : World) (R : Value → World → Prop) : Prop :=
  match (callFunc g args).run P w with
  | .ok (.value v) w' => R v w'
  | .ok (.enter f xs) w' => Calls P f xs w' fun
    | .returned v, w'' => R v w''
    | _, _ => False
  | .ok (.row row xs) w' => Rows P row xs w' R
  | _ => False
 
def Con (P : Program) (g : FuncId) (args : List CV) (R : List CV → List CV → Prop) : Prop :=
  ∀ F w vs fp, CRl w F args vs fp → fp.Nodup → (∀ b ∈ fp, ¬ F b ∧ b < w.heap.size) → FL F w →
    Enters P g vs.toArray w fun v w' => ∃ rs az F' vr f1 f2, R rs az ∧ Left F w vs fp rs az v w' F' vr f1 f2
theorem Con.mono {P : Program} {g : FuncId} {args : List CV} {R R' : List CV → List CV → Prop} (h : Con P g args R) (hr : ∀ rs az, R rs az → R' rs az) : Con P g args R' := by
  intro F w vs fp h1 h2 h3 h4
  have := h F w vs fp h1 h2 h3 h4
  unfold Enters at this ⊢
  split at this
  · obtain ⟨rs, az, F', vr, f1, f2, h, l⟩ := this
    exact ⟨rs, az, F', vr, f1, f2, hr _ _ h, l⟩
  · refine this.mono fun e w' he => ?_
    cases e
    · obtain ⟨rs, az, F', vr, f1, f2, h, l⟩ := he
      exact ⟨rs, az, F', vr, f1, f2, hr _ _ h, l⟩
    · exact he
    · exact he
  · refine this.mono fun v w' he => ?_
    obtain ⟨rs, az, F', vr, f1, f2, h, l⟩ := he
    exact ⟨rs, az, F', vr, f1, f2, hr _ _ h, l⟩
  · exact this.elim
 
structure LaidG (G : List Nat) (w : World) (F : Nat → Prop) (B B' : Blk) (c c' : Nat) (hs : List (Key × Nat × AO)) (fp : List Nat) : Prop where
  old : ∀ g, g < c → B' g = B g
  le : c ≤ c'
  objs : ∀ x ∈ hs, (x.2.1 ∈ G ∨ c ≤ x.2.1) ∧ x.2.1 < c' ∧ OR w F B' c' x.2.1 x.2.2
  blk : ∀ x ∈ hs, ∀ b ∈ blkL B' x.2.1, b ∈ fp
  inj : (hs.map fun x => x.2.1).Pairwise fun g g' => g ≠ g' ∧ ∀ b, b ∈ blkL B' g → ¬ b ∈ blkL B' g'
  own1 : ∀ x ∈ hs, OwnOK B' x.2.1 x.2.2
theorem Laid.toG {w : World} {F : Nat → Prop} {B B' : Blk} {c c' : Nat} {hs : List (Key × Nat × AO)} {fp : List Nat} (h : Laid w F B B' c c' hs fp) : LaidG [] w F B B' c c' hs fp :=
  ⟨h.old, h.le, fun x hx => ⟨.inr (h.objs x hx).1, (h.objs x hx).2⟩, h.blk, h.inj, h.own1⟩
theorem LaidG.append {G1 G2 : List Nat} {w : World} {F : Nat → Prop} {B B1 B2 : Blk} {c c1 c2 : Nat} {h1 h2 : List (Key × Nat × AO)} {f1 f2 : List Nat}
    (a : LaidG G1 w F B B1 c c1 h1 f1) (b : LaidG G2 w F B1 B2 c1 c2 h2 f2) (hG1 : ∀ g ∈ G1, g < c) (hG2 : ∀ g ∈ G2, g < c) (hG : (G1 ++ G2).Nodup) (hf : (f1 ++ f2).Nodup) : LaidG (G1 ++ G2) w F B B2 c c2 (h1 ++ h2) (f1 ++ f2) := by
  have hn := List.nodup_append.1 hf
  have hgn := List.nodup_append.1 hG
  refine ⟨fun g hg => by rw [b.old g (Nat.lt_of_lt_of_le hg a.le), a.old g hg], Nat.le_trans a.le b.le, fun x hx => ?_, fun x hx i hi => ?_, ?_, fun x hx => ?_⟩
  · rcases List.mem_append.1 hx with hx | hx
    · obtain ⟨p, q, r⟩ := a.objs x hx
      exact ⟨p.imp (List.mem_append_left _) id, Nat.lt_of_lt_of_le q b.le, r.lift b.old b.le q⟩
    · obtain ⟨p, q, r⟩ := b.objs x hx
      exact ⟨p.imp (List.mem_append_right _) (Nat.le_trans a.le), q, r⟩
  · rcases List.mem_append.1 hx with hx | hx
    · rw [blkL_congr (b.old _ (a.objs x hx).2.1)] at hi
      exact List.mem_append_left _ (a.blk x hx i hi)
    · exact List.mem_append_right _ (b.blk x hx i hi)
  · rw [List.map_append, List.pairwise_append]
    refine ⟨?_, b.inj, fun g hg g' hg' => ?_⟩
    · refine List.Pairwise.imp_of_mem (fun {g g'} hg hg' hh => ?_) a.inj
      obtain ⟨x, hx, rfl⟩ := List.mem_map.1 hg
      obtain ⟨y, hy, rfl⟩ := List.mem_map.1 hg'
      refine ⟨hh.1, fun i => ?_⟩
      rw [blkL_congr (b.old _ (a.objs x hx).2.1), blkL_congr (b.old _ (a.objs y hy).2.1)]
      exact hh.2 i
    · obtain ⟨x, hx, rfl⟩ := List.mem_map.1 hg
      obtain ⟨y, hy, rfl⟩ := List.mem_map.1 hg'
      obtain ⟨p1, p2, _⟩ := a.objs x hx
      obtain ⟨q1, q2, _⟩ := b.objs y hy
      refine ⟨?_, fun i e1 e2 => ?_⟩
      · rcases p1 with p1 | p1 <;> rcases q1 with q1 | q1
        · exact hgn.2.2 _ p1 _ q1
        · have := hG1 _ p1
          have := a.le
          omega
        · have := hG2 _ q1
          omega
        · omega
      · rw [blkL_congr (b.old _ p2)] at e1
        exact hn.2.2 i (a.blk x hx i e1) i (b.blk y hy i e2) rfl
  · rcases List.mem_append.1 hx with hx | hx
    · exact (a.own1 x hx).congr (b.old _ (a.objs x hx).2.1) id
    · exact b.own1 x hx
section
variable {P : Program} {F : Nat → Prop} {B : Blk} {w w' : World} {S : St} {a : Act} {N : Nat}
 
theorem FR.lay (hf : FR F B w S a) {G : List Nat} {B' : Blk} {c' : Nat} {hs : List (Key × Nat × AO)} {fp : List Nat} (hl : LaidG G w F B B' S.c c' hs fp) (hG : ∀ g ∈ G, ∀ x ∈ S.H, x.2.1 ≠ g)
    (hfp : ∀ b ∈ fp, ¬ F b ∧ b < w.heap.size ∧ ¬ Own S.H B b) : FR F B' w ⟨S.E, hs ++ S.H, c'⟩ a where
  slots t := (hf.slots t).lift hl.old hl.le
  objs k g o hm := by
    rcases List.mem_append.1 hm with h | h
    · exact (hl.objs _ h).2
    · have := hf.objs k g o h
      exact ⟨Nat.lt_of_lt_of_le this.1 hl.le, this.2.lift hl.old hl.le this.1⟩
  sep b := by
    rintro ⟨k, g, o, hm, hb⟩
    rcases List.mem_append.1 hm with h | h
    · have := hfp b (hl.blk _ h b hb)
      exact ⟨this.1, this.2.1⟩
    · rw [blkL_congr (hl.old g (hf.objs k g o h).1)] at hb
      exact hf.sep b ⟨k, g, o, h, hb⟩
  inj := by
    show ((hs ++ S.H).map fun x => x.2.1).Pairwise _
    rw [List.map_append, List.pairwise_append]
    refine ⟨hl.inj, ?_, fun g hg g' hg' => ?_⟩
    · refine List.Pairwise.imp_of_mem (fun {g g'} hg hg' hh => ?_) hf.inj
      obtain ⟨x, hx, rfl⟩ := List.mem_map.1 hg
      obtain ⟨y, hy, rfl⟩ := List.mem_map.1 hg'
      refine ⟨hh.1, fun i => ?_⟩
      rw [blkL_congr (hl.old _ (hf.objs x.1 x.2.1 x.2.2 hx).1), blkL_congr (hl.old _ (hf.objs y.1 y.2.1 y.2.2 hy).1)]
      exact hh.2 i
    · obtain ⟨x, hx, rfl⟩ := List.mem_map.1 hg
      obtain ⟨y, hy, rfl⟩ := List.mem_map.1 hg'
      have hlt := (hf.objs y.1 y.2.1 y.2.2 hy).1
      refine ⟨?_, fun i e1 e2 => ?_⟩
      · rcases (hl.objs x hx).1 with h | h
        · exact fun e => hG _ h y hy e.symm
        · omega
      · rw [blkL_congr (hl.old _ hlt)] at e2
        exact (hfp i (hl.blk x hx i e1)).2.2 ⟨y.1, y.2.1, y.2.2, hy, e2⟩
  own1 x hm := by
    rcases List.mem_append.1 hm with h | h
    · exact hl.own1 x h
    · exact (hf.own1 x h).congr (hl.old _ (hf.objs x.1 x.2.1 x.2.2 h).1) id
  Flt := hf.Flt
  defers := hf.defers
  pin := Nat.le_trans hf.pin hl.le
 
theorem FR.world {F' : Nat → Prop} (hf : FR F B w S a) (hk : ∀ b, F b ∨ Own S.H B b → w'.heap[b]? = w.heap[b]?) (hF : ∀ b, F b → F' b) (hsep : ∀ b, Own S.H B b → ¬ F' b) (hlt : FL F' w') (hsz : w.heap.size ≤ w'.heap.size) : FR F' B w' S a where
  slots t := VR.mono (fun b hb => hk b (.inl hb)) hF (fun _ _ => rfl) (Nat.le_refl _) _ _ (hf.slots t)
  objs k g o hm := by
    have := hf.objs k g o hm
    exact ⟨this.1, OR.mono (fun b hb => hk b (.inl hb)) hF (fun _ _ => rfl) (Nat.le_refl _) this.1 (fun b hb => hk b (.inr ⟨k, g, o, hm, hb⟩)) this.2⟩
  sep b hb := ⟨hsep b hb, Nat.lt_of_lt_of_le (hf.sep b hb).2 hsz⟩
  inj := hf.inj
  own1 := hf.own1
  Flt := hlt
  defers := hf.defers
  pin := hf.pin
 
def reown1 (c : Nat) : AV → CV → List (Key × Nat × AO) × Nat
  | .ref k g _ _ _, .own e z l => ([(k, g, .row e z l)], c)
  | .addr k g _, .box e l => ((k, g, .box e (interns k 0 c l).1) :: (interns k 0 c l).2.1, (interns k 0 c l).2.2)
  | _, _ => ([], c)
def reown (c : Nat) : List Mode → List AV → List CV → List (Key × Nat × AO) × Nat
  | ms, x :: xs, ys => match ms.headD .frz with
    | .own => ((reown1 c x (ys.headD .gone)).1 ++ (reown (reown1 c x (ys.headD .gone)).2 ms.tail xs ys.tail).1, (reown (reown1 c x (ys.headD .gone)).2 ms.tail xs ys.tail).2)
    | _ => reown c ms.tail xs ys.tail
  | _, [], _ => ([], c)
def genOf : AV → List Nat
  | .ref _ g _ _ _ => [g]
  | .addr _ g _ => [g]
  | _ => []
def gensOf : List Mode → List AV → List Nat
  | ms, x :: xs => match ms.headD .frz with
    | .own => genOf x ++ gensOf ms.tail xs
    | _ => gensOf ms.tail xs
  | _, [] => []
theorem reown1_spec (hown : ∀ x ∈ S.H, OwnOK B x.2.1 x.2.2) {c : Nat} {x : AV} {y : CV} {v : Value} {fp : List Nat} {n : Nat} {cv : CV} {ks : List Key} (he : ext S.H n x = some (cv, ks)) (hv : VR w F B c x v) {F' : Nat → Prop} (hy : CR w' F' y v fp) (hn : fp.Nodup) :
    ∀ B1 c1, (∀ g, g < c → B1 g = B g) → c ≤ c1 → ∃ B', LaidG (genOf x) w' F' B1 B' c1 (reown1 c1 x y).2 (reown1 c1 x y).1 fp := by
  intro B1 c1 hB1 hc
  have triv : (reown1 c1 x y) = ([], c1) → ∃ B', LaidG (genOf x) w' F' B1 B' c1 (reown1 c1 x y).2 (reown1 c1 x y).1 fp := fun h => by
    rw [h]
    exact ⟨B1, fun _ _ => rfl, Nat.le_refl _, by simp, by simp, by simp, by simp⟩
  cases x <;> cases y <;> try exact triv rfl
  case ref.own k g sz off len e z l =>
    simp only [reown1, genOf]
    cases n with
    | zero => simp [ext] at he
    | succ n =>
    simp only [ext] at he
    split at he
    · rename_i g' e' z' l' hob
      split at he
      · rename_i hcc
        obtain ⟨rfl, rfl, rfl, _⟩ := hcc
        simp only [VR] at hv
        obtain ⟨hg, hv⟩ := hv
        rw [← hB1 g' hg] at hv
        simp only [CR] at hy
        refine ⟨B1, fun _ _ => rfl, Nat.le_refl _, fun x hx => ?_, fun x hx b hb => ?_, by simp, fun x hx => ?_⟩
        · simp only [List.mem_singleton] at hx
          subst hx
          refine ⟨.inl (by simp), by show g' < c1; omega, ?_⟩
          simp only [OR]
          split at hv
          · rename_i hB
            obtain ⟨rfl, _⟩ := hv
            rcases hy with ⟨_, rfl, _⟩ | ⟨b, n, cs, fr, h1, _⟩
            · rfl
            · cases h1
          · rename_i b m hB
            obtain ⟨ad, rfl, hcap, had⟩ := hv
            rcases hy with ⟨h1, _⟩ | ⟨b', n', cs, fr, h1, h2, h3, h4, h5, h6, h7, h8, h9⟩
            · cases h1
            · simp only [Value.slice.injEq, Option.some.injEq] at h1
              obtain ⟨rfl, h11, h12⟩ := h1
              rcases had with h | ⟨_, h0⟩
              · simp only [Addr.mk.injEq] at h
                obtain ⟨rfl, _, _⟩ := h
                have : n' = m := by omega
                subst this
                exact ⟨cs, fr, h2, h3, h4, h5, h6, h7, h8⟩
              · omega
        · simp only [List.mem_singleton] at hx
          subst hx
          simp only at hb
          split at hv
          · rename_i hB
            rw [blkL_none hB] at hb
            cases hb
          · rename_i b1 m1 hB
            have hBo : B g' = some (b1, m1) := by rw [← hB1 g' hg]; exact hB
            rw [blkL_congr (hB1 g' hg), (hown _ (mem_of_objIn hob)).one rfl hBo, List.mem_singleton] at hb
            subst hb
            obtain ⟨ad, rfl, hcap, had⟩ := hv
            rcases hy with ⟨h1, _⟩ | ⟨b', n', cs, fr, h1, h2, h3, h4, h5, h6, h7, h8, h9⟩
            · cases h1
            · simp only [Value.slice.injEq, Option.some.injEq] at h1
              obtain ⟨rfl, h11, h12⟩ := h1
              rcases had with h | ⟨_, h0⟩
              · simp only [Addr.mk.injEq] at h
                obtain ⟨rfl, _, _⟩ := h
                simp [h9]
              · omega
        · simp only [List.mem_singleton] at hx
          subst hx
          exact (hown _ (mem_of_objIn hob)).congr (hB1 g' hg) fun _ => rfl
      · cases he
    · cases he
  case addr.box k g o e l =>
    simp only [reown1, genOf]
    cases n with
    | zero => simp [ext] at he
    | succ n =>
    simp only [ext] at he
    split at he
    · rename_i g' e' l' hob
      split at he
      · rename_i hcc
        obtain ⟨rfl, rfl⟩ := hcc
        simp only [VR] at hv
        obtain ⟨hg, b, m, hB, rfl⟩ := hv
        have hone := (hown _ (mem_of_objIn hob)).one rfl hB
        rw [← hB1 g' hg] at hB
        simp only [CR] at hy
        obtain ⟨b', cs, fr, fp', h1, hh, hu, hcl, hl, rfl⟩ := hy
        simp only [Value.pointer.injEq, Option.some.injEq, Addr.mk.injEq] at h1
        obtain ⟨rfl, _, _⟩ := h1
        simp only [List.nodup_cons] at hn
        obtain ⟨B', hL, hvl, hcc⟩ := interns_spec l k 0 c1 cs.toList fp' B1 hl hn.2
        have hBg : B' g' = some (b, m) := by rw [hL.old g' (by omega), hB]
        have hbg : blkL B' g' = [b] := by rw [blkL_congr ((hL.old g' (by omega)).trans (hB1 g' hg))]; exact hone
        refine ⟨B', hL.old, hL.le, fun x hx => ?_, fun x hx i hi => ?_, ?_, fun x hx => ?_⟩
        · rcases List.mem_cons.1 hx with rfl | hx
          · refine ⟨.inl (by simp), by have := hL.le; show g' < _; omega, ?_⟩
            simp only [OR]
            exact ⟨b, m, cs, fr, hBg, hh, hu, hcc hcl, hvl⟩
          · obtain ⟨p, q, r⟩ := hL.objs x hx
            exact ⟨.inr p, q, r⟩
        · rcases List.mem_cons.1 hx with rfl | hx
          · rw [hbg, List.mem_singleton] at hi
            simp [hi]
          · exact List.mem_cons_of_mem _ (hL.blk x hx i hi)
        · simp only [List.map_cons, List.pairwise_cons]
          refine ⟨fun g2 hg2 => ?_, hL.inj⟩
          obtain ⟨x, hx, rfl⟩ := List.mem_map.1 hg2
          refine ⟨by have := (hL.objs x hx).1; omega, fun i e1 e2 => ?_⟩
          rw [hbg, List.mem_singleton] at e1
          exact hn.1 (e1 ▸ hL.blk x hx i e2)
        · rcases List.mem_cons.1 hx with rfl | hx
          · unfold OwnOK
            rw [hbg]
            simp
          · exact hL.own1 x hx
      · cases he
    · cases he
theorem ext_gen {n : Nat} {x : AV} {cv : CV} {ks : List Key} (he : ext S.H n x = some (cv, ks)) : ∀ g ∈ genOf x, ∃ k o, k ∈ ks ∧ objIn S.H k = some (g, o) := by
  intro g hg
  cases x <;> simp only [genOf, List.not_mem_nil, List.mem_singleton] at hg
  case ref k g' sz off len =>
    subst hg
    cases n with
    | zero => simp [ext] at he
    | succ n =>
    simp only [ext] at he
    split at he
    · rename_i hob
      split at he
      · rename_i hc
        simp only [Option.some.injEq, Prod.mk.injEq] at he
        obtain ⟨_, rfl⟩ := he
        exact ⟨k, _, by simp, hc.1 ▸ hob⟩
      · cases he
    · cases he
  case addr k g' c =>
    subst hg
    cases n with
    | zero => simp [ext] at he
    | succ n =>
    simp only [ext] at he
    split at he
    · rename_i hob
      split at he
      · rename_i hc
        split at he
        · simp only [Option.some.injEq, Prod.mk.injEq] at he
          obtain ⟨_, rfl⟩ := he
          exact ⟨k, _, by simp, hc.1 ▸ hob⟩
        · cases he
      · cases he
    · cases he
theorem argsC_gens : ∀ (ms : List Mode) (xs : List AV) (cs : List CV) (kf kr ko : List Key), argsC P S.H ms xs = some (cs, kf, kr, ko) → ∀ g ∈ gensOf ms xs, ∃ k o, k ∈ ko ∧ objIn S.H k = some (g, o)
  | ms, [], cs, kf, kr, ko, h, g, hg => by simp [gensOf] at hg
  | ms, x :: r, cs, kf, kr, ko, h, g, hg => by
    simp only [argsC] at h
    simp only [gensOf] at hg
    split at h
    · rename_i cs0 kf0 kr0 ko0 h0
      have ih := argsC_gens ms.tail r cs0 kf0 kr0 ko0 h0
      split at h
      · rename_i hm
        simp only [hm] at hg
        split at h
        · rename_i c ks hx
          simp only [Option.some.injEq, Prod.mk.injEq] at h
          obtain ⟨rfl, rfl, rfl, rfl⟩ := h
          rcases List.mem_append.1 hg with hg | hg
          · obtain ⟨k, o, h1, h2⟩ := ext_gen hx g hg
            exact ⟨k, o, List.mem_append_left _ h1, h2⟩
          · obtain ⟨k, o, h1, h2⟩ := ih g hg
            exact ⟨k, o, List.mem_append_right _ h1, h2⟩
        · cases h
      · rename_i hm
        simp only [hm] at hg
        split at h
        · simp only [Option.some.injEq, Prod.mk.injEq] at h
          obtain ⟨rfl, rfl, rfl, rfl⟩ := h
          exact ih g hg
        · cases h
      · rename_i hm
        simp only [hm] at hg
        split at h
        · simp only [Option.some.injEq, Prod.mk.injEq] at h
          obtain ⟨rfl, rfl, rfl, rfl⟩ := h
          exact ih g hg
        · cases h
    · cases h
theorem argsC_gensNodup (hf : FR F B w S a) : ∀ (ms : List Mode) (xs : List AV) (cs : List CV) (kf kr ko : List Key), argsC P S.H ms xs = some (cs, kf, kr, ko) → ko.Nodup → (gensOf ms xs).Nodup
  | ms, [], cs, kf, kr, ko, h, hn => by simp [gensOf]
  | ms, x :: r, cs, kf, kr, ko, h, hn => by
    simp only [argsC] at h
    simp only [gensOf]
    split at h
    · rename_i cs0 kf0 kr0 ko0 h0
      have ih := argsC_gensNodup hf ms.tail r cs0 kf0 kr0 ko0 h0
      have ig := argsC_gens ms.tail r cs0 kf0 kr0 ko0 h0
      split at h
      · rename_i hm
        simp only [hm]
        split at h
        · rename_i c ks hx
          simp only [Option.some.injEq, Prod.mk.injEq] at h
          obtain ⟨rfl, rfl, rfl, rfl⟩ := h
          have hn' := List.nodup_append.1 hn
          refine List.nodup_append.2 ⟨?_, ih hn'.2.1, fun g hg g' hg' e => ?_⟩
          · cases x <;> simp [genOf]
          · subst e
            obtain ⟨k, o, h1, h2⟩ := ext_gen hx g hg
            obtain ⟨k', o', h1', h2'⟩ := ig g hg'
            have := same_entry hf.gensNodup (mem_of_objIn h2) (mem_of_objIn h2') rfl
            simp only [Prod.mk.injEq] at this
            exact hn'.2.2 k h1 k' h1' this.1
        · cases h
      · rename_i hm
        simp only [hm]
        split at h
        · simp only [Option.some.injEq, Prod.mk.injEq] at h
          obtain ⟨rfl, rfl, rfl, rfl⟩ := h
          exact ih hn
        · cases h
      · rename_i hm
        simp only [hm]
        split at h
        · simp only [Option.some.injEq, Prod.mk.injEq] at h
          obtain ⟨rfl, rfl, rfl, rfl⟩ := h
          exact ih hn
        · cases h
    · cases h
theorem reown_spec (hf : FR F B w S a) {F' : Nat → Prop} : ∀ (ms : List Mode) (xs : List AV) (cs : List CV) (kf kr ko : List Key) (vs : List Value) (az : List CV) (fp : List Nat), argsC P S.H ms xs = some (cs, kf, kr, ko) → ko.Nodup → VRl w F B S.c xs vs → CRl w' F' az vs fp → fp.Nodup →
    ∀ B1 c1, (∀ g, g < S.c → B1 g = B g) → S.c ≤ c1 → ∃ B' f, LaidG (gensOf ms xs) w' F' B1 B' c1 (reown c1 ms xs az).2 (reown c1 ms xs az).1 f ∧ f.Nodup ∧ ∀ b ∈ f, b ∈ fp
  | ms, [], cs, kf, kr, ko, vs, az, fp, h, hn, hv, hc, hfp, B1, c1, hB, hc1 => by
    have e : reown c1 ms [] az = ([], c1) := rfl
    rw [e]
    exact ⟨B1, [], ⟨fun _ _ => rfl, Nat.le_refl _, by simp, by simp, by simp, by simp⟩, by simp, by simp⟩
  | ms, x :: r, cs, kf, kr, ko, vs, [], fp, h, hn, hv, hc, hfp, B1, c1, hB, hc1 => by
    simp only [VRl] at hv
    obtain ⟨v, vs', rfl, _⟩ := hv
    simp only [CRl] at hc
    exact absurd hc.1 (by simp)
  | ms, x :: r, cs, kf, kr, ko, vs, y :: ys, fp, h, hn, hv, hc, hfp, B1, c1, hB, hc1 => by
    have h' := h
    simp only [argsC] at h
    simp only [VRl] at hv
    obtain ⟨v, vs', rfl, hv1, hv2⟩ := hv
    simp only [CRl] at hc
    obtain ⟨v0, vs0, f1, f2, e0, hy, hys, rfl⟩ := hc
    simp only [List.cons.injEq] at e0
    obtain ⟨rfl, rfl⟩ := e0
    have hfn := List.nodup_append.1 hfp
    split at h
    · rename_i cs0 kf0 kr0 ko0 h0
      split at h
      · rename_i hm
        split at h
        · rename_i cc ks hx
          simp only [Option.some.injEq, Prod.mk.injEq] at h
          obtain ⟨rfl, rfl, rfl, rfl⟩ := h
          have hn' := List.nodup_append.1 hn
          have hgn := argsC_gensNodup hf ms (x :: r) _ _ _ _ h' hn
          have hgl : ∀ g ∈ gensOf ms (x :: r), g < S.c := fun g hg => by
            obtain ⟨k, o, _, h2⟩ := argsC_gens ms (x :: r) _ _ _ _ h' g hg
            exact (hf.objs _ _ _ (mem_of_objIn h2)).1
          obtain ⟨B2, hL1⟩ := reown1_spec hf.own1 hx hv1 hy hfn.1 B1 c1 hB hc1
          simp only [reown, hm, gensOf, List.headD_cons, List.tail_cons] at hgn hgl ⊢
          generalize reown1 c1 x y = p at *
          obtain ⟨B3, f, hL2, hfd, hfs⟩ := reown_spec hf ms.tail r cs0 kf0 kr0 ko0 vs' ys f2 h0 hn'.2.1 hv2 hys hfn.2.1 B2 p.2 (fun g hg => by rw [hL1.old g (by omega), hB g hg]) (Nat.le_trans hc1 hL1.le)
          have hnd : (f1 ++ f).Nodup := List.nodup_append.2 ⟨hfn.1, hfd, fun b hb b' hb' => hfn.2.2 b hb b' (hfs b' hb')⟩
          exact ⟨B3, f1 ++ f, hL1.append hL2 (fun g hg => by have := hgl g (List.mem_append_left _ hg); omega) (fun g hg => by have := hgl g (List.mem_append_right _ hg); omega) hgn hnd, hnd, fun b hb => by
            rcases List.mem_append.1 hb with h | h
            · exact List.mem_append_left _ h
            · exact List.mem_append_right _ (hfs b h)⟩
        · cases h
      · rename_i hm
        split at h
        · simp only [Option.some.injEq, Prod.mk.injEq] at h
          obtain ⟨rfl, rfl, rfl, rfl⟩ := h
          obtain ⟨B3, f, hL2, hfd, hfs⟩ := reown_spec hf ms.tail r cs0 kf0 _ ko0 vs' ys f2 h0 hn hv2 hys hfn.2.1 B1 c1 hB hc1
          simp only [reown, hm, gensOf, List.tail_cons]
          exact ⟨B3, f, hL2, hfd, fun b hb => List.mem_append_right _ (hfs b hb)⟩
        · cases h
      · rename_i hm
        split at h
        · simp only [Option.some.injEq, Prod.mk.injEq] at h
          obtain ⟨rfl, rfl, rfl, rfl⟩ := h
          obtain ⟨B3, f, hL2, hfd, hfs⟩ := reown_spec hf ms.tail r cs0 _ kr0 ko0 vs' ys f2 h0 hn hv2 hys hfn.2.1 B1 c1 hB hc1
          simp only [reown, hm, gensOf, List.tail_cons]
          exact ⟨B3, f, hL2, hfd, fun b hb => List.mem_append_right _ (hfs b hb)⟩
        · cases h
    · cases h
end
end Go.Fw
namespace Go.Fw
open Go
set_option linter.unusedVariables false
set_option linter.unusedSimpArgs false
def resV (d c : Nat) : List CV → AV × List (Key × Nat × AO) × Nat
  | [r] => intern [d] c r
  | rs => (.tup (interns [d] 0 c rs).1, (interns [d] 0 c rs).2.1, (interns [d] 0 c rs).2.2)
def resO (dst : Option Nat) (c : Nat) (rs : List CV) : AV × List (Key × Nat × AO) × Nat := match dst with
  | some d => resV d c rs
  | none => (.dead, [], c)
def dropO (dst : Option Nat) (H : List (Key × Nat × AO)) : List (Key × Nat × AO) := match dst with
  | some d => dropKey [d] H
  | none => H
def rmKeys (ks : List Key) (H : List (Key × Nat × AO)) : List (Key × Nat × AO) := match ks with
  | [] => H
  | ks => H.filter fun x => !(decide (x.1 ∈ ks))
def afterCall (S : St) (dst : Option Nat) (ms : List Mode) (xs : List AV) (kf ko : List Key) (rs az : List CV) : St :=
  St.put ⟨(S.freeze kf).E, (resO dst S.c rs).2.1 ++ ((reown (resO dst S.c rs).2.2 ms xs az).1 ++ dropO dst (rmKeys ko (S.freeze kf).H)), (reown (resO dst S.c rs).2.2 ms xs az).2⟩ dst (resO dst S.c rs).1
theorem rmKeys_sub (ks : List Key) (H : List (Key × Nat × AO)) : (rmKeys ks H).Sublist H := by cases ks with
  | nil => exact List.Sublist.refl _
  | cons k r => exact List.filter_sublist
theorem rmKeys_not {ks : List Key} {H : List (Key × Nat × AO)} {x : Key × Nat × AO} (h : x ∈ rmKeys ks H) : x.1 ∉ ks := by
  cases ks with
  | nil => simp
  | cons k r => have := (List.mem_filter.1 h).2; simpa using this
theorem dropO_sub (dst : Option Nat) (H : List (Key × Nat × AO)) : (dropO dst H).Sublist H := by cases dst with
  | none => exact List.Sublist.refl _
  | some d => exact dropKey_sub _ _
section
variable {P : Program} {F : Nat → Prop} {B : Blk} {w w' : World} {S : St} {a : Act} {N : Nat}
theorem resO_spec {dst : Option Nat} {c : Nat} {rs : List CV} {vr : List Value} {v : Value} {f1 : List Nat} (hr : Rv v vr) (h : CRl w F rs vr f1) (hn : f1.Nodup) (B : Blk) :
    ∃ B' f, LaidG [] w F B B' c (resO dst c rs).2.2 (resO dst c rs).2.1 f ∧ f.Nodup ∧ (∀ b ∈ f, b ∈ f1) ∧ VR w F B' (resO dst c rs).2.2 (resO dst c rs).1 v := by
  cases dst with
  | none => exact ⟨B, [], ⟨fun _ _ => rfl, Nat.le_refl _, by simp [resO], by simp [resO], by simp [resO], by simp [resO]⟩, by simp, by simp, by simp [resO, VR]⟩
  | some d =>
    have gen : resV d c rs = (.tup (interns [d] 0 c rs).1, (interns [d] 0 c rs).2.1, (interns [d] 0 c rs).2.2) → v = .tuple vr.toArray → ∃ B' f, LaidG [] w F B B' c (resO (some d) c rs).2.2 (resO (some d) c rs).2.1 f ∧ f.Nodup ∧ (∀ b ∈ f, b ∈ f1) ∧ VR w F B' (resO (some d) c rs).2.2 (resO (some d) c rs).1 v := fun e ev => by
      obtain ⟨B', hL, hv, _⟩ := interns_spec rs [d] 0 c vr f1 B h hn
      simp only [resO, e]
      exact ⟨B', f1, hL.toG, hn, fun _ h => h, by simp only [VR]; exact ⟨_, ev, hv⟩⟩
    match rs, h with
    | [], h => simp only [CRl] at h; obtain ⟨rfl, _⟩ := h; exact gen rfl hr
    | [r], h =>
      simp only [CRl] at h
      obtain ⟨v0, vs', g1, g2, rfl, h1, ⟨rfl, rfl⟩, rfl⟩ := h
      simp only [Rv] at hr
      subst hr
      rw [List.append_nil] at hn
      obtain ⟨B', hL, hv, _⟩ := intern_spec r [d] c v g1 B h1 hn
      simp only [resO, resV]
      exact ⟨B', g1, hL.toG, hn, fun b hb => by simpa using hb, hv⟩
    | r :: r2 :: rr, h =>
      have h' := h
      simp only [CRl] at h'
      obtain ⟨v0, vs', g1, g2, rfl, h1, ⟨v1, vs1, g3, g4, rfl, _⟩, rfl⟩ := h'
      exact gen rfl hr
theorem call_Tr (hf : FR F B w S a) (hN : a.tmps.size = N) {dst : Option Nat} (hd : dstOK N dst = true) {ms : List Mode} {xs : List AV} {cs : List CV} {kf kr ko : List Key} {vs : List Value}
    (ha : argsC P S.H ms xs = some (cs, kf, kr, ko)) (hv : VRl w F B S.c xs vs) (hn : ko.Nodup) (hdj : ∀ k ∈ ko, k ∉ kf ∧ k ∉ kr) {rs az : List CV} {v : Value} {F' : Nat → Prop} {vr : List Value} {f1 f2 : List Nat}
    (hl : Left (fun b => F b ∨ FK S.H B kf b ∨ FK S.H B kr b) w vs (fpOf S.H B ko) rs az v w' F' vr f1 f2) (hfl : kr = [] ∨ (flats rs = true ∧ flats az = true)) :
    ∃ F2 B2, Tr N F B w S F2 B2 w' (afterCall S dst ms xs kf ko rs az) (a.put dst v) := by
  have hf1 := hf.freeze kf
  have hnd := List.nodup_append.1 hl.nodup
  have hapart : ∀ k1 g1 o1 k2 g2 o2 b, (k1, g1, o1) ∈ S.H → (k2, g2, o2) ∈ S.H → k1 ≠ k2 → b ∈ blkL B g1 → b ∈ blkL B g2 → False := by
    intro k1 g1 o1 k2 g2 o2 b m1 m2 hne e1 e2
    by_cases hg : g1 = g2
    · have := same_entry hf.gensNodup m1 m2 hg
      simp only [Prod.mk.injEq] at this
      exact hne this.1
    · exact hf.apartL m1 m2 hg e1 e2
  have hfpOwn : ∀ b, b ∈ fpOf S.H B ko → Own S.H B b := fun b hb => by
    obtain ⟨k, g, o, _, hm, hB⟩ := fpOf_mem hb
    exact ⟨k, g, o, hm, hB⟩
  have hfkOwn : ∀ ks b, FK S.H B ks b → Own S.H B b := fun ks b hb => by
    obtain ⟨k, g, o, _, hm, hB⟩ := hb
    exact ⟨k, g, o, hm, hB⟩
  have hfpF1 : ∀ b, b ∈ fpOf S.H B ko → ¬ (F b ∨ FK S.H B kf b) := fun b hb h => by
    rcases h with h | ⟨k1, g1, o1, hk1, hm1, hB1⟩
    · exact (hf.sep b (hfpOwn b hb)).1 h
    · obtain ⟨k, g, o, hk, hm, hB⟩ := fpOf_mem hb
      exact hapart k g o k1 g1 o1 b hm hm1 (fun e => (hdj k hk).1 (e ▸ hk1)) hB hB1
  let H2 := dropO dst (rmKeys ko (S.freeze kf).H)
  have hH2s : ∀ x ∈ H2, ∃ o, (x.1, x.2.1, o) ∈ S.H := fun x hx => freeze_H _ _ x (((dropO_sub _ _).trans (rmKeys_sub _ _)).subset hx)
  have hH2k : ∀ x ∈ H2, x.1 ∉ ko := fun x hx => rmKeys_not ((dropO_sub _ _).subset hx)
  have hfpO : ∀ b, b ∈ fpOf S.H B ko → ¬ Own H2 B b := fun b hb h => by
    obtain ⟨k1, g1, o1, hm1, hB1⟩ := h
    obtain ⟨k, g, o, hk, hm, hB⟩ := fpOf_mem hb
    obtain ⟨o2, hm2⟩ := hH2s _ hm1
    exact hapart k g o k1 g1 o2 b hm hm2 (fun e => hH2k _ hm1 (e ▸ hk)) hB hB1
  have hf2 : FR (fun b => F b ∨ FK S.H B kf b) B w ⟨(S.freeze kf).E, H2, S.c⟩ a := by
    have hf1' : FR (fun b => F b ∨ FK S.H B kf b) B w ⟨(S.freeze kf).E, (S.freeze kf).H, S.c⟩ a := by
      have := hf1
      rw [← freeze_c S kf]
      exact this
    exact hf1'.drop (fun t => .inl rfl) ((dropO_sub _ _).trans (rmKeys_sub _ _))
  obtain ⟨F2, hF1, hF2, hrs, has⟩ : ∃ F2 : Nat → Prop, (∀ b, F b ∨ FK S.H B kf b → F2 b) ∧ (∀ b, F2 b → F' b ∧ (F b ∨ FK S.H B kf b ∨ b ∈ fpOf S.H B ko ∨ w.heap.size ≤ b)) ∧ CRl w' F2 rs vr f1 ∧ CRl w' F2 az vs f2 := by
    rcases hfl with rfl | ⟨h1, h2⟩
    · refine ⟨F', fun b hb => hl.sub b (hb.imp id .inl), fun b hb => ⟨hb, ?_⟩, hl.rs, hl.az⟩
      rcases hl.new b (.inl hb) with (h | h | ⟨_, _, _, h, _⟩) | h | h
      · exact .inl h
      · exact .inr (.inl h)
      · cases h
      · exact .inr (.inr (.inl h))
      · exact .inr (.inr (.inr h))
    · exact ⟨fun b => F b ∨ FK S.H B kf b, fun _ h => h, fun b hb => ⟨hl.sub b (hb.imp id .inl), hb.elim .inl (.inr ∘ .inl)⟩, CRl.flat _ _ _ h1 hl.rs, CRl.flat _ _ _ h2 hl.az⟩
  have hf3 : FR F2 B w' ⟨(S.freeze kf).E, H2, S.c⟩ a := by
    refine hf2.world (fun b hb => ?_) hF1 (fun b hb h => ?_) (hf.Flt.mono (fun b h => hF1 b (.inl h)) (fun b hb => hl.keep b (hf.Flt b hb) fun h => hfpF1 b h (.inl hb)) (fun b hb => hl.lt b (hF2 b hb).1)) hl.size
    · rcases hb with hb | hb
      · exact hl.keep b (hf2.Flt b hb) fun h => hfpF1 b h hb
      · exact hl.keep b (hf2.sep b hb).2 fun h => hfpO b h hb
    · have hs := hf2.sep b hb
      rcases (hF2 b h).2 with h | h | h | h
      · exact hs.1 (.inl h)
      · exact hs.1 (.inr h)
      · exact hfpO b h hb
      · exact absurd hs.2 (by omega)
  obtain ⟨B1, g1, hL1, hg1n, hg1, hvr⟩ := resO_spec (dst := dst) (c := S.c) hl.res hrs hnd.1 B
  obtain ⟨B2, g2, hL2, hg2n, hg2⟩ := reown_spec hf ms xs cs kf kr ko vs az f2 ha hn hv has hnd.2.1 B1 (resO dst S.c rs).2.2 hL1.old hL1.le
  have hgg : (g1 ++ g2).Nodup := List.nodup_append.2 ⟨hg1n, hg2n, fun b hb b' hb' => hnd.2.2 b (hg1 b hb) b' (hg2 b' hb')⟩
  have hggs : ∀ b ∈ g1 ++ g2, b ∈ f1 ++ f2 := fun b hb => by
    rcases List.mem_append.1 hb with h | h
    · exact List.mem_append_left _ (hg1 b h)
    · exact List.mem_append_right _ (hg2 b h)
  have hGlt : ∀ g ∈ gensOf ms xs, g < S.c := fun g hg => by
    obtain ⟨k, o, _, h2⟩ := argsC_gens ms xs _ _ _ _ ha g hg
    exact (hf.objs _ _ _ (mem_of_objIn h2)).1
  have hL := hL1.append hL2 (by simp) hGlt (by simpa using argsC_gensNodup hf ms xs _ _ _ _ ha hn) hgg
  have hnewb : ∀ b ∈ f1 ++ f2, b ∈ fpOf S.H B ko ∨ w.heap.size ≤ b := fun b hb => by
    rcases hl.new b (.inr hb) with h | h | h
    · exact absurd (hl.sub b h) (hl.sep b hb).1
    · exact .inl h
    · exact .inr h
  have hf4 := hf3.lay hL (fun g hg x hx => by
    simp only [List.nil_append] at hg
    obtain ⟨k, o, hk, h2⟩ := argsC_gens ms xs _ _ _ _ ha g hg
    intro e
    obtain ⟨o2, hm2⟩ := hH2s _ hx
    have := same_entry hf.gensNodup hm2 (mem_of_objIn h2) e
    simp only [Prod.mk.injEq] at this
    exact hH2k _ hx (this.1 ▸ hk)) (fun b hb => by
    have hb' := hggs b hb
    refine ⟨fun h => (hl.sep b hb').1 (hF2 b h).1, (hl.sep b hb').2, fun h => ?_⟩
    rcases hnewb b hb' with h1 | h1
    · exact hfpO b h1 h
    · have := (hf2.sep b h).2
      omega)
  have hf5 := hf4.put hN hd (hvr.lift hL2.old hL2.le)
  refine ⟨F2, B2, ?_, by rw [Act.put_size]; exact hN, fun b hb => hF1 b (.inl hb), fun b hb ho => hl.keep b hb fun h => ho (hfpOwn b h), fun b hb => ?_, hl.os, hl.tape, hl.output, hl.size, fun g hg => hL.old g (Nat.lt_of_lt_of_le hg hf.pin)⟩
  · have e : afterCall S dst ms xs kf ko rs az = St.put ⟨(S.freeze kf).E, ((resO dst S.c rs).2.1 ++ (reown (resO dst S.c rs).2.2 ms xs az).1) ++ H2, (reown (resO dst S.c rs).2.2 ms xs az).2⟩ dst (resO dst S.c rs).1 := by
      simp only [afterCall, List.append_assoc]
      rfl
    rw [e]
    exact hf5
  · rcases hb with hb | ⟨k, g, o, hm, hB⟩
    · rcases (hF2 b hb).2 with h | h | h | h
      · exact .inl h
      · exact .inr (.inl (hfkOwn _ _ h))
      · exact .inr (.inl (hfpOwn _ h))
      · exact .inr (.inr h)
    · have hm' : (k, g, o) ∈ ((resO dst S.c rs).2.1 ++ (reown (resO dst S.c rs).2.2 ms xs az).1) ++ H2 := by
        have e : (afterCall S dst ms xs kf ko rs az).H = ((resO dst S.c rs).2.1 ++ (reown (resO dst S.c rs).2.2 ms xs az).1) ++ H2 := by
          cases dst <;> simp only [afterCall, St.put, List.append_assoc] <;> rfl
        rw [← e]
        exact hm
      rcases List.mem_append.1 hm' with h | h
      · have := hnewb b (hggs b (hL.blk _ h b hB))
        exact .inr (this.imp (hfpOwn b) id)
      · obtain ⟨o2, hm2⟩ := hH2s _ h
        have hg := (hf.objs _ _ _ hm2).1
        rw [blkL_congr (hL.old g hg)] at hB
        exact .inr (.inl ⟨k, g, o2, hm2, hB⟩)
def nodupK : List Key → Bool
  | [] => true
  | k :: r => !(r.contains k) && nodupK r
def okK (ko kf kr : List Key) : Bool := nodupK ko && ko.all fun k => !(kf.contains k) && !(kr.contains k)
theorem nodupK_spec : ∀ {l : List Key}, nodupK l = true → l.Nodup
  | [], _ => List.nodup_nil
  | k :: r, h => by
    simp only [nodupK, Bool.and_eq_true, Bool.not_eq_true', List.contains_eq_mem, decide_eq_false_iff_not] at h
    exact List.nodup_cons.2 ⟨h.1, nodupK_spec h.2⟩
theorem okK_spec {ko kf kr : List Key} (h : okK ko kf kr = true) : ko.Nodup ∧ ∀ k ∈ ko, k ∉ kf ∧ k ∉ kr := by
  simp only [okK, Bool.and_eq_true, List.all_eq_true, Bool.not_eq_true', List.contains_eq_mem, decide_eq_false_iff_not] at h
  exact ⟨nodupK_spec h.1, h.2⟩
 
structure Tab where
  M : FuncId → List Mode
  C : FuncId → List CV → (List CV → List CV → Prop) → Prop
def Tab.Sound (P : Program) (T : Tab) : Prop := ∀ g args K, T.C g args K → Con P g args K
 
def calleeV (S : St) (c : Call) : Option (FuncId × List AV) := match c.callee with
  | .value x => match S.ev x with
    | .d (.clo (.func g) f cp) => some (g, f.map .d ++ (c.args.toList.map S.ev ++ cp.map .d))
    | .clo (.func g) f cp => some (g, f ++ (c.args.toList.map S.ev ++ cp))
    | _ => none
  | _ => none
def callV (P : Program) (T : Tab) (o : Oper) (S : St) (K : St → Prop) : Prop := match o.op with
  | .call c => match calleeV S c with
    | some (g, xs) => match argsC P S.H (T.M g) xs with
      | some (cs, kf, kr, ko) => bif okK ko kf kr then T.C g cs fun rs az => bif kr.isEmpty || (flats rs && flats az) then K (afterCall S o.dst (T.M g) xs kf ko rs az) else False
          else False
      | none => False
    | none => False
  | _ => False
theorem evs_VRl'' (hf : FR F B w S a) : ∀ l : List Operand, VRl w F B S.c (l.map S.ev) (l.map a.eval)
  | [] => by simp [VRl]
  | x :: r => by simp only [List.map_cons, VRl]; exact ⟨_, _, rfl, ev_VR hf x, evs_VRl'' hf r⟩
theorem calleeV_spec (hf : FR F B w S a) {c : Call} {g : FuncId} {xs : List AV} (h : calleeV S c = some (g, xs)) (ty : TypeId) :
    ∃ vs, VRl w F B S.c xs vs ∧ ∀ W, (do let d ← resolve a.eval c ty; invoke d.target d.args : Sem Next).run P W = (callFunc g vs.toArray).run P W := by
  unfold calleeV at h
  split at h
  · rename_i x hc
    have hx := ev_VR hf x
    have hargs := evs_VRl'' hf c.args.toList
    split at h
    · rename_i g' f cp hx'
      simp only [Option.some.injEq, Prod.mk.injEq] at h
      obtain ⟨rfl, rfl⟩ := h
      rw [hx'] at hx
      simp only [VR, DRv, DRc, List.cons.injEq, and_true] at hx
      obtain ⟨fv, cv, hv, h1, h2⟩ := hx
      refine ⟨fv.toList ++ (c.args.toList.map a.eval ++ cv.toList), VRl.append (VRl_of_DRl h1).1 (VRl.append hargs (VRl_of_DRl h2).1), fun W => ?_⟩
      simp only [resolve, hc, hv, Deferred.ofValue, pure_bind, invoke]
      congr 2
      apply Array.ext'
      simp
    · rename_i g' f cp hx'
      simp only [Option.some.injEq, Prod.mk.injEq] at h
      obtain ⟨rfl, rfl⟩ := h
      rw [hx'] at hx
      simp only [VR] at hx
      obtain ⟨fv, cv, hv, h1, h2⟩ := hx
      refine ⟨fv.toList ++ (c.args.toList.map a.eval ++ cv.toList), VRl.append h1 (VRl.append hargs h2), fun W => ?_⟩
      simp only [resolve, hc, hv, Deferred.ofValue, pure_bind, invoke]
      congr 2
      apply Array.ext'
      simp
    · cases h
  · cases h
 
theorem callV_run {T : Tab} (hT : T.Sound P) (hf : FR F B w S a) (hN : a.tmps.size = N) (o : Oper) (hd : dstOK N o.dst = true) {K : St → Prop} (h : callV P T o S K) {Q : Exit → Act → World → Prop} {next : Act → World → Prop}
    (hk : ∀ a' w', (∃ S' F' B', K S' ∧ Tr N F B w S F' B' w' S' a') → next a' w') : o.wp P a w next Q := by
  obtain ⟨dst, op, ty, pos, after, guard⟩ := o
  unfold callV at h
  split at h
  · rename_i c hop
    simp only at hop
    subst hop
    split at h
    · rename_i g xs hc
      obtain ⟨vs, hvs, hrun⟩ := calleeV_spec hf hc ty
      split at h
      · rename_i cs kf kr ko ha
        cases hok : okK ko kf kr with
        | false => rw [hok] at h; exact h.elim
        | true =>
        rw [hok] at h
        have hC : T.C g cs fun rs az => bif kr.isEmpty || (flats rs && flats az) then K (afterCall S dst (T.M g) xs kf ko rs az) else False := h
        obtain ⟨hn, hdj⟩ := okK_spec hok
        have hcr := argsC_spec hf _ _ _ _ _ _ _ ha hvs
        have hfpOwn : ∀ b, b ∈ fpOf S.H B ko → Own S.H B b := fun b hb => by
          obtain ⟨k, g, o, _, hm, hB⟩ := fpOf_mem hb
          exact ⟨k, g, o, hm, hB⟩
        have hfpN : ∀ ks, (∀ k ∈ ko, k ∉ ks) → ∀ b ∈ fpOf S.H B ko, ¬ FK S.H B ks b := fun ks hks b hb h => by
          obtain ⟨k1, g1, o1, hk1, hm1, hB1⟩ := h
          obtain ⟨k, g, o, hk, hm, hB⟩ := fpOf_mem hb
          by_cases hg : g = g1
          · have := same_entry hf.gensNodup hm hm1 hg
            simp only [Prod.mk.injEq] at this
            exact hks k hk (this.1 ▸ hk1)
          · exact hf.apartL hm hm1 hg hB hB1
        have hen := hT g cs _ hC _ w vs _ hcr (fpOf_nodup hf hn) (fun b hb => ⟨fun h => by
          rcases h with h | h | h
          · exact (hf.sep b (hfpOwn b hb)).1 h
          · exact hfpN kf (fun k hk => (hdj k hk).1) b hb h
          · exact hfpN kr (fun k hk => (hdj k hk).2) b hb h, (hf.sep b (hfpOwn b hb)).2⟩) (hf.Flt.mono (fun _ h => .inl h) (fun _ _ => rfl) (fun b hb => by
          rcases hb with h | ⟨k, g, o, _, hm, hB⟩ | ⟨k, g, o, _, hm, hB⟩
          · exact hf.Flt b h
          · exact (hf.sep b ⟨k, g, o, hm, hB⟩).2
          · exact (hf.sep b ⟨k, g, o, hm, hB⟩).2))
        have fin : ∀ v w', (∃ rs az F' vr f1 f2, (bif kr.isEmpty || (flats rs && flats az) then K (afterCall S dst (T.M g) xs kf ko rs az) else False) ∧ Left (fun b => F b ∨ FK S.H B kf b ∨ FK S.H B kr b) w vs (fpOf S.H B ko) rs az v w' F' vr f1 f2) → next (a.put dst v) w' := by
          rintro v w' ⟨rs, az, F', vr, f1, f2, h12, hl⟩
          cases hfl : (kr.isEmpty || (flats rs && flats az)) with
          | false => rw [hfl] at h12; exact h12.elim
          | true =>
          rw [hfl] at h12
          have h2 : K (afterCall S dst (T.M g) xs kf ko rs az) := h12
          have h1 : kr = [] ∨ (flats rs = true ∧ flats az = true) := by simpa using hfl
          obtain ⟨F2, B2, ht⟩ := call_Tr hf hN hd ha hvs hn hdj hl h1
          exact hk _ _ ⟨_, F2, B2, h2, ht⟩
        have hex : (execOp a.eval (⟨dst, .call c, ty, pos, after, guard⟩ : Oper)).run P w = (callFunc g vs.toArray).run P w := hrun w
        unfold Oper.wp
        rw [hex]
        unfold Enters at hen
        split at hen
        · rename_i v w' hr
          rw [hr]
          exact fin v w' hen
        · rename_i f' xs' w' hr
          rw [hr]
          simp only [Oper.upon]
          refine hen.mono fun e w'' he => ?_
          cases e with
          | returned v => exact fin v w'' he
          | panicked c => exact he.elim
          | outgrown => exact he.elim
        · rename_i row xs' w' hr
          rw [hr]
          simp only [Oper.upon]
          exact hen.mono fun v w'' he => fin v w'' he
        · exact hen.elim
      · exact h.elim
    · exact h.elim
  · exact h.elim
end
end Go.Fw
