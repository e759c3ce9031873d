/- What the proofs of this seat lean on, part 8: a symbolic machine that is shown sound, walks through functions, plain laws. -/
import Derived.Test.YtcnlanaahhkhfabY7
import Derived.OrdersHeld
namespace Go.Fw
open Go
set_option linter.unusedVariables false
set_option linter.unusedSimpArgs false
 
inductive Kd where
  | pu | rd | ef
def isCallV (o : Oper) : Bool := match o.op with
  | .call c => match c.callee with
    | .value _ => true
    | _ => false
  | _ => false
def isDsX (o : Oper) : Bool := isDs o || isCallV o
def opV (P : Program) (T : Tab) (nv : Nat) (k : Kd) (o : Oper) (S : St) (K : St → Prop) : Prop := match k with
  | .pu => valV P o.op S fun av => K (S.put o.dst av)
  | .rd => readV P o.op S fun av => K (S.put o.dst av)
  | .ef => bif isCallV o then callU P T o S K else effU P nv o S K
 
def stepV (P : Program) (T : Tab) (nv : Nat) (all : List Oper) (k : Kd) (o : Oper) (S : St) (K : St → Prop) : Prop := match o.guard with
  | none => opV P T nv k o S K
  | some (g, want) => match (all[g]?).bind (·.dst) with
    | some t => match getIn S.E t with
      | .d (.bool b) => bif want then (b = true → opV P T nv k o (S.put (some t) (.d (.bool true))) K) ∧ (b = false → K ((S.put (some t) (.d (.bool false))).put o.dst (.tup [])))
          else (b = false → opV P T nv k o (S.put (some t) (.d (.bool false))) K) ∧ (b = true → K ((S.put (some t) (.d (.bool true))).put o.dst (.tup [])))
      | .tup [] => K (S.put o.dst (.tup []))
      | _ => False
    | none => False
section
variable {P : Program} {F : Nat → Prop} {B : Blk} {w w' : World} {S : St} {a : Act} {N nv : Nat} {K : St → Prop} {T : Tab}
theorem Tr.put (hf : FR F B w S a) (hN : a.tmps.size = N) {dst : Option Tmp} (hd : dstOK N dst = true) {av : AV} {v : Value} (hv : VR w F B S.c av v) : Tr N F B w S F B w (S.put dst av) (a.put dst v) :=
  ⟨hf.put hN hd hv, by rw [Act.put_size]; exact hN, fun _ h => h, fun _ _ _ => rfl, fun b hb => by
    rcases hb with h | h
    · exact .inl h
    · refine .inr (.inl ?_)
      cases dst <;> exact h, rfl, rfl, rfl, Nat.le_refl _, fun _ _ => rfl⟩
 
theorem opV_wp (hT : T.Sound P) (hf : FR F B w S a) (hN : a.tmps.size = N) {k : Kd} {o : Oper} (hd : dstOK N o.dst = true) (h : opV P T nv k o S K) {Q : Exit → Act → World → Prop} {next : Act → World → Prop}
    (hk : ∀ a' w', (isDsX o = false → Ext w w') → (∃ S' F' B', K S' ∧ Tr N F B w S F' B' w' S' a') → next a' w') : o.wp P a w next Q := by
  cases k with
  | pu =>
    obtain ⟨v, av, h1, h2, h3⟩ := valV_run (K := fun av => K (S.put o.dst av)) hf o h
    unfold Oper.wp
    rw [h1 w]
    exact hk _ _ (fun _ => Ext.refl w) ⟨_, F, B, h3, Tr.put hf hN hd h2⟩
  | rd =>
    obtain ⟨v, av, h1, h2, h3⟩ := readV_run (K := fun av => K (S.put o.dst av)) hf o h
    unfold Oper.wp
    rw [h1 w (Ext.refl w)]
    exact hk _ _ (fun _ => Ext.refl w) ⟨_, F, B, h3, Tr.put hf hN hd h2⟩
  | ef =>
    unfold opV at h
    cases hc : isCallV o with
    | true =>
      simp only [hc, cond_true] at h
      exact callV_run hT hf hN o hd (callU_imp h) fun a' w' he => hk a' w' (fun hds => by simp [isDsX, hc] at hds) he
    | false =>
      simp only [hc, cond_false] at h
      obtain ⟨r, w', v, h1, h2, h3, S', F', B', h4, h5⟩ := effV_run hf hN o hd (effU_imp h)
      unfold Oper.wp
      rw [h1]
      have hx : isDsX o = false → Ext w w' := fun hds => h3 (by simpa [isDsX, hc] using hds)
      rcases h2 with rfl | ⟨rfl, rfl⟩
      · exact hk _ _ hx ⟨S', F', B', h4, h5⟩
      · exact hk _ _ hx ⟨S', F', B', h4, h5⟩
 
theorem opV_yields (hf : FR F B w S a) (hN : a.tmps.size = N) {k : Kd} {o : Oper} (hd : dstOK N o.dst = true) (h : opV P T nv k o S K) (hk : k ≠ .ef) :
    ∃ v, (∀ W, Ext w W → (execOp a.eval o).run P W = .ok (.value v) W) ∧ (k = .pu → ∀ W, (execOp a.eval o).run P W = .ok (.value v) W) ∧ ∃ S', K S' ∧ Tr N F B w S F B w S' (a.put o.dst v) := by
  cases k with
  | pu =>
    obtain ⟨v, av, h1, h2, h3⟩ := valV_run (K := fun av => K (S.put o.dst av)) hf o h
    exact ⟨v, fun W _ => h1 W, fun _ => h1, _, h3, Tr.put hf hN hd h2⟩
  | rd =>
    obtain ⟨v, av, h1, h2, h3⟩ := readV_run (K := fun av => K (S.put o.dst av)) hf o h
    exact ⟨v, h1, (fun h => nomatch h), _, h3, Tr.put hf hN hd h2⟩
  | ef => exact absurd rfl hk
 
theorem FR.know (hf : FR F B w S a) {t : Nat} {b b' : Bool} (h : getIn S.E t = .d (.bool b)) (hb : b = b') : FR F B w (S.put (some t) (.d (.bool b'))) a := by
  refine ⟨fun s => ?_, hf.objs, hf.sep, hf.inj, hf.Flt, hf.defers, by first | exact hf.pin | (cases S; exact hf.pin)⟩
  simp only [St.put, getIn_putIn]
  split
  · rename_i hs
    have := hf.slots s
    rw [hs, h, hb] at this
    rw [hs]
    exact this
  · exact hf.slots s
theorem Tr.know (hf : FR F B w S a) (hN : a.tmps.size = N) {t : Nat} {b b' : Bool} (h : getIn S.E t = .d (.bool b)) (hb : b = b') : Tr N F B w S F B w (S.put (some t) (.d (.bool b'))) a :=
  ⟨hf.know h hb, hN, fun _ h => h, fun _ _ _ => rfl, fun b hb => by
    rcases hb with h | h
    · exact .inl h
    · exact .inr (.inl h), rfl, rfl, rfl, Nat.le_refl _, fun _ _ => rfl⟩
theorem undef_VR {c : Nat} : VR w F B c (.tup []) undef := by
  simp only [VR]
  exact ⟨#[], rfl, by simp [VRl]⟩
theorem yielded_eq {ops : Array Oper} {g t : Nat} (h : (ops[g]?).bind (·.dst) = some t) (hf : FR F B w S a) :
    (∀ b, getIn S.E t = .d (.bool b) → yielded ops a.tmps g = some b) ∧ (getIn S.E t = .tup [] → yielded ops a.tmps g = none) := by
  have hs := hf.slots t
  have hg : ∀ v, a.tmps.getD t undef = v → v ≠ undef → a.tmps[t]? = some v := fun v hv hne => by
    rw [Array.getD_eq_getD_getElem?] at hv
    cases ht : a.tmps[t]? with
    | none => rw [ht] at hv; exact absurd hv.symm hne
    | some u => rw [ht] at hv; simp at hv; rw [hv]
  refine ⟨fun b hb => ?_, fun hb => ?_⟩
  · rw [hb] at hs
    simp only [VR, DRv, DRc, List.cons.injEq, and_true] at hs
    have := hg _ hs (by simp [undef])
    simp only [yielded, h, Option.bind_some, this]
  · rw [hb] at hs
    simp only [VR] at hs
    obtain ⟨vs, hv, hl⟩ := hs
    simp only [VRl] at hl
    simp only [yielded, h, Option.bind_some]
    cases ht : a.tmps[t]? with
    | none => rfl
    | some u =>
      rw [Array.getD_eq_getD_getElem?, ht] at hv
      simp only [Option.getD_some] at hv
      subst hv
      rfl
theorem stepV_wp (hT : T.Sound P) (hf : FR F B w S a) (hN : a.tmps.size = N) {k : Kd} {o : Oper} {all : List Oper} {i : Nat} (ho : all.toArray[i]? = some o) (hd : dstOK N o.dst = true) (h : stepV P T nv all k o S K) {Q : Exit → Act → World → Prop} {next : Act → World → Prop}
    (hk : ∀ a' w', (isDsX o = false → Ext w w') → (∃ S' F' B', K S' ∧ Tr N F B w S F' B' w' S' a') → next a' w') : wpOp P all.toArray Q i next a w := by
  unfold wpOp
  simp only [ho]
  unfold stepV at h
  split at h
  · rename_i hg
    have : Region.wanted o (yielded all.toArray a.tmps) = true := by simp [Region.wanted, hg]
    rw [if_pos this]
    exact .inl (opV_wp hT hf hN hd h hk)
  · rename_i g want hg
    split at h
    · rename_i t ht
      have ht' : (all.toArray[g]?).bind (·.dst) = some t := by simpa using ht
      obtain ⟨y1, y2⟩ := yielded_eq ht' hf
      split at h
      · rename_i b hb
        have h : (b = want → opV P T nv k o (S.put (some t) (.d (.bool want))) K) ∧ (b = !want → K ((S.put (some t) (.d (.bool !want))).put o.dst (.tup []))) := by
          cases want <;> exact h
        have hy := y1 b hb
        by_cases hbw : b = want
        · have : Region.wanted o (yielded all.toArray a.tmps) = true := by simp [Region.wanted, hg, hy, hbw]
          rw [if_pos this]
          have htr := Tr.know hf hN hb hbw
          refine .inl (opV_wp hT htr.fr hN hd (h.1 hbw) fun a' w' hx he => hk a' w' hx ?_)
          obtain ⟨S', F', B', k1, k2⟩ := he
          exact ⟨S', F', B', k1, htr.trans k2⟩
        · have : Region.wanted o (yielded all.toArray a.tmps) = false := by
            simp only [Region.wanted, hg, hy]
            simpa using hbw
          rw [this]
          have hb' : b = !want := by cases b <;> cases want <;> simp_all
          have htr := Tr.know hf hN hb hb'
          simp only [Bool.false_eq_true, if_false]
          exact hk _ _ (fun _ => Ext.refl w) ⟨_, F, B, h.2 hb', htr.trans (Tr.put htr.fr hN hd undef_VR)⟩
      · rename_i hb
        have hy := y2 hb
        have : Region.wanted o (yielded all.toArray a.tmps) = false := by
          simp only [Region.wanted, hg, hy]
          rfl
        rw [this]
        simp only [Bool.false_eq_true, if_false]
        exact hk _ _ (fun _ => Ext.refl w) ⟨_, F, B, h, Tr.put hf hN hd undef_VR⟩
      · exact h.elim
    · exact h.elim
theorem stepV_yields (hf : FR F B w S a) (hN : a.tmps.size = N) {k : Kd} {o : Oper} {all : List Oper} {i : Nat} (ho : all.toArray[i]? = some o) (hd : dstOK N o.dst = true) (h : stepV P T nv all k o S K) (hk : k ≠ .ef) :
    ∃ v, YieldsIf P all.toArray (Ext w) o v a ∧ (k = .pu → Yields P all.toArray o v a) ∧ ∃ S', K S' ∧ Tr N F B w S F B w S' (a.put o.dst v) := by
  unfold stepV at h
  split at h
  · rename_i hg
    have hw : Region.wanted o (yielded all.toArray a.tmps) = true := by simp [Region.wanted, hg]
    obtain ⟨v, h1, h2, h3⟩ := opV_yields hf hN hd h hk
    exact ⟨v, .inl ⟨hw, h1⟩, fun e => .inl ⟨hw, h2 e⟩, h3⟩
  · rename_i g want hg
    split at h
    · rename_i t ht
      have ht' : (all.toArray[g]?).bind (·.dst) = some t := by simpa using ht
      obtain ⟨y1, y2⟩ := yielded_eq ht' hf
      split at h
      · rename_i b hb
        have h : (b = want → opV P T nv k o (S.put (some t) (.d (.bool want))) K) ∧ (b = !want → K ((S.put (some t) (.d (.bool !want))).put o.dst (.tup []))) := by
          cases want <;> exact h
        have hy := y1 b hb
        by_cases hbw : b = want
        · have hw : Region.wanted o (yielded all.toArray a.tmps) = true := by simp [Region.wanted, hg, hy, hbw]
          have htr := Tr.know hf hN hb hbw
          obtain ⟨v, h1, h2, S', h3, h4⟩ := opV_yields htr.fr hN hd (h.1 hbw) hk
          exact ⟨v, .inl ⟨hw, h1⟩, fun e => .inl ⟨hw, h2 e⟩, S', h3, htr.trans h4⟩
        · have hw : Region.wanted o (yielded all.toArray a.tmps) = false := by
            simp only [Region.wanted, hg, hy]
            simpa using hbw
          have hb' : b = !want := by cases b <;> cases want <;> simp_all
          have htr := Tr.know hf hN hb hb'
          exact ⟨undef, .inr ⟨hw, rfl⟩, fun _ => .inr ⟨hw, rfl⟩, _, h.2 hb', htr.trans (Tr.put htr.fr hN hd undef_VR)⟩
      · rename_i hb
        have hy := y2 hb
        have hw : Region.wanted o (yielded all.toArray a.tmps) = false := by
          simp only [Region.wanted, hg, hy]
          rfl
        exact ⟨undef, .inr ⟨hw, rfl⟩, fun _ => .inr ⟨hw, rfl⟩, _, h, Tr.put hf hN hd undef_VR⟩
      · exact h.elim
    · exact h.elim
end
 
def kdT (P : Program) (o : Oper) : Kd := match o.op with
  | .load .. => .rd
  | .alloc .. | .box .. | .buildSlice .. | .makeSlice .. | .store .. | .assign .. | .range .. | .next .. => .ef
  | .call c => match c.callee with
    | .builtin .append => .ef
    | .builtin _ => .pu
    | _ => .ef
  | .convert src dst _ => match shapeT P src, shapeT P dst with
    | .slice, .str => .rd
    | .str, .slice => .ef
    | _, _ => .pu
  | _ => .pu
 
def regT (P : Program) (T : Tab) (nv : Nat) (all : List Oper) : List Oper → St → (St → Prop) → Prop
  | [], S, K => K S
  | o :: r, S, K => stepV P T nv all (kdT P o) o S fun S' => regT P T nv all r S' K
section
variable {P : Program} {F : Nat → Prop} {B : Blk} {w w' : World} {S : St} {a : Act} {N nv : Nat} {K : St → Prop} {T : Tab}
theorem regT_wp (hT : T.Sound P) {all : List Oper} (hd : all.all (fun o => dstOK N o.dst) = true) {Q : Exit → Act → World → Prop} : ∀ (r : List Oper) (i : Nat), all.drop i = r → ∀ {F B w S a}, FR F B w S a → a.tmps.size = N → regT P T nv all r S K →
    (∀ a' w', (∃ S' F' B', K S' ∧ Tr N F B w S F' B' w' S' a') → Q .normal a' w') → wpOps P all.toArray Q (List.range' i r.length) a w
  | [], i, hi, F, B, w, S, a, hf, hN, h, hQ => by
    simp only [List.length_nil, List.range'_zero, wpOps]
    exact hQ a w ⟨S, F, B, h, Tr.refl hf hN⟩
  | o :: r, i, hi, F, B, w, S, a, hf, hN, h, hQ => by
    have ho : all[i]? = some o := by
      have := congrArg (fun l => l[0]?) hi
      simpa using this
    have hr : all.drop (i + 1) = r := by
      have := congrArg List.tail hi
      simpa [List.tail_drop] using this
    have hdo : dstOK N o.dst = true := (List.all_eq_true.1 hd) o (List.mem_of_getElem? ho)
    simp only [List.length_cons, List.range'_succ, wpOps_cons]
    refine stepV_wp hT hf hN (by simpa using ho) hdo h fun a' w' _ he => ?_
    obtain ⟨S', F', B', k1, k2⟩ := he
    exact regT_wp hT hd r (i + 1) hr k2.fr k2.n k1 fun a2 w2 he2 => by
      obtain ⟨S2, F2, B2, q1, q2⟩ := he2
      exact hQ a2 w2 ⟨S2, F2, B2, q1, k2.trans q2⟩
theorem Awp_regT (hT : T.Sound P) {id : Nat} {l : List Oper} (hd : l.all (fun o => dstOK N o.dst) = true) {Q : Exit → St → Prop} (h : regT P T nv l l S (Q .normal)) : Awp P N (.region id l.toArray false) Q S := by
  intro F B w a hf hn
  refine wp_region ?_
  have e : List.range l.toArray.size = List.range' 0 l.length := by simp [List.range_eq_range']
  rw [e]
  exact regT_wp hT hd l 0 rfl hf hn h fun a' w' ⟨S', F', B', q, t⟩ => ⟨S', F', B', q, t⟩
end
end Go.Fw
namespace Go.Fw
open Go
set_option linter.unusedVariables false
set_option linter.unusedSimpArgs false
section
variable {P : Program} {ops : Array Oper} {Q : Exit → Act → World → Prop} {md : Region.Mode}
def dsAt (ops : Array Oper) (i : Nat) : Bool := match ops[i]? with
  | some o => isDsX o
  | none => false
 
def wpAnyX (P : Program) (md : Region.Mode) (ops : Array Oper) (Q : Exit → Act → World → Prop) : Nat → Array Bool → Act → World → Prop
  | 0, listed, a, w => Region.ready md ops listed = [] ∧ Q .normal a w
  | fuel + 1, listed, a, w =>
    (Region.ready md ops listed = [] → Q .normal a w) ∧
    ∀ i ∈ Region.ready md ops listed, wpOp P ops Q i (fun a' w' => (dsAt ops i = false → Ext w w') ∧ wpAnyX P md ops Q fuel (listed.setIfInBounds i true) a' w') a w
theorem wpAny_of_X : ∀ (fuel : Nat) (listed : Array Bool) (a : Act) (w : World), wpAnyX P md ops Q fuel listed a w → wpAny P md ops Q fuel listed a w
  | 0, _, _, _, h => h
  | fuel + 1, _, _, _, h => ⟨h.1, fun i hi => wpOp_mono (fun a' w' h' => wpAny_of_X fuel _ a' w' h'.2) (h.2 i hi)⟩
theorem wpAnyX_first {S : World → Prop} {i : Nat} {oi : Oper} {v : Value} (hi : ops[i]? = some oi) (hsel : ∀ (j : Nat) (o : Oper) cs b, ops[j]? = some o → o.op ≠ .select cs b)
    (hQ : ∀ c a w, ¬ Q (.panic c) a w) :
    ∀ (fuel : Nat) (listed : Array Bool) (a : Act) (w : World),
      (∀ j oj, ops[j]? = some oj → j ≠ i → listed.getD j true = false → (∀ e ∈ oj.after, Region.binds md e = true → e.on ≠ i) → oi.apart ops oj = true ∧ ∀ w w', S w → (dsAt ops j = false → Ext w w') → S w') →
      i ∈ Region.ready md ops listed → YieldsIf P ops S oi v a → S w →
      wpAnyX P md ops Q fuel (listed.setIfInBounds i true) (a.put oi.dst v) w → wpAnyX P md ops Q (fuel + 1) listed a w := by
  intro fuel
  induction fuel with
  | zero =>
    intro listed a w _ hr hy hS H
    refine ⟨fun h => (by rw [h] at hr; cases hr), fun j hj => ?_⟩
    by_cases hji : j = i
    · subst hji; exact hy.wpOp hi hS ⟨fun _ => Ext.refl w, H⟩
    · have := ready_mono hj hji
      rw [H.1] at this
      cases this
  | succ fuel ih =>
    intro listed a w hfree hr hy hS H
    refine ⟨fun h => (by rw [h] at hr; cases hr), fun j hj => ?_⟩
    by_cases hji : j = i
    · subst hji; exact hy.wpOp hi hS ⟨fun _ => Ext.refl w, H⟩
    · have h1 := H.2 j (ready_mono hj hji)
      obtain ⟨hjun, oj, hoj, hall⟩ := mem_ready.1 hj
      have hnot : ∀ e ∈ oj.after, Region.binds md e = true → e.on ≠ i := fun e he hb heq => by
        have h1 := hall e he hb
        have h0 := (mem_ready.1 hr).1
        rw [heq] at h1
        rcases Nat.lt_or_ge i listed.size with h' | h'
        · simp [h'] at h0 h1; rw [h0] at h1; cases h1
        · simp [Array.getElem?_eq_none h'] at h1
      have hfj := hfree j oj hoj hji hjun hnot
      have h2 := wpOp_putIf hoj hfj.1 (fun cs b => hsel i oi cs b hi) (fun cs b => hsel j oj cs b hoj) (fun c a w h => absurd h (hQ c _ w)) hy h1
      have hfree' : ∀ k ok, ops[k]? = some ok → k ≠ i → (listed.setIfInBounds j true).getD k true = false →
          (∀ e ∈ ok.after, Region.binds md e = true → e.on ≠ i) → oi.apart ops ok = true ∧ ∀ w w', S w → (dsAt ops k = false → Ext w w') → S w' := fun k ok hk hki hun hno => by
        refine hfree k ok hk hki ?_ hno
        by_cases hjk : j = k
        · subst hjk; exact hjun
        · rw [getD_set_ne true hjk] at hun; exact hun
      refine wpOp_mono (fun a' w' h3 => ⟨h3.2.1, ih (listed.setIfInBounds j true) a' w' hfree' (ready_mono hr (Ne.symm hji)) h3.1 (hfj.2 w w' hS h3.2.1) ?_⟩) h2
      rw [Array.setIfInBounds_comm _ _ hji]
      exact h3.2.2
theorem wpAnyX_firstR {S : World → Prop} {i : Nat} {oi : Oper} {v : Value} {R : Nat → Bool} (hi : ops[i]? = some oi) (hsel : ∀ (j : Nat) (o : Oper) cs b, ops[j]? = some o → o.op ≠ .select cs b)
    (hQ : ∀ c a w, ¬ Q (.panic c) a w) :
    ∀ (fuel : Nat) (listed : Array Bool) (a : Act) (w : World),
      (∀ j, R j = true → listed.getD j true = false ∧ ∀ oj, ops[j]? = some oj → ∃ e ∈ oj.after, Region.binds md e = true ∧ (e.on = i ∨ R e.on = true)) →
      (∀ j oj, ops[j]? = some oj → j ≠ i → listed.getD j true = false → R j = false → oi.apart ops oj = true ∧ ∀ w w', S w → (dsAt ops j = false → Ext w w') → S w') →
      i ∈ Region.ready md ops listed → YieldsIf P ops S oi v a → S w →
      wpAnyX P md ops Q fuel (listed.setIfInBounds i true) (a.put oi.dst v) w → wpAnyX P md ops Q (fuel + 1) listed a w := by
  intro fuel
  induction fuel with
  | zero =>
    intro listed a w _ _ hr hy hS H
    refine ⟨fun h => (by rw [h] at hr; cases hr), fun j hj => ?_⟩
    by_cases hji : j = i
    · subst hji; exact hy.wpOp hi hS ⟨fun _ => Ext.refl w, H⟩
    · have := ready_mono hj hji
      rw [H.1] at this
      cases this
  | succ fuel ih =>
    intro listed a w hR hfree hr hy hS H
    refine ⟨fun h => (by rw [h] at hr; cases hr), fun j hj => ?_⟩
    by_cases hji : j = i
    · subst hji; exact hy.wpOp hi hS ⟨fun _ => Ext.refl w, H⟩
    · have h1 := H.2 j (ready_mono hj hji)
      obtain ⟨hjun, oj, hoj, hall⟩ := mem_ready.1 hj
      have key : ∀ m, listed[m]? = some true → listed.getD m true = true := fun m hm => by
        rcases Nat.lt_or_ge m listed.size with h' | h'
        · simp [h'] at hm ⊢; exact hm
        · simp [Array.getElem?_eq_none h'] at hm
      have hRj : R j = false := by
        refine Bool.eq_false_iff.2 fun hRj => ?_
        obtain ⟨_, hex⟩ := hR j hRj
        obtain ⟨e, he, hb, hon⟩ := hex oj hoj
        have h2 := hall e he hb
        rcases hon with hon | hon
        · have h0 := (mem_ready.1 hr).1
          rw [hon] at h2
          rcases Nat.lt_or_ge i listed.size with h' | h'
          · simp [h'] at h0 h2; rw [h0] at h2; cases h2
          · simp [Array.getElem?_eq_none h'] at h2
        · have h0 := (hR _ hon).1
          rcases Nat.lt_or_ge e.on listed.size with h' | h'
          · simp [h'] at h0 h2; rw [h0] at h2; cases h2
          · simp [Array.getElem?_eq_none h'] at h2
      have hfj := hfree j oj hoj hji hjun hRj
      have h2 := wpOp_putIf hoj hfj.1 (fun cs b => hsel i oi cs b hi) (fun cs b => hsel j oj cs b hoj) (fun c a w h => absurd h (hQ c _ w)) hy h1
      have hfree' : ∀ k ok, ops[k]? = some ok → k ≠ i → (listed.setIfInBounds j true).getD k true = false →
          R k = false → oi.apart ops ok = true ∧ ∀ w w', S w → (dsAt ops k = false → Ext w w') → S w' := fun k ok hk hki hun hno => by
        refine hfree k ok hk hki ?_ hno
        by_cases hjk : j = k
        · subst hjk; exact hjun
        · rw [getD_set_ne true hjk] at hun; exact hun
      have hR' : ∀ k, R k = true → (listed.setIfInBounds j true).getD k true = false ∧ ∀ ok, ops[k]? = some ok → ∃ e ∈ ok.after, Region.binds md e = true ∧ (e.on = i ∨ R e.on = true) := fun k hk => by
        have hjk : j ≠ k := fun e => by subst e; rw [hRj] at hk; cases hk
        exact ⟨by rw [getD_set_ne true hjk]; exact (hR k hk).1, (hR k hk).2⟩
      refine wpOp_mono (fun a' w' h3 => ⟨h3.2.1, ih (listed.setIfInBounds j true) a' w' hR' hfree' (ready_mono hr (Ne.symm hji)) h3.1 (hfj.2 w w' hS h3.2.1) ?_⟩) h2
      rw [Array.setIfInBounds_comm _ _ hji]
      exact h3.2.2
theorem wpAnyX_one {fuel : Nat} {listed : Array Bool} {a : Act} {w : World} {i : Nat} (hr : Region.ready md ops listed = [i])
    (h : wpOp P ops Q i (fun a' w' => (dsAt ops i = false → Ext w w') ∧ wpAnyX P md ops Q fuel (listed.setIfInBounds i true) a' w') a w) : wpAnyX P md ops Q (fuel + 1) listed a w :=
  ⟨fun h0 => (by rw [hr] at h0; cases h0), fun j hj => by rw [hr] at hj; simp at hj; subst hj; exact h⟩
theorem wpAnyX_two {fuel : Nat} {listed : Array Bool} {a : Act} {w : World} {i j : Nat} (hr : Region.ready md ops listed = [i, j])
    (h : wpOp P ops Q i (fun a' w' => (dsAt ops i = false → Ext w w') ∧ wpAnyX P md ops Q fuel (listed.setIfInBounds i true) a' w') a w)
    (h' : wpOp P ops Q j (fun a' w' => (dsAt ops j = false → Ext w w') ∧ wpAnyX P md ops Q fuel (listed.setIfInBounds j true) a' w') a w) : wpAnyX P md ops Q (fuel + 1) listed a w :=
  ⟨fun h0 => (by rw [hr] at h0; cases h0), fun k hk => by
    rw [hr] at hk
    simp at hk
    rcases hk with rfl | rfl
    · exact h
    · exact h'⟩
theorem wpAnyX_done {listed : Array Bool} {a : Act} {w : World} (hr : Region.ready md ops listed = []) (h : Q .normal a w) : ∀ fuel, wpAnyX P md ops Q fuel listed a w
  | 0 => ⟨hr, h⟩
  | _ + 1 => ⟨fun _ => h, by rw [hr]; simp⟩
end
 
inductive Plan where
  | done
  | take (i : Nat) (k : Kd) (p : Plan)
  | one (i : Nat) (p : Plan)
  | two (i : Nat) (p : Plan) (j : Nat) (q : Plan)
  | tak (i : Nat) (k : Kd) (R : List Nat) (p : Plan)
 
def tks (i : Nat) : List Nat → Plan → Plan
  | [], p => p
  | 0 :: r, p => .take i .pu (tks (i + 1) r p)
  | _ :: r, p => .take i .rd (tks (i + 1) r p)
def Kd.isPu : Kd → Bool
  | .pu => true
  | _ => false
def Kd.isEf : Kd → Bool
  | .ef => true
  | _ => false
 
def waits (ops : Array Oper) (listed : Array Bool) (i : Nat) : Bool := (List.range ops.size).all fun j =>
  j == i || listed.getD j true || !dsAt ops j || (match ops[j]? with
    | some oj => oj.after.any fun e => Region.binds .any e && e.on == i
    | none => true)
 
def chainB (ops : Array Oper) (listed : Array Bool) (i : Nat) (R : List Nat) : Bool := R.all fun j =>
  !(listed.getD j true) && (match ops[j]? with
    | some oj => oj.after.any fun e => Region.binds .any e && (e.on == i || R.contains e.on)
    | none => false)
def freeR (ops : Array Oper) (listed : Array Bool) (i : Nat) (R : List Nat) : Bool := match ops[i]? with
  | none => false
  | some oi => (List.range ops.size).all fun j => j == i || listed.getD j true || R.contains j || (match ops[j]? with
      | some oj => oi.apart ops oj
      | none => true)
def waitsR (ops : Array Oper) (listed : Array Bool) (i : Nat) (R : List Nat) : Bool := (List.range ops.size).all fun j =>
  j == i || listed.getD j true || R.contains j || !dsAt ops j
 
def planB (ops : Array Oper) : Nat → Array Bool → Plan → Bool
  | _, listed, .done => (Region.ready .any ops listed).isEmpty
  | 0, _, _ => false
  | n + 1, listed, .take i k p => (Region.ready .any ops listed).contains i && Region.free .any ops listed i && !k.isEf && (k.isPu || waits ops listed i) && planB ops n (listed.setIfInBounds i true) p
  | n + 1, listed, .one i p => (Region.ready .any ops listed == [i]) && planB ops n (listed.setIfInBounds i true) p
  | n + 1, listed, .two i p j q => (Region.ready .any ops listed == [i, j]) && planB ops n (listed.setIfInBounds i true) p && planB ops n (listed.setIfInBounds j true) q
  | n + 1, listed, .tak i k R p => (Region.ready .any ops listed).contains i && chainB ops listed i R && freeR ops listed i R && !k.isEf && (k.isPu || waitsR ops listed i R) && planB ops n (listed.setIfInBounds i true) p
def planOK (l : List Oper) (p : Plan) : Bool := Region.noSelect l.toArray && planB l.toArray l.length (Array.replicate l.length false) p
def regD (P : Program) (T : Tab) (nv : Nat) (all : List Oper) : Plan → St → (St → Prop) → Prop
  | .done, S, K => K S
  | .tak i k _ p, S, K => match all[i]? with
    | some o => stepV P T nv all k o S fun S' => regD P T nv all p S' K
    | none => False
  | .take i k p, S, K => match all[i]? with
    | some o => stepV P T nv all k o S fun S' => regD P T nv all p S' K
    | none => False
  | .one i p, S, K => match all[i]? with
    | some o => stepV P T nv all (kdT P o) o S fun S' => regD P T nv all p S' K
    | none => False
  | .two i p j q, S, K => (match all[i]? with
    | some o => stepV P T nv all (kdT P o) o S fun S' => regD P T nv all p S' K
    | none => False) ∧ match all[j]? with
    | some o => stepV P T nv all (kdT P o) o S fun S' => regD P T nv all q S' K
    | none => False
section
variable {P : Program} {F : Nat → Prop} {B : Blk} {w w' : World} {S : St} {a : Act} {N nv : Nat} {K : St → Prop} {T : Tab}
theorem waits_spec {ops : Array Oper} {listed : Array Bool} {i : Nat} (h : waits ops listed i = true) {j : Nat} {oj : Oper} (hj : ops[j]? = some oj) (hji : j ≠ i) (hl : listed.getD j true = false) (hn : ∀ e ∈ oj.after, Region.binds .any e = true → e.on ≠ i) : dsAt ops j = false := by
  have hlt : j < ops.size := (Array.getElem?_eq_some_iff.1 hj).1
  have := (List.all_eq_true.1 h) j (List.mem_range.2 hlt)
  simp only [Bool.or_eq_true, beq_iff_eq, hji, false_or, hl, Bool.false_eq_true, hj, Bool.not_eq_true'] at this
  rcases this with h1 | h1
  · exact h1
  · exfalso
    obtain ⟨k, hk, he⟩ := Array.any_eq_true.1 h1
    simp only [Bool.and_eq_true, beq_iff_eq] at he
    exact hn _ (Array.getElem_mem hk) he.1 he.2
theorem regD_wp (hT : T.Sound P) {all : List Oper} (hd : all.all (fun o => dstOK N o.dst) = true) (hs : Region.noSelect all.toArray = true) {Q : Exit → Act → World → Prop} (hQ : ∀ c a w, ¬ Q (.panic c) a w) :
    ∀ (p : Plan) (n : Nat) (listed : Array Bool), planB all.toArray n listed p = true → ∀ {F B w S a}, FR F B w S a → a.tmps.size = N → regD P T nv all p S K →
    (∀ a' w', (∃ S' F' B', K S' ∧ Tr N F B w S F' B' w' S' a') → Q .normal a' w') → wpAnyX P .any all.toArray Q n listed a w
  | .done, n, listed, hp, F, B, w, S, a, hf, hN, h, hK => by
    have hr : Region.ready .any all.toArray listed = [] := by
      cases n <;> simpa [planB] using hp
    exact wpAnyX_done hr (hK a w ⟨S, F, B, h, Tr.refl hf hN⟩) n
  | .take i k p, 0, listed, hp, F, B, w, S, a, hf, hN, h, hK => by simp [planB] at hp
  | .one i p, 0, listed, hp, F, B, w, S, a, hf, hN, h, hK => by simp [planB] at hp
  | .two i p j q, 0, listed, hp, F, B, w, S, a, hf, hN, h, hK => by simp [planB] at hp
  | .tak i k R p, 0, listed, hp, F, B, w, S, a, hf, hN, h, hK => by simp [planB] at hp
  | .tak i k R p, n + 1, listed, hp, F, B, w, S, a, hf, hN, h, hK => by
    simp only [planB, Bool.and_eq_true, Bool.or_eq_true, Bool.not_eq_true'] at hp
    obtain ⟨⟨⟨⟨⟨h1, hch⟩, h2⟩, h3⟩, h4⟩, h5⟩ := hp
    simp only [regD] at h
    split at h
    · rename_i o ho
      have ho' : all.toArray[i]? = some o := by simpa using ho
      have hdo : dstOK N o.dst = true := (List.all_eq_true.1 hd) o (List.mem_of_getElem? ho)
      have hk : k ≠ .ef := fun e => by subst e; simp [Kd.isEf] at h3
      obtain ⟨v, hy, hyp, S', hS', ht⟩ := stepV_yields hf hN ho' hdo h hk
      have next := regD_wp hT hd hs hQ p n _ h5 ht.fr ht.n hS' fun a2 w2 he2 => by
        obtain ⟨S2, F2, B2, q1, q2⟩ := he2
        exact hK a2 w2 ⟨S2, F2, B2, q1, ht.trans q2⟩
      have hR : ∀ j, R.contains j = true → listed.getD j true = false ∧ ∀ oj, all.toArray[j]? = some oj → ∃ e ∈ oj.after, Region.binds .any e = true ∧ (e.on = i ∨ R.contains e.on = true) := fun j hj => by
        have hm : j ∈ R := by simpa using hj
        have hc := (List.all_eq_true.1 hch) j hm
        simp only [Bool.and_eq_true, Bool.not_eq_true'] at hc
        refine ⟨hc.1, fun oj hoj => ?_⟩
        have hc2 := hc.2
        simp only [hoj] at hc2
        obtain ⟨e, he, hb⟩ := Array.any_eq_true'.1 hc2
        simp only [Bool.and_eq_true, Bool.or_eq_true, beq_iff_eq] at hb
        exact ⟨e, he, hb.1, hb.2⟩
      have hfree : ∀ j oj, all.toArray[j]? = some oj → j ≠ i → listed.getD j true = false → R.contains j = false → o.apart all.toArray oj = true := fun j oj hj hji hl hn => by
        simp only [freeR, ho', List.all_eq_true, List.mem_range] at h2
        have := h2 j (Array.getElem?_eq_some_iff.1 hj).1
        simpa only [hj, hn, hl, Bool.or_eq_true, beq_iff_eq, hji, false_or, Bool.false_eq_true] using this
      have hready : i ∈ Region.ready .any all.toArray listed := by simpa using h1
      cases k with
      | ef => exact absurd rfl hk
      | pu => exact wpAnyX_firstR (S := fun _ => True) (R := fun j => R.contains j) ho' (Region.noSelect_spec hs) hQ n listed a w hR (fun j oj hj hji hl hn => ⟨hfree j oj hj hji hl hn, fun _ _ _ _ => trivial⟩) hready ((hyp rfl).yieldsIf) trivial next
      | rd =>
        have hw : waitsR all.toArray listed i R = true := by simpa [Kd.isPu] using h4
        have hds : ∀ j oj, all.toArray[j]? = some oj → j ≠ i → listed.getD j true = false → R.contains j = false → dsAt all.toArray j = false := fun j oj hj hji hl hn => by
          have := (List.all_eq_true.1 hw) j (List.mem_range.2 (Array.getElem?_eq_some_iff.1 hj).1)
          simpa only [hn, hl, Bool.or_eq_true, beq_iff_eq, hji, false_or, Bool.false_eq_true, Bool.not_eq_true'] using this
        exact wpAnyX_firstR (S := Ext w) (R := fun j => R.contains j) ho' (Region.noSelect_spec hs) hQ n listed a w hR (fun j oj hj hji hl hn => ⟨hfree j oj hj hji hl hn, fun w1 w2 hw1 hx => fun b hb => by
          rw [hx (hds j oj hj hji hl hn) b (Nat.lt_of_lt_of_le hb hw1.size), hw1 b hb]⟩) hready hy (Ext.refl w) next
    · exact h.elim
  | .take i k p, n + 1, listed, hp, F, B, w, S, a, hf, hN, h, hK => by
    simp only [planB, Bool.and_eq_true, Bool.or_eq_true, Bool.not_eq_true'] at hp
    obtain ⟨⟨⟨⟨h1, h2⟩, h3⟩, h4⟩, h5⟩ := hp
    simp only [regD] at h
    split at h
    · rename_i o ho
      have ho' : all.toArray[i]? = some o := by simpa using ho
      have hdo : dstOK N o.dst = true := (List.all_eq_true.1 hd) o (List.mem_of_getElem? ho)
      have hk : k ≠ .ef := fun e => by subst e; simp [Kd.isEf] at h3
      obtain ⟨v, hy, hyp, S', hS', ht⟩ := stepV_yields hf hN ho' hdo h hk
      have next := regD_wp hT hd hs hQ p n _ h5 ht.fr ht.n hS' fun a2 w2 he2 => by
        obtain ⟨S2, F2, B2, q1, q2⟩ := he2
        exact hK a2 w2 ⟨S2, F2, B2, q1, ht.trans q2⟩
      have hfree := Region.free_spec ho' h2
      have hready : i ∈ Region.ready .any all.toArray listed := by simpa using h1
      cases k with
      | ef => exact absurd rfl hk
      | pu => exact wpAnyX_first (S := fun _ => True) ho' (Region.noSelect_spec hs) hQ n listed a w (fun j oj hj hji hl hn => ⟨hfree j oj hj hji hl hn, fun _ _ _ _ => trivial⟩) hready ((hyp rfl).yieldsIf) trivial next
      | rd =>
        have hw : waits all.toArray listed i = true := by simpa [Kd.isPu] using h4
        exact wpAnyX_first (S := Ext w) ho' (Region.noSelect_spec hs) hQ n listed a w (fun j oj hj hji hl hn => ⟨hfree j oj hj hji hl hn, fun w1 w2 hw1 hx => fun b hb => by
          rw [hx (waits_spec hw hj hji hl hn) b (Nat.lt_of_lt_of_le hb hw1.size), hw1 b hb]⟩) hready hy (Ext.refl w) next
    · exact h.elim
  | .one i p, n + 1, listed, hp, F, B, w, S, a, hf, hN, h, hK => by
    simp only [planB, Bool.and_eq_true, beq_iff_eq] at hp
    simp only [regD] at h
    split at h
    · rename_i o ho
      have ho' : all.toArray[i]? = some o := by simpa using ho
      have hdo : dstOK N o.dst = true := (List.all_eq_true.1 hd) o (List.mem_of_getElem? ho)
      refine wpAnyX_one hp.1 (stepV_wp hT hf hN ho' hdo h fun a' w' hx he => ⟨fun hds => hx (by simpa [dsAt, ho] using hds), ?_⟩)
      obtain ⟨S', F', B', k1, k2⟩ := he
      exact regD_wp hT hd hs hQ p n _ hp.2 k2.fr k2.n k1 fun a2 w2 he2 => by
        obtain ⟨S2, F2, B2, q1, q2⟩ := he2
        exact hK a2 w2 ⟨S2, F2, B2, q1, k2.trans q2⟩
    · exact h.elim
  | .two i p j q, n + 1, listed, hp, F, B, w, S, a, hf, hN, h, hK => by
    simp only [planB, Bool.and_eq_true, beq_iff_eq] at hp
    simp only [regD] at h
    obtain ⟨h, h'⟩ := h
    split at h
    · rename_i o ho
      split at h'
      · rename_i o' hoj
        have ho1 : all.toArray[i]? = some o := by simpa using ho
        have ho2 : all.toArray[j]? = some o' := by simpa using hoj
        have hdo : dstOK N o.dst = true := (List.all_eq_true.1 hd) o (List.mem_of_getElem? ho)
        have hdo' : dstOK N o'.dst = true := (List.all_eq_true.1 hd) o' (List.mem_of_getElem? hoj)
        refine wpAnyX_two hp.1.1 (stepV_wp hT hf hN ho1 hdo h fun a' w' hx he => ⟨fun hds => hx (by simpa [dsAt, ho] using hds), ?_⟩)
          (stepV_wp hT hf hN ho2 hdo' h' fun a' w' hx he => ⟨fun hds => hx (by simpa [dsAt, hoj] using hds), ?_⟩)
        · obtain ⟨S', F', B', k1, k2⟩ := he
          exact regD_wp hT hd hs hQ p n _ hp.1.2 k2.fr k2.n k1 fun a2 w2 he2 => by
            obtain ⟨S2, F2, B2, q1, q2⟩ := he2
            exact hK a2 w2 ⟨S2, F2, B2, q1, k2.trans q2⟩
        · obtain ⟨S', F', B', k1, k2⟩ := he
          exact regD_wp hT hd hs hQ q n _ hp.2 k2.fr k2.n k1 fun a2 w2 he2 => by
            obtain ⟨S2, F2, B2, q1, q2⟩ := he2
            exact hK a2 w2 ⟨S2, F2, B2, q1, k2.trans q2⟩
      · exact h'.elim
    · exact h.elim
theorem FR.drawn (hf : FR F B w S a) : FR F B { w with drawn := w.drawn + 1 } S a := by
  refine hf.world (w' := { w with drawn := w.drawn + 1 }) (fun _ _ => rfl) (fun _ h => h) (fun b hb => (hf.sep b hb).1) hf.Flt (Nat.le_refl _)
theorem Awp_regD (hm : P.follows .mixedOrders = true) (hT : T.Sound P) {id : Nat} {l : List Oper} (p : Plan) (hd : l.all (fun o => dstOK N o.dst) = true) (hp : planOK l p = true) {Q : Exit → St → Prop} (h : regD P T nv l p S (Q .normal)) : Awp P N (.region id l.toArray true) Q S := by
  intro F B w a hf hn
  simp only [planOK, Bool.and_eq_true] at hp
  have key : (Code.region id l.toArray true).wp P (fun e a' w' => e = .normal ∧ ∃ S' F' B', Q .normal S' ∧ Tr N F B w S F' B' w' S' a') a w := by
    refine wp_region_any hm (wpAny_of_X _ _ _ _ ?_)
    have hsz : l.toArray.size = l.length := by simp
    rw [hsz]
    refine regD_wp hT hd hp.1 (fun c a w h => by cases h.1) p l.length _ hp.2 hf.drawn hn h fun a' w' he => ⟨rfl, ?_⟩
    obtain ⟨S', F', B', k1, k2⟩ := he
    exact ⟨S', F', B', k1, k2.fr, k2.n, k2.sub, k2.keep, k2.new, k2.os, k2.tape, k2.output, k2.size, k2.old⟩
  exact wp_mono key fun e a' w' ⟨h1, S', F', B', q, t⟩ => ⟨S', F', B', h1 ▸ q, t⟩
end
end Go.Fw
