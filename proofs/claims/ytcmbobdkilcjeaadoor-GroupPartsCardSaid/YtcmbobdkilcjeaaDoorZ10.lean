/- What the proofs of this seat lean on, part 10: a symbolic machine that is shown sound, walks through functions, plain laws. -/
import Derived.Test.YtcmbobdkilcjeaaDoorZ9
import Derived.OrdersHeld
namespace Go.Fw
open Go
set_option linter.unusedVariables false
set_option linter.unusedSimpArgs false
 
inductive Kd where
  | pu | rd | ef
def isCallV (o : Oper) : Bool := match o.op with
  | .call c => match c.callee with
    | .value _ => true
    | _ => false
  | _ => false
def isDsX (o : Oper) : Bool := isDs o || isCallV o
 
def frzLit (P : Program) (o : Oper) : Bool := match o.op with
  | .buildSlice t len _ => match elemI P t with
    | some (e, _, b) => (b || (match shapeT P e with
      | .slice => true
      | _ => false)) && Nat.ble 1 len
    | none => false
  | _ => false
def frzD (o : Oper) (K : St → Prop) (S : St) : Prop := match o.dst with
  | some d => match getIn S.E d with
    | .nref .. => K S
    | _ => frzokK S [[d]] (K (freezeU S [[d]]))
  | none => K S
def opV (P : Program) (T : Tab) (nv : Nat) (k : Kd) (o : Oper) (S : St) (K : St → Prop) : Prop := match k with
  | .pu => valV P o.op S fun av => K (S.put o.dst av)
  | .rd => readV P o.op S fun av => K (S.put o.dst av)
  | .ef => bif isCallV o then callU P T o S K else bif frzLit P o then effU P nv o S (frzD o K) else effU P nv o S K
def oT : Operand → List Nat
  | .tmp t => [t]
  | _ => []
 
def opTmps : Op → List Nat
  | .move x => oT x
  | .pick c _ _ => oT c
  | .binOp _ _ x y _ => oT x ++ oT y
  | .unOp _ _ x => oT x
  | .convert _ _ x => oT x
  | .fieldAddr _ x _ => oT x
  | .field _ x _ => oT x
  | .indexAddr _ x i => oT x ++ oT i
  | .index _ x i => oT x ++ oT i
  | .slice _ x lo hi _ => oT x ++ ((lo.map oT).getD [] ++ (hi.map oT).getD [])
  | .extract x _ => oT x
  | .nilCheck x => oT x
  | .build _ parts => parts.toList.flatMap fun p => oT p.2
  | .load _ x => oT x
  | .buildSlice _ _ parts => parts.toList.flatMap fun p => oT p.2
  | .store _ p x => oT p ++ oT x
  | .mapUpdate _ m k x => oT m ++ oT k ++ oT x
  | .call c => c.args.toList.flatMap oT
  | _ => []
 
def needs (S : St) : List Nat → (St → Prop) → Prop
  | [], K => K S
  | t :: r, K => match getIn S.E t with
    | .opt c x => c = true ∧ needs (S.put (some t) x) r K
    | _ => needs S r K
 
def parts2 (P : Program) : Op → Bool
  | .binOp _ t _ _ _ => match P.underlying t with
    | some (.slice _) => true
    | some (.pointer _) => true
    | _ => false
  | _ => false
def valW (P : Program) (k : Kd) (o : Oper) (S : St) (K : AV → Prop) : Prop := match k with
  | .pu => valV P o.op S K
  | .rd => readV P o.op S K
  | .ef => False
 
def puG (P : Program) (k : Kd) (c : Bool) (o : Oper) (S : St) (K : St → Prop) : Prop :=
  ∃ y, (c = true → needs S (opTmps o.op) fun S' => valW P k o S' fun av => av = y) ∧ K (S.put o.dst (.opt c y))
def scalT (P : Program) (t : TypeId) : Bool := match shapeT P t with
  | .slice => false
  | .other => false
  | _ => true
def isDat : AV → Bool
  | .d _ => true
  | .opt _ (.d _) => true
  | _ => false
def datArgs (P : Program) (S : St) (o : Oper) : Bool := match o.op with
  | .call c => match c.callee with
    | .value (.func _) => scalT P o.type && c.args.toList.all fun x => isDat (S.ev x)
    | _ => false
  | _ => false
 
def puC (P : Program) (T : Tab) (c : Bool) (o : Oper) (S : St) (K : St → Prop) : Prop :=
  ∃ y, (c = true → needs S (opTmps o.op) fun S' => callU P T o S' fun S2 => S2 = S'.put o.dst y) ∧ K (S.put o.dst (.opt c y))
 
def efG (P : Program) (T : Tab) (nv : Nat) (k : Kd) (want : Bool) (t : Nat) (o : Oper) (S : St) (K : St → Prop) : Prop := match getIn S.E t with
  | .d (.bool b) => bif want then (b = true → needs (S.put (some t) (.d (.bool true))) (opTmps o.op) fun S' => opV P T nv k o S' K) ∧ (b = false → K ((S.put (some t) (.d (.bool false))).put o.dst (.tup [])))
      else (b = false → needs (S.put (some t) (.d (.bool false))) (opTmps o.op) fun S' => opV P T nv k o S' K) ∧ (b = true → K ((S.put (some t) (.d (.bool true))).put o.dst (.tup [])))
  | .opt c (.d (.bool b)) => (c = true → bif want then (b = true → needs (S.put (some t) (.d (.bool true))) (opTmps o.op) fun S' => opV P T nv k o S' K) ∧ (b = false → K ((S.put (some t) (.d (.bool false))).put o.dst (.tup [])))
      else (b = false → needs (S.put (some t) (.d (.bool false))) (opTmps o.op) fun S' => opV P T nv k o S' K) ∧ (b = true → K ((S.put (some t) (.d (.bool true))).put o.dst (.tup [])))) ∧
      (c = false → K ((S.put (some t) (.tup [])).put o.dst (.tup [])))
  | .tup [] => K (S.put o.dst (.tup []))
  | _ => False
 
def stepV (P : Program) (T : Tab) (nv : Nat) (all : List Oper) (k : Kd) (o : Oper) (S : St) (K : St → Prop) : Prop := match o.guard with
  | none => opV P T nv k o S K
  | some (g, want) => match (all[g]?).bind (·.dst) with
    | some t => match k with
      | .ef => bif datArgs P S o then (match getIn S.E t with
          | .d (.bool b) => bif want then puC P T b o S K else puC P T (!b) o S K
          | .opt c (.d (.bool b)) => bif want then puC P T (c && b) o S K else puC P T (c && !b) o S K
          | .tup [] => K (S.put o.dst (.tup []))
          | _ => False) else efG P T nv .ef want t o S K
      | k => bif parts2 P o.op then efG P T nv k want t o S K else match getIn S.E t with
        | .d (.bool b) => bif want then puG P k b o S K else puG P k (!b) o S K
        | .opt c (.d (.bool b)) => bif want then puG P k (c && b) o S K else puG P k (c && !b) o S K
        | .tup [] => K (S.put o.dst (.tup []))
        | _ => False
    | none => False
section
variable {P : Program} {F : Nat → Prop} {B : Blk} {w w' : World} {S : St} {a : Act} {N nv : Nat} {K : St → Prop} {T : Tab}
theorem Tr.put (hf : FR F B w S a) (hN : a.tmps.size = N) {dst : Option Tmp} (hd : dstOK N dst = true) {av : AV} {v : Value} (hv : VR w F B S.c av v) : Tr N F B w S F B w (S.put dst av) (a.put dst v) :=
  ⟨hf.put hN hd hv, by rw [Act.put_size]; exact hN, fun _ h => h, fun _ _ _ => rfl, fun b hb => by
    rcases hb with h | h
    · exact .inl h
    · refine .inr (.inl ?_)
      cases dst <;> exact h, rfl, rfl, rfl, Nat.le_refl _, fun _ _ => rfl⟩
theorem Tr.frz (hf : FR F B w S a) (hN : a.tmps.size = N) (ks : List Key) : Tr N F B w S (fun b => F b ∨ FK S.H B ks b) B w (S.freeze ks) a :=
  ⟨hf.freeze ks, hN, fun _ h => .inl h, fun _ _ _ => rfl, fun b hb => by
    rcases hb with (h | ⟨k, g, o, _, hm, hB⟩) | h
    · exact .inl h
    · exact .inr (.inl ⟨k, g, o, hm, hB⟩)
    · exact .inr (.inl (freeze_own (fun x hx => hx) h)), rfl, rfl, rfl, Nat.le_refl _, fun _ _ => rfl⟩
theorem frzD_imp (hf : FR F B w S a) (hN : a.tmps.size = N) {o : Oper} (h : frzD o K S) : ∃ S' F', K S' ∧ Tr N F B w S F' B w S' a := by
  unfold frzD at h
  split at h
  · rename_i d hd
    split at h
    · exact ⟨S, F, h, Tr.refl hf hN⟩
    · obtain ⟨h1, h2⟩ := frzokK_imp h
      rw [freezeU_eq h1] at h2
      exact ⟨_, _, h2, Tr.frz hf hN [[d]]⟩
  · exact ⟨S, F, h, Tr.refl hf hN⟩
 
theorem opV_wp (hT : T.Sound P) (hf : FR F B w S a) (hN : a.tmps.size = N) {k : Kd} {o : Oper} (hd : dstOK N o.dst = true) (h : opV P T nv k o S K) {Q : Exit → Act → World → Prop} {next : Act → World → Prop}
    (hk : ∀ a' w', (isDsX o = false → Ext w w') → (∃ S' F' B', K S' ∧ Tr N F B w S F' B' w' S' a') → next a' w') : o.wp P a w next Q := by
  cases k with
  | pu =>
    obtain ⟨v, av, h1, h2, h3⟩ := valV_run (K := fun av => K (S.put o.dst av)) hf o h
    unfold Oper.wp
    rw [h1 w]
    exact hk _ _ (fun _ => Ext.refl w) ⟨_, F, B, h3, Tr.put hf hN hd h2⟩
  | rd =>
    obtain ⟨v, av, h1, h2, h3⟩ := readV_run (K := fun av => K (S.put o.dst av)) hf o h
    unfold Oper.wp
    rw [h1 w (Ext.refl w)]
    exact hk _ _ (fun _ => Ext.refl w) ⟨_, F, B, h3, Tr.put hf hN hd h2⟩
  | ef =>
    unfold opV at h
    cases hc : isCallV o with
    | true =>
      simp only [hc, cond_true] at h
      exact callV_run hT hf hN o hd (callU_imp h) fun a' w' he => hk a' w' (fun hds => by simp [isDsX, hc] at hds) he
    | false =>
      have h : ∃ K1 : St → Prop, effU P nv o S K1 ∧ ∀ {F1 B1 w1 S1 a1}, FR F1 B1 w1 S1 a1 → a1.tmps.size = N → K1 S1 → ∃ S' F', K S' ∧ Tr N F1 B1 w1 S1 F' B1 w1 S' a1 := by
        simp only [hc, cond_false] at h
        cases hz : frzLit P o with
        | true => rw [hz] at h; exact ⟨_, h, fun hf1 hn1 hk1 => frzD_imp hf1 hn1 hk1⟩
        | false => rw [hz] at h; exact ⟨_, h, fun {F1 B1 w1 S1 a1} hf1 hn1 hk1 => ⟨S1, F1, hk1, Tr.refl hf1 hn1⟩⟩
      obtain ⟨K1, h, hK1⟩ := h
      obtain ⟨r, w', v, h1, h2, h3, S1, F1, B', h4, h5⟩ := effV_run hf hN o hd (effU_imp h)
      obtain ⟨S', F', h4, h6⟩ := hK1 h5.fr h5.n h4
      have h5 := h5.trans h6
      unfold Oper.wp
      rw [h1]
      have hx : isDsX o = false → Ext w w' := fun hds => h3 (by simpa [isDsX, hc] using hds)
      rcases h2 with rfl | ⟨rfl, rfl⟩
      · exact hk _ _ hx ⟨S', F', B', h4, h5⟩
      · exact hk _ _ hx ⟨S', F', B', h4, h5⟩
 
theorem opV_yields (hf : FR F B w S a) (hN : a.tmps.size = N) {k : Kd} {o : Oper} (hd : dstOK N o.dst = true) (h : opV P T nv k o S K) (hk : k ≠ .ef) :
    ∃ v, (∀ W, Ext w W → (execOp a.eval o).run P W = .ok (.value v) W) ∧ (k = .pu → ∀ W, (execOp a.eval o).run P W = .ok (.value v) W) ∧ ∃ S', K S' ∧ Tr N F B w S F B w S' (a.put o.dst v) := by
  cases k with
  | pu =>
    obtain ⟨v, av, h1, h2, h3⟩ := valV_run (K := fun av => K (S.put o.dst av)) hf o h
    exact ⟨v, fun W _ => h1 W, fun _ => h1, _, h3, Tr.put hf hN hd h2⟩
  | rd =>
    obtain ⟨v, av, h1, h2, h3⟩ := readV_run (K := fun av => K (S.put o.dst av)) hf o h
    exact ⟨v, h1, (fun h => nomatch h), _, h3, Tr.put hf hN hd h2⟩
  | ef => exact absurd rfl hk
 
theorem FR.reput (hf : FR F B w S a) {t : Nat} {x : AV} (hx : VR w F B S.c x (a.tmps.getD t undef)) : FR F B w (S.put (some t) x) a := by
  refine ⟨fun s => ?_, hf.objs, hf.sep, hf.inj, hf.own1, hf.Flt, hf.defers, by first | exact hf.pin | (cases S; exact hf.pin)⟩
  simp only [St.put, getIn_putIn]
  split
  · rename_i hs
    rw [hs]
    exact hx
  · exact hf.slots s
theorem Tr.reput (hf : FR F B w S a) (hN : a.tmps.size = N) {t : Nat} {x : AV} (hx : VR w F B S.c x (a.tmps.getD t undef)) : Tr N F B w S F B w (S.put (some t) x) a :=
  ⟨hf.reput hx, hN, fun _ h => h, fun _ _ _ => rfl, fun b hb => by
    rcases hb with h | h
    · exact .inl h
    · exact .inr (.inl h), rfl, rfl, rfl, Nat.le_refl _, fun _ _ => rfl⟩
 
structure Res (S S' : St) : Prop where
  H : S'.H = S.H
  c : S'.c = S.c
  E : ∀ t F B w c v, VR w F B c (getIn S'.E t) v → VR w F B c (getIn S.E t) v
theorem Res.refl (S : St) : Res S S := ⟨rfl, rfl, fun _ _ _ _ _ _ h => h⟩
theorem Res.trans {S S1 S2 : St} (h : Res S S1) (k : Res S1 S2) : Res S S2 := ⟨k.H.trans h.H, k.c.trans h.c, fun t F B w c v hv => h.E t F B w c v (k.E t F B w c v hv)⟩
theorem Res.put1 {S : St} {t : Nat} {q : Bool} {x : AV} (h : getIn S.E t = .opt q x) (hq : q = true) : Res S (S.put (some t) x) := ⟨rfl, rfl, fun s F B w c v hv => by
  simp only [St.put, getIn_putIn] at hv
  split at hv
  · rename_i hs
    rw [hs, h, hq]
    simp only [VR]
    exact ⟨fun _ => hv, fun h => nomatch h⟩
  · exact hv⟩
theorem Res.fr {S S' : St} (h : Res S S') {F : Nat → Prop} {B : Blk} {w : World} {a : Act} (hf : FR F B w S' a) : FR F B w S a :=
  ⟨fun t => h.c ▸ h.E t F B w _ _ (hf.slots t), by rw [← h.H, ← h.c]; exact hf.objs, by rw [← h.H]; exact hf.sep, by rw [← h.H]; exact hf.inj, by rw [← h.H]; exact hf.own1, hf.Flt, hf.defers, by rw [← h.c]; exact hf.pin⟩
theorem Res.opt {S S' : St} (h : Res S S') (dst : Option Nat) (y : AV) : Res (S.put dst (.opt true y)) (S'.put dst y) := by
  cases dst with
  | none => exact h
  | some d => exact ⟨h.H, h.c, fun s F B w c v hv => by
      simp only [St.put, getIn_putIn] at hv ⊢
      split at hv
      · rename_i hs
        rw [if_pos hs]
        simp only [VR]
        exact ⟨fun _ => hv, fun h => nomatch h⟩
      · rename_i hs
        rw [if_neg hs]
        exact h.E s F B w c v hv⟩
theorem needs_imp (hN : a.tmps.size = N) : ∀ (l : List Nat) {S : St}, FR F B w S a → needs S l K → ∃ S', Tr N F B w S F B w S' a ∧ S'.c = S.c ∧ K S' ∧ Res S S'
  | [], S, hf, h => ⟨S, Tr.refl hf hN, rfl, h, Res.refl S⟩
  | t :: r, S, hf, h => by
    simp only [needs] at h
    split at h
    · rename_i c x hs
      have hv := hf.slots t
      rw [hs] at hv
      simp only [VR] at hv
      have ht := Tr.reput hf hN (hv.1 h.1)
      obtain ⟨S', h1, h2, h3, h4⟩ := needs_imp hN r ht.fr h.2
      exact ⟨S', ht.trans h1, h2, h3, (Res.put1 hs h.1).trans h4⟩
    · exact needs_imp hN r hf h
theorem undef_VR {c : Nat} : VR w F B c (.tup []) undef := by
  simp only [VR]
  exact ⟨#[], rfl, by simp [VRl]⟩
theorem yielded_eq {ops : Array Oper} {g t c : Nat} (h : (ops[g]?).bind (·.dst) = some t) :
    (∀ b, VR w F B c (.d (.bool b)) (a.tmps.getD t undef) → yielded ops a.tmps g = some b) ∧ (VR w F B c (.tup []) (a.tmps.getD t undef) → yielded ops a.tmps g = none) := by
  have hg : ∀ v, a.tmps.getD t undef = v → v ≠ undef → a.tmps[t]? = some v := fun v hv hne => by
    rw [Array.getD_eq_getD_getElem?] at hv
    cases ht : a.tmps[t]? with
    | none => rw [ht] at hv; exact absurd hv.symm hne
    | some u => rw [ht] at hv; simp at hv; rw [hv]
  refine ⟨fun b hs => ?_, fun hs => ?_⟩
  · simp only [VR, DRv, DRc, List.cons.injEq, and_true] at hs
    have := hg _ hs (by simp [undef])
    simp only [yielded, h, Option.bind_some, this]
  · simp only [VR] at hs
    obtain ⟨vs, hv, hl⟩ := hs
    simp only [VRl] at hl
    simp only [yielded, h, Option.bind_some]
    cases ht : a.tmps[t]? with
    | none => rfl
    | some u =>
      rw [Array.getD_eq_getD_getElem?, ht] at hv
      simp only [Option.getD_some] at hv
      subst hv
      rfl
 
structure Stepped (P : Program) (T : Tab) (N nv : Nat) (F : Nat → Prop) (B : Blk) (w : World) (a : Act) (all : List Oper) (k : Kd) (o : Oper) (S : St) (K : St → Prop) : Prop where
  cases : (Region.wanted o (yielded all.toArray a.tmps) = true ∧ ∃ S', Tr N F B w S F B w S' a ∧ opV P T nv k o S' K) ∨
    (Region.wanted o (yielded all.toArray a.tmps) = false ∧ ∃ S', Tr N F B w S F B w S' a ∧ ∃ av, VR w F B S'.c av undef ∧ K (S'.put o.dst av)) ∨
    (Region.wanted o (yielded all.toArray a.tmps) = true ∧ ∃ S' y, FR F B w S' a ∧ S'.c = S.c ∧ valW P k o S' (fun av => av = y) ∧ K (S.put o.dst (.opt true y))) ∨
    (Region.wanted o (yielded all.toArray a.tmps) = true ∧ isCallV o = true ∧ k = .ef ∧ ∃ S' y, FR F B w S' a ∧ Res S S' ∧ callU P T o S' (fun S2 => S2 = S'.put o.dst y) ∧ K (S.put o.dst (.opt true y)))
theorem efG_step (hf : FR F B w S a) (hN : a.tmps.size = N) {k : Kd} {o : Oper} {all : List Oper} {g t : Nat} {want : Bool} (hg : o.guard = some (g, want)) (ht : (all[g]?).bind (·.dst) = some t) (h : efG P T nv k want t o S K) :
    Stepped P T N nv F B w a all k o S K := by
  have ht' : (all.toArray[g]?).bind (·.dst) = some t := by simpa using ht
  obtain ⟨y1, y2⟩ := yielded_eq (F := F) (B := B) (w := w) (a := a) (c := S.c) ht'
  have main : ∀ b, VR w F B S.c (.d (.bool b)) (a.tmps.getD t undef) → (bif want then (b = true → needs (S.put (some t) (.d (.bool true))) (opTmps o.op) fun S' => opV P T nv k o S' K) ∧ (b = false → K ((S.put (some t) (.d (.bool false))).put o.dst (.tup [])))
      else (b = false → needs (S.put (some t) (.d (.bool false))) (opTmps o.op) fun S' => opV P T nv k o S' K) ∧ (b = true → K ((S.put (some t) (.d (.bool true))).put o.dst (.tup [])))) → Stepped P T N nv F B w a all k o S K := fun b hb h => by
    have hy := y1 b hb
    have htr := Tr.reput hf hN hb
    have h : (b = want → needs (S.put (some t) (.d (.bool b))) (opTmps o.op) fun S' => opV P T nv k o S' K) ∧ (b = !want → K ((S.put (some t) (.d (.bool b))).put o.dst (.tup []))) := by
      cases want <;> cases b <;> simp only [cond_true, cond_false] at h <;> simp_all
    by_cases hbw : b = want
    · refine ⟨.inl ⟨by simp [Region.wanted, hg, hy, hbw], ?_⟩⟩
      obtain ⟨S', h1, _, h3, _⟩ := needs_imp hN _ htr.fr (h.1 hbw)
      exact ⟨S', htr.trans h1, h3⟩
    · refine ⟨.inr (.inl ⟨by simp only [Region.wanted, hg, hy]; simpa using hbw, _, htr, .tup [], undef_VR, h.2 (by cases b <;> cases want <;> simp_all)⟩)⟩
  unfold efG at h
  have hs := hf.slots t
  split at h
  · rename_i b hb
    rw [hb] at hs
    exact main b hs h
  · rename_i c b hb
    rw [hb] at hs
    simp only [VR] at hs
    cases hc : c with
    | true => exact main b (hs.1 hc) (h.1 hc)
    | false =>
      have hu := hs.2 hc
      have hv : VR w F B S.c (.tup []) (a.tmps.getD t undef) := by rw [hu]; exact undef_VR
      exact ⟨.inr (.inl ⟨by simp only [Region.wanted, hg, y2 hv]; rfl, _, Tr.reput hf hN hv, .tup [], undef_VR, h.2 hc⟩)⟩
  · rename_i hb
    rw [hb] at hs
    exact ⟨.inr (.inl ⟨by simp only [Region.wanted, hg, y2 hs]; rfl, S, Tr.refl hf hN, .tup [], undef_VR, h⟩)⟩
  · exact h.elim
theorem puG_step (hf : FR F B w S a) (hN : a.tmps.size = N) {k : Kd} {c : Bool} {o : Oper} {all : List Oper} (hw : Region.wanted o (yielded all.toArray a.tmps) = c) (h : puG P k c o S K) : Stepped P T N nv F B w a all k o S K := by
  obtain ⟨y, h1, h2⟩ := h
  cases c with
  | true =>
    obtain ⟨S', k1, k2, k3, _⟩ := needs_imp hN _ hf (h1 rfl)
    exact ⟨.inr (.inr (.inl ⟨hw, S', y, k1.fr, k2, k3, h2⟩))⟩
  | false => exact ⟨.inr (.inl ⟨hw, S, Tr.refl hf hN, _, by simp only [VR]; exact ⟨(fun h => nomatch h), fun _ => by trivial⟩, h2⟩)⟩
theorem datArgs_call {o : Oper} (h : datArgs P S o = true) : isCallV o = true := by
  unfold datArgs at h
  split at h
  · rename_i c hop
    unfold isCallV
    split at h
    · rename_i g hc
      simp only [hop, hc]
    · cases h
  · cases h
theorem puC_step (hf : FR F B w S a) (hN : a.tmps.size = N) {c : Bool} {o : Oper} {all : List Oper} (hcall : isCallV o = true) (hw : Region.wanted o (yielded all.toArray a.tmps) = c) (h : puC P T c o S K) : Stepped P T N nv F B w a all .ef o S K := by
  obtain ⟨y, h1, h2⟩ := h
  cases c with
  | true =>
    obtain ⟨S', k1, k2, k3, k4⟩ := needs_imp hN _ hf (h1 rfl)
    exact ⟨.inr (.inr (.inr ⟨hw, hcall, rfl, S', y, k1.fr, k4, k3, h2⟩))⟩
  | false => exact ⟨.inr (.inl ⟨hw, S, Tr.refl hf hN, _, by simp only [VR]; exact ⟨(fun h => nomatch h), fun _ => by trivial⟩, h2⟩)⟩
theorem stepV_step (hf : FR F B w S a) (hN : a.tmps.size = N) {k : Kd} {o : Oper} {all : List Oper} (h : stepV P T nv all k o S K) : Stepped P T N nv F B w a all k o S K := by
  unfold stepV at h
  split at h
  · rename_i hg
    exact ⟨.inl ⟨by simp [Region.wanted, hg], S, Tr.refl hf hN, h⟩⟩
  · rename_i g want hg
    split at h
    · rename_i t ht
      have key : (bif parts2 P o.op then efG P T nv k want t o S K else match getIn S.E t with
        | .d (.bool b) => bif want then puG P k b o S K else puG P k (!b) o S K
        | .opt c (.d (.bool b)) => bif want then puG P k (c && b) o S K else puG P k (c && !b) o S K
        | .tup [] => K (S.put o.dst (.tup []))
        | _ => False) → Stepped P T N nv F B w a all k o S K := by
        intro h
        have ht' : (all.toArray[g]?).bind (·.dst) = some t := by simpa using ht
        obtain ⟨y1, y2⟩ := yielded_eq (F := F) (B := B) (w := w) (a := a) (c := S.c) ht'
        cases hp : parts2 P o.op with
        | true => rw [hp] at h; exact efG_step hf hN hg ht h
        | false =>
          rw [hp] at h
          simp only [cond_false] at h
          have hs := hf.slots t
          split at h
          · rename_i b hb
            rw [hb] at hs
            have hy := y1 b hs
            cases want with
            | true => exact puG_step hf hN (by simp [Region.wanted, hg, hy]) h
            | false => exact puG_step hf hN (by simp [Region.wanted, hg, hy]) h
          · rename_i c b hb
            rw [hb] at hs
            simp only [VR] at hs
            have hy : yielded all.toArray a.tmps g = if c then some b else none := by
              cases hc : c with
              | true => exact y1 b (hs.1 hc)
              | false =>
                refine y2 ?_
                rw [hs.2 hc]
                exact undef_VR
            cases want with
            | true => exact puG_step hf hN (by simp only [Region.wanted, hg, hy]; cases c <;> simp) h
            | false => exact puG_step hf hN (by simp only [Region.wanted, hg, hy]; cases c <;> simp) h
          · rename_i hb
            rw [hb] at hs
            exact ⟨.inr (.inl ⟨by simp only [Region.wanted, hg, y2 hs]; rfl, S, Tr.refl hf hN, .tup [], undef_VR, h⟩)⟩
          · exact h.elim
      have keyC : datArgs P S o = true → (match getIn S.E t with
        | .d (.bool b) => bif want then puC P T b o S K else puC P T (!b) o S K
        | .opt c (.d (.bool b)) => bif want then puC P T (c && b) o S K else puC P T (c && !b) o S K
        | .tup [] => K (S.put o.dst (.tup []))
        | _ => False) → Stepped P T N nv F B w a all .ef o S K := by
        intro hda h
        have hcall := datArgs_call hda
        have ht' : (all.toArray[g]?).bind (·.dst) = some t := by simpa using ht
        obtain ⟨y1, y2⟩ := yielded_eq (F := F) (B := B) (w := w) (a := a) (c := S.c) ht'
        have hs := hf.slots t
        split at h
        · rename_i b hb
          rw [hb] at hs
          have hy := y1 b hs
          cases want with
          | true => exact puC_step hf hN hcall (by simp [Region.wanted, hg, hy]) h
          | false => exact puC_step hf hN hcall (by simp [Region.wanted, hg, hy]) h
        · rename_i c b hb
          rw [hb] at hs
          simp only [VR] at hs
          have hy : yielded all.toArray a.tmps g = if c then some b else none := by
            cases hc : c with
            | true => exact y1 b (hs.1 hc)
            | false =>
              refine y2 ?_
              rw [hs.2 hc]
              exact undef_VR
          cases want with
          | true => exact puC_step hf hN hcall (by simp only [Region.wanted, hg, hy]; cases c <;> simp) h
          | false => exact puC_step hf hN hcall (by simp only [Region.wanted, hg, hy]; cases c <;> simp) h
        · rename_i hb
          rw [hb] at hs
          exact ⟨.inr (.inl ⟨by simp only [Region.wanted, hg, y2 hs]; rfl, S, Tr.refl hf hN, .tup [], undef_VR, h⟩)⟩
        · exact h.elim
      cases k with
      | ef =>
        simp only at h
        cases hda : datArgs P S o with
        | true => rw [hda] at h; exact keyC hda h
        | false => rw [hda] at h; exact efG_step hf hN hg ht h
      | pu => exact key h
      | rd => exact key h
    · exact h.elim
theorem valW_yields (hf : FR F B w S a) {k : Kd} {o : Oper} {Z : AV → Prop} (h : valW P k o S Z) :
    k ≠ .ef ∧ ∃ v av, (∀ W, Ext w W → (execOp a.eval o).run P W = .ok (.value v) W) ∧ (k = .pu → ∀ W, (execOp a.eval o).run P W = .ok (.value v) W) ∧ VR w F B S.c av v ∧ Z av := by
  cases k with
  | pu =>
    obtain ⟨v, av, h1, h2, h3⟩ := valV_run hf o h
    exact ⟨(fun h => nomatch h), v, av, fun W _ => h1 W, fun _ => h1, h2, h3⟩
  | rd =>
    obtain ⟨v, av, h1, h2, h3⟩ := readV_run hf o h
    exact ⟨(fun h => nomatch h), v, av, h1, (fun h => nomatch h), h2, h3⟩
  | ef => exact h.elim
theorem opt_VR {c : Nat} {x : AV} {v : Value} (h : VR w F B c x v) : VR w F B c (.opt true x) v := by
  simp only [VR]
  exact ⟨fun _ => h, fun h => nomatch h⟩
theorem stepV_wp (hT : T.Sound P) (hf : FR F B w S a) (hN : a.tmps.size = N) {k : Kd} {o : Oper} {all : List Oper} {i : Nat} (ho : all.toArray[i]? = some o) (hd : dstOK N o.dst = true) (h : stepV P T nv all k o S K) {Q : Exit → Act → World → Prop} {next : Act → World → Prop}
    (hk : ∀ a' w', (isDsX o = false → Ext w w') → (∃ S' F' B', K S' ∧ Tr N F B w S F' B' w' S' a') → next a' w') : wpOp P all.toArray Q i next a w := by
  unfold wpOp
  simp only [ho]
  rcases (stepV_step hf hN h).cases with ⟨hw, S1, ht, h1⟩ | ⟨hw, S1, ht, av, hv, h1⟩ | ⟨hw, S1, y, hf1, hc, h1, h2⟩ | ⟨hw, hcall, rfl, S1, y, hf1, hres, h1, h2⟩
  · rw [if_pos hw]
    refine .inl (opV_wp hT ht.fr hN hd h1 fun a' w' hx he => hk a' w' hx ?_)
    obtain ⟨S', F', B', k1, k2⟩ := he
    exact ⟨S', F', B', k1, ht.trans k2⟩
  · rw [hw]
    simp only [Bool.false_eq_true, if_false]
    exact hk _ _ (fun _ => Ext.refl w) ⟨_, F, B, h1, ht.trans (Tr.put ht.fr hN hd hv)⟩
  · rw [if_pos hw]
    obtain ⟨_, v, av, q1, _, q3, rfl⟩ := valW_yields hf1 h1
    left
    unfold Oper.wp
    rw [q1 w (Ext.refl w)]
    exact hk _ _ (fun _ => Ext.refl w) ⟨_, F, B, h2, Tr.put hf hN hd (opt_VR (hc ▸ q3))⟩
  · rw [if_pos hw]
    left
    refine callV_run hT hf1 hN o hd (callU_imp h1) fun a' w' he => hk a' w' (fun hds => by simp [isDsX, hcall] at hds) ?_
    obtain ⟨S2, F', B', rfl, ht⟩ := he
    have hr := hres.opt o.dst y
    have eH : (S.put o.dst (.opt true y)).H = S.H := by cases o.dst <;> rfl
    have eH1 : (S1.put o.dst y).H = S.H := by rw [← eH]; exact hr.H
    refine ⟨_, F', B', h2, hr.fr ht.fr, ht.n, ht.sub, fun b hb hno => ht.keep b hb (by rw [hres.H]; exact hno), fun b hb => ?_, ht.os, ht.tape, ht.output, ht.size, ht.old⟩
    have := ht.new b (by rw [eH1]; rw [eH] at hb; exact hb)
    rw [hres.H] at this
    exact this
theorem stepV_yields (hf : FR F B w S a) (hN : a.tmps.size = N) {k : Kd} {o : Oper} {all : List Oper} {i : Nat} (ho : all.toArray[i]? = some o) (hd : dstOK N o.dst = true) (h : stepV P T nv all k o S K) (hk : k ≠ .ef) :
    ∃ v, YieldsIf P all.toArray (Ext w) o v a ∧ (k = .pu → Yields P all.toArray o v a) ∧ ∃ S', K S' ∧ Tr N F B w S F B w S' (a.put o.dst v) := by
  rcases (stepV_step hf hN h).cases with ⟨hw, S1, ht, h1⟩ | ⟨hw, S1, ht, av, hv, h1⟩ | ⟨hw, S1, y, hf1, hc, h1, h2⟩ | ⟨_, _, hke, _⟩
  · obtain ⟨v, h3, h4, S', h5, h6⟩ := opV_yields ht.fr hN hd h1 hk
    exact ⟨v, .inl ⟨hw, h3⟩, fun e => .inl ⟨hw, h4 e⟩, S', h5, ht.trans h6⟩
  · exact ⟨undef, .inr ⟨hw, rfl⟩, fun _ => .inr ⟨hw, rfl⟩, _, h1, ht.trans (Tr.put ht.fr hN hd hv)⟩
  · obtain ⟨_, v, av, q1, q2, q3, rfl⟩ := valW_yields hf1 h1
    exact ⟨v, .inl ⟨hw, q1⟩, fun e => .inl ⟨hw, q2 e⟩, _, h2, Tr.put hf hN hd (opt_VR (hc ▸ q3))⟩
  · exact absurd hke hk
end
 
def kdT (P : Program) (o : Oper) : Kd := match o.op with
  | .load .. => .rd
  | .alloc .. | .box .. | .buildSlice .. | .makeSlice .. | .store .. | .assign .. | .range .. | .next .. | .makeMap .. | .mapUpdate .. | .entry .. => .ef
  | .call c => match c.callee with
    | .builtin .append => .ef
    | .builtin _ => .pu
    | _ => .ef
  | .convert src dst _ => match shapeT P src, shapeT P dst with
    | .slice, .str => .rd
    | .str, .slice => .ef
    | _, _ => .pu
  | _ => .pu
 
def regT (P : Program) (T : Tab) (nv : Nat) (all : List Oper) : List Oper → St → (St → Prop) → Prop
  | [], S, K => K S
  | o :: r, S, K => stepV P T nv all (kdT P o) o S fun S' => regT P T nv all r S' K
section
variable {P : Program} {F : Nat → Prop} {B : Blk} {w w' : World} {S : St} {a : Act} {N nv : Nat} {K : St → Prop} {T : Tab}
theorem regT_wp (hT : T.Sound P) {all : List Oper} (hd : all.all (fun o => dstOK N o.dst) = true) {Q : Exit → Act → World → Prop} : ∀ (r : List Oper) (i : Nat), all.drop i = r → ∀ {F B w S a}, FR F B w S a → a.tmps.size = N → regT P T nv all r S K →
    (∀ a' w', (∃ S' F' B', K S' ∧ Tr N F B w S F' B' w' S' a') → Q .normal a' w') → wpOps P all.toArray Q (List.range' i r.length) a w
  | [], i, hi, F, B, w, S, a, hf, hN, h, hQ => by
    simp only [List.length_nil, List.range'_zero, wpOps]
    exact hQ a w ⟨S, F, B, h, Tr.refl hf hN⟩
  | o :: r, i, hi, F, B, w, S, a, hf, hN, h, hQ => by
    have ho : all[i]? = some o := by
      have := congrArg (fun l => l[0]?) hi
      simpa using this
    have hr : all.drop (i + 1) = r := by
      have := congrArg List.tail hi
      simpa [List.tail_drop] using this
    have hdo : dstOK N o.dst = true := (List.all_eq_true.1 hd) o (List.mem_of_getElem? ho)
    simp only [List.length_cons, List.range'_succ, wpOps_cons]
    refine stepV_wp hT hf hN (by simpa using ho) hdo h fun a' w' _ he => ?_
    obtain ⟨S', F', B', k1, k2⟩ := he
    exact regT_wp hT hd r (i + 1) hr k2.fr k2.n k1 fun a2 w2 he2 => by
      obtain ⟨S2, F2, B2, q1, q2⟩ := he2
      exact hQ a2 w2 ⟨S2, F2, B2, q1, k2.trans q2⟩
theorem Awp_regT (hT : T.Sound P) {id : Nat} {l : List Oper} (hd : l.all (fun o => dstOK N o.dst) = true) {Q : Exit → St → Prop} (h : regT P T nv l l S (Q .normal)) : Awp P N (.region id l.toArray false) Q S := by
  intro F B w a hf hn
  refine wp_region ?_
  have e : List.range l.toArray.size = List.range' 0 l.length := by simp [List.range_eq_range']
  rw [e]
  exact regT_wp hT hd l 0 rfl hf hn h fun a' w' ⟨S', F', B', q, t⟩ => ⟨S', F', B', q, t⟩
end
end Go.Fw
namespace Go.Fw
open Go
set_option linter.unusedVariables false
set_option linter.unusedSimpArgs false
section
variable {P : Program} {ops : Array Oper} {Q : Exit → Act → World → Prop} {md : Region.Mode}
def dsAt (ops : Array Oper) (i : Nat) : Bool := match ops[i]? with
  | some o => isDsX o
  | none => false
 
def wpAnyX (P : Program) (md : Region.Mode) (ops : Array Oper) (Q : Exit → Act → World → Prop) : Nat → Array Bool → Act → World → Prop
  | 0, listed, a, w => Region.ready md ops listed = [] ∧ Q .normal a w
  | fuel + 1, listed, a, w =>
    (Region.ready md ops listed = [] → Q .normal a w) ∧
    ∀ i ∈ Region.ready md ops listed, wpOp P ops Q i (fun a' w' => (dsAt ops i = false → Ext w w') ∧ wpAnyX P md ops Q fuel (listed.setIfInBounds i true) a' w') a w
theorem wpAny_of_X : ∀ (fuel : Nat) (listed : Array Bool) (a : Act) (w : World), wpAnyX P md ops Q fuel listed a w → wpAny P md ops Q fuel listed a w
  | 0, _, _, _, h => h
  | fuel + 1, _, _, _, h => ⟨h.1, fun i hi => wpOp_mono (fun a' w' h' => wpAny_of_X fuel _ a' w' h'.2) (h.2 i hi)⟩
theorem wpAnyX_first {S : World → Prop} {i : Nat} {oi : Oper} {v : Value} (hi : ops[i]? = some oi) (hsel : ∀ (j : Nat) (o : Oper) cs b, ops[j]? = some o → o.op ≠ .select cs b)
    (hQ : ∀ c a w, ¬ Q (.panic c) a w) :
    ∀ (fuel : Nat) (listed : Array Bool) (a : Act) (w : World),
      (∀ j oj, ops[j]? = some oj → j ≠ i → listed.getD j true = false → (∀ e ∈ oj.after, Region.binds md e = true → e.on ≠ i) → oi.apart ops oj = true ∧ ∀ w w', S w → (dsAt ops j = false → Ext w w') → S w') →
      i ∈ Region.ready md ops listed → YieldsIf P ops S oi v a → S w →
      wpAnyX P md ops Q fuel (listed.setIfInBounds i true) (a.put oi.dst v) w → wpAnyX P md ops Q (fuel + 1) listed a w := by
  intro fuel
  induction fuel with
  | zero =>
    intro listed a w _ hr hy hS H
    refine ⟨fun h => (by rw [h] at hr; cases hr), fun j hj => ?_⟩
    by_cases hji : j = i
    · subst hji; exact hy.wpOp hi hS ⟨fun _ => Ext.refl w, H⟩
    · have := ready_mono hj hji
      rw [H.1] at this
      cases this
  | succ fuel ih =>
    intro listed a w hfree hr hy hS H
    refine ⟨fun h => (by rw [h] at hr; cases hr), fun j hj => ?_⟩
    by_cases hji : j = i
    · subst hji; exact hy.wpOp hi hS ⟨fun _ => Ext.refl w, H⟩
    · have h1 := H.2 j (ready_mono hj hji)
      obtain ⟨hjun, oj, hoj, hall⟩ := mem_ready.1 hj
      have hnot : ∀ e ∈ oj.after, Region.binds md e = true → e.on ≠ i := fun e he hb heq => by
        have h1 := hall e he hb
        have h0 := (mem_ready.1 hr).1
        rw [heq] at h1
        rcases Nat.lt_or_ge i listed.size with h' | h'
        · simp [h'] at h0 h1; rw [h0] at h1; cases h1
        · simp [Array.getElem?_eq_none h'] at h1
      have hfj := hfree j oj hoj hji hjun hnot
      have h2 := wpOp_putIf hoj hfj.1 (fun cs b => hsel i oi cs b hi) (fun cs b => hsel j oj cs b hoj) (fun c a w h => absurd h (hQ c _ w)) hy h1
      have hfree' : ∀ k ok, ops[k]? = some ok → k ≠ i → (listed.setIfInBounds j true).getD k true = false →
          (∀ e ∈ ok.after, Region.binds md e = true → e.on ≠ i) → oi.apart ops ok = true ∧ ∀ w w', S w → (dsAt ops k = false → Ext w w') → S w' := fun k ok hk hki hun hno => by
        refine hfree k ok hk hki ?_ hno
        by_cases hjk : j = k
        · subst hjk; exact hjun
        · rw [getD_set_ne true hjk] at hun; exact hun
      refine wpOp_mono (fun a' w' h3 => ⟨h3.2.1, ih (listed.setIfInBounds j true) a' w' hfree' (ready_mono hr (Ne.symm hji)) h3.1 (hfj.2 w w' hS h3.2.1) ?_⟩) h2
      rw [Array.setIfInBounds_comm _ _ hji]
      exact h3.2.2
theorem wpAnyX_firstR {S : World → Prop} {i : Nat} {oi : Oper} {v : Value} {R : Nat → Bool} (hi : ops[i]? = some oi) (hsel : ∀ (j : Nat) (o : Oper) cs b, ops[j]? = some o → o.op ≠ .select cs b)
    (hQ : ∀ c a w, ¬ Q (.panic c) a w) :
    ∀ (fuel : Nat) (listed : Array Bool) (a : Act) (w : World),
      (∀ j, R j = true → listed.getD j true = false ∧ ∀ oj, ops[j]? = some oj → ∃ e ∈ oj.after, Region.binds md e = true ∧ (e.on = i ∨ R e.on = true)) →
      (∀ j oj, ops[j]? = some oj → j ≠ i → listed.getD j true = false → R j = false → oi.apart ops oj = true ∧ ∀ w w', S w → (dsAt ops j = false → Ext w w') → S w') →
      i ∈ Region.ready md ops listed → YieldsIf P ops S oi v a → S w →
      wpAnyX P md ops Q fuel (listed.setIfInBounds i true) (a.put oi.dst v) w → wpAnyX P md ops Q (fuel + 1) listed a w := by
  intro fuel
  induction fuel with
  | zero =>
    intro listed a w _ _ hr hy hS H
    refine ⟨fun h => (by rw [h] at hr; cases hr), fun j hj => ?_⟩
    by_cases hji : j = i
    · subst hji; exact hy.wpOp hi hS ⟨fun _ => Ext.refl w, H⟩
    · have := ready_mono hj hji
      rw [H.1] at this
      cases this
  | succ fuel ih =>
    intro listed a w hR hfree hr hy hS H
    refine ⟨fun h => (by rw [h] at hr; cases hr), fun j hj => ?_⟩
    by_cases hji : j = i
    · subst hji; exact hy.wpOp hi hS ⟨fun _ => Ext.refl w, H⟩
    · have h1 := H.2 j (ready_mono hj hji)
      obtain ⟨hjun, oj, hoj, hall⟩ := mem_ready.1 hj
      have key : ∀ m, listed[m]? = some true → listed.getD m true = true := fun m hm => by
        rcases Nat.lt_or_ge m listed.size with h' | h'
        · simp [h'] at hm ⊢; exact hm
        · simp [Array.getElem?_eq_none h'] at hm
      have hRj : R j = false := by
        refine Bool.eq_false_iff.2 fun hRj => ?_
        obtain ⟨_, hex⟩ := hR j hRj
        obtain ⟨e, he, hb, hon⟩ := hex oj hoj
        have h2 := hall e he hb
        rcases hon with hon | hon
        · have h0 := (mem_ready.1 hr).1
          rw [hon] at h2
          rcases Nat.lt_or_ge i listed.size with h' | h'
          · simp [h'] at h0 h2; rw [h0] at h2; cases h2
          · simp [Array.getElem?_eq_none h'] at h2
        · have h0 := (hR _ hon).1
          rcases Nat.lt_or_ge e.on listed.size with h' | h'
          · simp [h'] at h0 h2; rw [h0] at h2; cases h2
          · simp [Array.getElem?_eq_none h'] at h2
      have hfj := hfree j oj hoj hji hjun hRj
      have h2 := wpOp_putIf hoj hfj.1 (fun cs b => hsel i oi cs b hi) (fun cs b => hsel j oj cs b hoj) (fun c a w h => absurd h (hQ c _ w)) hy h1
      have hfree' : ∀ k ok, ops[k]? = some ok → k ≠ i → (listed.setIfInBounds j true).getD k true = false →
          R k = false → oi.apart ops ok = true ∧ ∀ w w', S w → (dsAt ops k = false → Ext w w') → S w' := fun k ok hk hki hun hno => by
        refine hfree k ok hk hki ?_ hno
        by_cases hjk : j = k
        · subst hjk; exact hjun
        · rw [getD_set_ne true hjk] at hun; exact hun
      have hR' : ∀ k, R k = true → (listed.setIfInBounds j true).getD k true = false ∧ ∀ ok, ops[k]? = some ok → ∃ e ∈ ok.after, Region.binds md e = true ∧ (e.on = i ∨ R e.on = true) := fun k hk => by
        have hjk : j ≠ k := fun e => by subst e; rw [hRj] at hk; cases hk
        exact ⟨by rw [getD_set_ne true hjk]; exact (hR k hk).1, (hR k hk).2⟩
      refine wpOp_mono (fun a' w' h3 => ⟨h3.2.1, ih (listed.setIfInBounds j true) a' w' hR' hfree' (ready_mono hr (Ne.symm hji)) h3.1 (hfj.2 w w' hS h3.2.1) ?_⟩) h2
      rw [Array.setIfInBounds_comm _ _ hji]
      exact h3.2.2
theorem wpAnyX_one {fuel : Nat} {listed : Array Bool} {a : Act} {w : World} {i : Nat} (hr : Region.ready md ops listed = [i])
    (h : wpOp P ops Q i (fun a' w' => (dsAt ops i = false → Ext w w') ∧ wpAnyX P md ops Q fuel (listed.setIfInBounds i true) a' w') a w) : wpAnyX P md ops Q (fuel + 1) listed a w :=
  ⟨fun h0 => (by rw [hr] at h0; cases h0), fun j hj => by rw [hr] at hj; simp at hj; subst hj; exact h⟩
theorem wpAnyX_two {fuel : Nat} {listed : Array Bool} {a : Act} {w : World} {i j : Nat} (hr : Region.ready md ops listed = [i, j])
    (h : wpOp P ops Q i (fun a' w' => (dsAt ops i = false → Ext w w') ∧ wpAnyX P md ops Q fuel (listed.setIfInBounds i true) a' w') a w)
    (h' : wpOp P ops Q j (fun a' w' => (dsAt ops j = false → Ext w w') ∧ wpAnyX P md ops Q fuel (listed.setIfInBounds j true) a' w') a w) : wpAnyX P md ops Q (fuel + 1) listed a w :=
  ⟨fun h0 => (by rw [hr] at h0; cases h0), fun k hk => by
    rw [hr] at hk
    simp at hk
    rcases hk with rfl | rfl
    · exact h
    · exact h'⟩
theorem wpAnyX_three {fuel : Nat} {listed : Array Bool} {a : Act} {w : World} {i j k : Nat} (hr : Region.ready md ops listed = [i, j, k])
    (h : wpOp P ops Q i (fun a' w' => (dsAt ops i = false → Ext w w') ∧ wpAnyX P md ops Q fuel (listed.setIfInBounds i true) a' w') a w)
    (h' : wpOp P ops Q j (fun a' w' => (dsAt ops j = false → Ext w w') ∧ wpAnyX P md ops Q fuel (listed.setIfInBounds j true) a' w') a w)
    (h'' : wpOp P ops Q k (fun a' w' => (dsAt ops k = false → Ext w w') ∧ wpAnyX P md ops Q fuel (listed.setIfInBounds k true) a' w') a w) : wpAnyX P md ops Q (fuel + 1) listed a w :=
  ⟨fun h0 => (by rw [hr] at h0; cases h0), fun m hm => by
    rw [hr] at hm
    simp at hm
    rcases hm with rfl | rfl | rfl
    · exact h
    · exact h'
    · exact h''⟩
theorem wpAnyX_done {listed : Array Bool} {a : Act} {w : World} (hr : Region.ready md ops listed = []) (h : Q .normal a w) : ∀ fuel, wpAnyX P md ops Q fuel listed a w
  | 0 => ⟨hr, h⟩
  | _ + 1 => ⟨fun _ => h, by rw [hr]; simp⟩
end
 
inductive Plan where
  | done
  | take (i : Nat) (k : Kd) (p : Plan)
  | one (i : Nat) (p : Plan)
  | two (i : Nat) (p : Plan) (j : Nat) (q : Plan)
  | tak (i : Nat) (k : Kd) (R : List Nat) (p : Plan)
  | three (i : Nat) (p : Plan) (j : Nat) (q : Plan) (k : Nat) (r : Plan)
 
def tks (i : Nat) : List Nat → Plan → Plan
  | [], p => p
  | 0 :: r, p => .take i .pu (tks (i + 1) r p)
  | _ :: r, p => .take i .rd (tks (i + 1) r p)
def Kd.isPu : Kd → Bool
  | .pu => true
  | _ => false
def Kd.isEf : Kd → Bool
  | .ef => true
  | _ => false
 
def waits (ops : Array Oper) (listed : Array Bool) (i : Nat) : Bool := (List.range ops.size).all fun j =>
  j == i || listed.getD j true || !dsAt ops j || (match ops[j]? with
    | some oj => oj.after.any fun e => Region.binds .any e && e.on == i
    | none => true)
 
def chainB (ops : Array Oper) (listed : Array Bool) (i : Nat) (R : List Nat) : Bool := R.all fun j =>
  !(listed.getD j true) && (match ops[j]? with
    | some oj => oj.after.any fun e => Region.binds .any e && (e.on == i || R.contains e.on)
    | none => false)
def freeR (ops : Array Oper) (listed : Array Bool) (i : Nat) (R : List Nat) : Bool := match ops[i]? with
  | none => false
  | some oi => (List.range ops.size).all fun j => j == i || listed.getD j true || R.contains j || (match ops[j]? with
      | some oj => oi.apart ops oj
      | none => true)
def waitsR (ops : Array Oper) (listed : Array Bool) (i : Nat) (R : List Nat) : Bool := (List.range ops.size).all fun j =>
  j == i || listed.getD j true || R.contains j || !dsAt ops j
 
def planB (ops : Array Oper) : Nat → Array Bool → Plan → Bool
  | _, listed, .done => (Region.ready .any ops listed).isEmpty
  | 0, _, _ => false
  | n + 1, listed, .take i k p => (Region.ready .any ops listed).contains i && Region.free .any ops listed i && !k.isEf && (k.isPu || waits ops listed i) && planB ops n (listed.setIfInBounds i true) p
  | n + 1, listed, .one i p => (Region.ready .any ops listed == [i]) && planB ops n (listed.setIfInBounds i true) p
  | n + 1, listed, .two i p j q => (Region.ready .any ops listed == [i, j]) && planB ops n (listed.setIfInBounds i true) p && planB ops n (listed.setIfInBounds j true) q
  | n + 1, listed, .three i p j q k r => (Region.ready .any ops listed == [i, j, k]) && planB ops n (listed.setIfInBounds i true) p && planB ops n (listed.setIfInBounds j true) q && planB ops n (listed.setIfInBounds k true) r
  | n + 1, listed, .tak i k R p => (Region.ready .any ops listed).contains i && chainB ops listed i R && freeR ops listed i R && !k.isEf && (k.isPu || waitsR ops listed i R) && planB ops n (listed.setIfInBounds i true) p
def planOK (l : List Oper) (p : Plan) : Bool := Region.noSelect l.toArray && planB l.toArray l.length (Array.replicate l.length false) p
def regD (P : Program) (T : Tab) (nv : Nat) (all : List Oper) : Plan → St → (St → Prop) → Prop
  | .done, S, K => K S
  | .tak i k _ p, S, K => match all[i]? with
    | some o => stepV P T nv all k o S fun S' => regD P T nv all p S' K
    | none => False
  | .take i k p, S, K => match all[i]? with
    | some o => stepV P T nv all k o S fun S' => regD P T nv all p S' K
    | none => False
  | .one i p, S, K => match all[i]? with
    | some o => stepV P T nv all (kdT P o) o S fun S' => regD P T nv all p S' K
    | none => False
  | .two i p j q, S, K => (match all[i]? with
    | some o => stepV P T nv all (kdT P o) o S fun S' => regD P T nv all p S' K
    | none => False) ∧ match all[j]? with
    | some o => stepV P T nv all (kdT P o) o S fun S' => regD P T nv all q S' K
    | none => False
  | .three i p j q k r, S, K => (match all[i]? with
    | some o => stepV P T nv all (kdT P o) o S fun S' => regD P T nv all p S' K
    | none => False) ∧ (match all[j]? with
    | some o => stepV P T nv all (kdT P o) o S fun S' => regD P T nv all q S' K
    | none => False) ∧ match all[k]? with
    | some o => stepV P T nv all (kdT P o) o S fun S' => regD P T nv all r S' K
    | none => False
section
variable {P : Program} {F : Nat → Prop} {B : Blk} {w w' : World} {S : St} {a : Act} {N nv : Nat} {K : St → Prop} {T : Tab}
theorem waits_spec {ops : Array Oper} {listed : Array Bool} {i : Nat} (h : waits ops listed i = true) {j : Nat} {oj : Oper} (hj : ops[j]? = some oj) (hji : j ≠ i) (hl : listed.getD j true = false) (hn : ∀ e ∈ oj.after, Region.binds .any e = true → e.on ≠ i) : dsAt ops j = false := by
  have hlt : j < ops.size := (Array.getElem?_eq_some_iff.1 hj).1
  have := (List.all_eq_true.1 h) j (List.mem_range.2 hlt)
  simp only [Bool.or_eq_true, beq_iff_eq, hji, false_or, hl, Bool.false_eq_true, hj, Bool.not_eq_true'] at this
  rcases this with h1 | h1
  · exact h1
  · exfalso
    obtain ⟨k, hk, he⟩ := Array.any_eq_true.1 h1
    simp only [Bool.and_eq_true, beq_iff_eq] at he
    exact hn _ (Array.getElem_mem hk) he.1 he.2
theorem regD_wp (hT : T.Sound P) {all : List Oper} (hd : all.all (fun o => dstOK N o.dst) = true) (hs : Region.noSelect all.toArray = true) {Q : Exit → Act → World → Prop} (hQ : ∀ c a w, ¬ Q (.panic c) a w) :
    ∀ (p : Plan) (n : Nat) (listed : Array Bool), planB all.toArray n listed p = true → ∀ {F B w S a}, FR F B w S a → a.tmps.size = N → regD P T nv all p S K →
    (∀ a' w', (∃ S' F' B', K S' ∧ Tr N F B w S F' B' w' S' a') → Q .normal a' w') → wpAnyX P .any all.toArray Q n listed a w
  | .done, n, listed, hp, F, B, w, S, a, hf, hN, h, hK => by
    have hr : Region.ready .any all.toArray listed = [] := by
      cases n <;> simpa [planB] using hp
    exact wpAnyX_done hr (hK a w ⟨S, F, B, h, Tr.refl hf hN⟩) n
  | .take i k p, 0, listed, hp, F, B, w, S, a, hf, hN, h, hK => by simp [planB] at hp
  | .one i p, 0, listed, hp, F, B, w, S, a, hf, hN, h, hK => by simp [planB] at hp
  | .two i p j q, 0, listed, hp, F, B, w, S, a, hf, hN, h, hK => by simp [planB] at hp
  | .tak i k R p, 0, listed, hp, F, B, w, S, a, hf, hN, h, hK => by simp [planB] at hp
  | .three i p j q k r, 0, listed, hp, F, B, w, S, a, hf, hN, h, hK => by simp [planB] at hp
  | .three i p j q k r, n + 1, listed, hp, F, B, w, S, a, hf, hN, h, hK => by
    simp only [planB, Bool.and_eq_true, beq_iff_eq] at hp
    simp only [regD] at h
    obtain ⟨h, h', h''⟩ := h
    split at h
    · rename_i o ho
      split at h'
      · rename_i o' hoj
        split at h''
        · rename_i o'' hok
          have ho1 : all.toArray[i]? = some o := by simpa using ho
          have ho2 : all.toArray[j]? = some o' := by simpa using hoj
          have ho3 : all.toArray[k]? = some o'' := by simpa using hok
          have hdo : dstOK N o.dst = true := (List.all_eq_true.1 hd) o (List.mem_of_getElem? ho)
          have hdo' : dstOK N o'.dst = true := (List.all_eq_true.1 hd) o' (List.mem_of_getElem? hoj)
          have hdo'' : dstOK N o''.dst = true := (List.all_eq_true.1 hd) o'' (List.mem_of_getElem? hok)
          refine wpAnyX_three hp.1.1.1 (stepV_wp hT hf hN ho1 hdo h fun a' w' hx he => ⟨fun hds => hx (by simpa [dsAt, ho] using hds), ?_⟩)
            (stepV_wp hT hf hN ho2 hdo' h' fun a' w' hx he => ⟨fun hds => hx (by simpa [dsAt, hoj] using hds), ?_⟩)
            (stepV_wp hT hf hN ho3 hdo'' h'' fun a' w' hx he => ⟨fun hds => hx (by simpa [dsAt, hok] using hds), ?_⟩)
          · obtain ⟨S', F', B', k1, k2⟩ := he
            exact regD_wp hT hd hs hQ p n _ hp.1.1.2 k2.fr k2.n k1 fun a2 w2 he2 => by
              obtain ⟨S2, F2, B2, q1, q2⟩ := he2
              exact hK a2 w2 ⟨S2, F2, B2, q1, k2.trans q2⟩
          · obtain ⟨S', F', B', k1, k2⟩ := he
            exact regD_wp hT hd hs hQ q n _ hp.1.2 k2.fr k2.n k1 fun a2 w2 he2 => by
              obtain ⟨S2, F2, B2, q1, q2⟩ := he2
              exact hK a2 w2 ⟨S2, F2, B2, q1, k2.trans q2⟩
          · obtain ⟨S', F', B', k1, k2⟩ := he
            exact regD_wp hT hd hs hQ r n _ hp.2 k2.fr k2.n k1 fun a2 w2 he2 => by
              obtain ⟨S2, F2, B2, q1, q2⟩ := he2
              exact hK a2 w2 ⟨S2, F2, B2, q1, k2.trans q2⟩
        · exact h''.elim
      · exact h'.elim
    · exact h.elim
  | .tak i k R p, n + 1, listed, hp, F, B, w, S, a, hf, hN, h, hK => by
    simp only [planB, Bool.and_eq_true, Bool.or_eq_true, Bool.not_eq_true'] at hp
    obtain ⟨⟨⟨⟨⟨h1, hch⟩, h2⟩, h3⟩, h4⟩, h5⟩ := hp
    simp only [regD] at h
    split at h
    · rename_i o ho
      have ho' : all.toArray[i]? = some o := by simpa using ho
      have hdo : dstOK N o.dst = true := (List.all_eq_true.1 hd) o (List.mem_of_getElem? ho)
      have hk : k ≠ .ef := fun e => by subst e; simp [Kd.isEf] at h3
      obtain ⟨v, hy, hyp, S', hS', ht⟩ := stepV_yields hf hN ho' hdo h hk
      have next := regD_wp hT hd hs hQ p n _ h5 ht.fr ht.n hS' fun a2 w2 he2 => by
        obtain ⟨S2, F2, B2, q1, q2⟩ := he2
        exact hK a2 w2 ⟨S2, F2, B2, q1, ht.trans q2⟩
      have hR : ∀ j, R.contains j = true → listed.getD j true = false ∧ ∀ oj, all.toArray[j]? = some oj → ∃ e ∈ oj.after, Region.binds .any e = true ∧ (e.on = i ∨ R.contains e.on = true) := fun j hj => by
        have hm : j ∈ R := by simpa using hj
        have hc := (List.all_eq_true.1 hch) j hm
        simp only [Bool.and_eq_true, Bool.not_eq_true'] at hc
        refine ⟨hc.1, fun oj hoj => ?_⟩
        have hc2 := hc.2
        simp only [hoj] at hc2
        obtain ⟨e, he, hb⟩ := Array.any_eq_true'.1 hc2
        simp only [Bool.and_eq_true, Bool.or_eq_true, beq_iff_eq] at hb
        exact ⟨e, he, hb.1, hb.2⟩
      have hfree : ∀ j oj, all.toArray[j]? = some oj → j ≠ i → listed.getD j true = false → R.contains j = false → o.apart all.toArray oj = true := fun j oj hj hji hl hn => by
        simp only [freeR, ho', List.all_eq_true, List.mem_range] at h2
        have := h2 j (Array.getElem?_eq_some_iff.1 hj).1
        simpa only [hj, hn, hl, Bool.or_eq_true, beq_iff_eq, hji, false_or, Bool.false_eq_true] using this
      have hready : i ∈ Region.ready .any all.toArray listed := by simpa using h1
      cases k with
      | ef => exact absurd rfl hk
      | pu => exact wpAnyX_firstR (S := fun _ => True) (R := fun j => R.contains j) ho' (Region.noSelect_spec hs) hQ n listed a w hR (fun j oj hj hji hl hn => ⟨hfree j oj hj hji hl hn, fun _ _ _ _ => trivial⟩) hready ((hyp rfl).yieldsIf) trivial next
      | rd =>
        have hw : waitsR all.toArray listed i R = true := by simpa [Kd.isPu] using h4
        have hds : ∀ j oj, all.toArray[j]? = some oj → j ≠ i → listed.getD j true = false → R.contains j = false → dsAt all.toArray j = false := fun j oj hj hji hl hn => by
          have := (List.all_eq_true.1 hw) j (List.mem_range.2 (Array.getElem?_eq_some_iff.1 hj).1)
          simpa only [hn, hl, Bool.or_eq_true, beq_iff_eq, hji, false_or, Bool.false_eq_true, Bool.not_eq_true'] using this
        exact wpAnyX_firstR (S := Ext w) (R := fun j => R.contains j) ho' (Region.noSelect_spec hs) hQ n listed a w hR (fun j oj hj hji hl hn => ⟨hfree j oj hj hji hl hn, fun w1 w2 hw1 hx => fun b hb => by
          rw [hx (hds j oj hj hji hl hn) b (Nat.lt_of_lt_of_le hb hw1.size), hw1 b hb]⟩) hready hy (Ext.refl w) next
    · exact h.elim
  | .take i k p, n + 1, listed, hp, F, B, w, S, a, hf, hN, h, hK => by
    simp only [planB, Bool.and_eq_true, Bool.or_eq_true, Bool.not_eq_true'] at hp
    obtain ⟨⟨⟨⟨h1, h2⟩, h3⟩, h4⟩, h5⟩ := hp
    simp only [regD] at h
    split at h
    · rename_i o ho
      have ho' : all.toArray[i]? = some o := by simpa using ho
      have hdo : dstOK N o.dst = true := (List.all_eq_true.1 hd) o (List.mem_of_getElem? ho)
      have hk : k ≠ .ef := fun e => by subst e; simp [Kd.isEf] at h3
      obtain ⟨v, hy, hyp, S', hS', ht⟩ := stepV_yields hf hN ho' hdo h hk
      have next := regD_wp hT hd hs hQ p n _ h5 ht.fr ht.n hS' fun a2 w2 he2 => by
        obtain ⟨S2, F2, B2, q1, q2⟩ := he2
        exact hK a2 w2 ⟨S2, F2, B2, q1, ht.trans q2⟩
      have hfree := Region.free_spec ho' h2
      have hready : i ∈ Region.ready .any all.toArray listed := by simpa using h1
      cases k with
      | ef => exact absurd rfl hk
      | pu => exact wpAnyX_first (S := fun _ => True) ho' (Region.noSelect_spec hs) hQ n listed a w (fun j oj hj hji hl hn => ⟨hfree j oj hj hji hl hn, fun _ _ _ _ => trivial⟩) hready ((hyp rfl).yieldsIf) trivial next
      | rd =>
        have hw : waits all.toArray listed i = true := by simpa [Kd.isPu] using h4
        exact wpAnyX_first (S := Ext w) ho' (Region.noSelect_spec hs) hQ n listed a w (fun j oj hj hji hl hn => ⟨hfree j oj hj hji hl hn, fun w1 w2 hw1 hx => fun b hb => by
          rw [hx (waits_spec hw hj hji hl hn) b (Nat.lt_of_lt_of_le hb hw1.size), hw1 b hb]⟩) hready hy (Ext.refl w) next
    · exact h.elim
  | .one i p, n + 1, listed, hp, F, B, w, S, a, hf, hN, h, hK => by
    simp only [planB, Bool.and_eq_true, beq_iff_eq] at hp
    simp only [regD] at h
    split at h
    · rename_i o ho
      have ho' : all.toArray[i]? = some o := by simpa using ho
      have hdo : dstOK N o.dst = true := (List.all_eq_true.1 hd) o (List.mem_of_getElem? ho)
      refine wpAnyX_one hp.1 (stepV_wp hT hf hN ho' hdo h fun a' w' hx he => ⟨fun hds => hx (by simpa [dsAt, ho] using hds), ?_⟩)
      obtain ⟨S', F', B', k1, k2⟩ := he
      exact regD_wp hT hd hs hQ p n _ hp.2 k2.fr k2.n k1 fun a2 w2 he2 => by
        obtain ⟨S2, F2, B2, q1, q2⟩ := he2
        exact hK a2 w2 ⟨S2, F2, B2, q1, k2.trans q2⟩
    · exact h.elim
  | .two i p j q, n + 1, listed, hp, F, B, w, S, a, hf, hN, h, hK => by
    simp only [planB, Bool.and_eq_true, beq_iff_eq] at hp
    simp only [regD] at h
    obtain ⟨h, h'⟩ := h
    split at h
    · rename_i o ho
      split at h'
      · rename_i o' hoj
        have ho1 : all.toArray[i]? = some o := by simpa using ho
        have ho2 : all.toArray[j]? = some o' := by simpa using hoj
        have hdo : dstOK N o.dst = true := (List.all_eq_true.1 hd) o (List.mem_of_getElem? ho)
        have hdo' : dstOK N o'.dst = true := (List.all_eq_true.1 hd) o' (List.mem_of_getElem? hoj)
        refine wpAnyX_two hp.1.1 (stepV_wp hT hf hN ho1 hdo h fun a' w' hx he => ⟨fun hds => hx (by simpa [dsAt, ho] using hds), ?_⟩)
          (stepV_wp hT hf hN ho2 hdo' h' fun a' w' hx he => ⟨fun hds => hx (by simpa [dsAt, hoj] using hds), ?_⟩)
        · obtain ⟨S', F', B', k1, k2⟩ := he
          exact regD_wp hT hd hs hQ p n _ hp.1.2 k2.fr k2.n k1 fun a2 w2 he2 => by
            obtain ⟨S2, F2, B2, q1, q2⟩ := he2
            exact hK a2 w2 ⟨S2, F2, B2, q1, k2.trans q2⟩
        · obtain ⟨S', F', B', k1, k2⟩ := he
          exact regD_wp hT hd hs hQ q n _ hp.2 k2.fr k2.n k1 fun a2 w2 he2 => by
            obtain ⟨S2, F2, B2, q1, q2⟩ := he2
            exact hK a2 w2 ⟨S2, F2, B2, q1, k2.trans q2⟩
      · exact h'.elim
    · exact h.elim
theorem FR.drawn (hf : FR F B w S a) : FR F B { w with drawn := w.drawn + 1 } S a := by
  refine hf.world (w' := { w with drawn := w.drawn + 1 }) (fun _ _ => rfl) (fun _ h => h) (fun b hb => (hf.sep b hb).1) (hf.Flt.mono (fun _ h => h) (fun _ _ => rfl) hf.Flt.lt) (Nat.le_refl _)
theorem Awp_regD (hm : P.follows .mixedOrders = true) (hT : T.Sound P) {id : Nat} {l : List Oper} (p : Plan) (hd : l.all (fun o => dstOK N o.dst) = true) (hp : planOK l p = true) {Q : Exit → St → Prop} (h : regD P T nv l p S (Q .normal)) : Awp P N (.region id l.toArray true) Q S := by
  intro F B w a hf hn
  simp only [planOK, Bool.and_eq_true] at hp
  have key : (Code.region id l.toArray true).wp P (fun e a' w' => e = .normal ∧ ∃ S' F' B', Q .normal S' ∧ Tr N F B w S F' B' w' S' a') a w := by
    refine wp_region_any hm (wpAny_of_X _ _ _ _ ?_)
    have hsz : l.toArray.size = l.length := by simp
    rw [hsz]
    refine regD_wp hT hd hp.1 (fun c a w h => by cases h.1) p l.length _ hp.2 hf.drawn hn h fun a' w' he => ⟨rfl, ?_⟩
    obtain ⟨S', F', B', k1, k2⟩ := he
    exact ⟨S', F', B', k1, k2.fr, k2.n, k2.sub, k2.keep, k2.new, k2.os, k2.tape, k2.output, k2.size, k2.old⟩
  exact wp_mono key fun e a' w' ⟨h1, S', F', B', q, t⟩ => ⟨S', F', B', h1 ▸ q, t⟩
end
end Go.Fw
