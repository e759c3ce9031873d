/- What the proofs of this seat lean on, part 11: a symbolic machine that is shown sound, walks through functions, plain laws. -/
import Derived.Test.YtcmbobdkilcjeaaDoorZ10
import Derived.LoopN
namespace Go.Fw
open Go
set_option linter.unusedVariables false
set_option linter.unusedSimpArgs false
def seqQ (next : St → Prop) (Q : Exit → St → Prop) : Exit → St → Prop
  | .normal, S => next S
  | e, S => Q e S
def blkQ (id : Nat) (Q : Exit → St → Prop) : Exit → St → Prop
  | .exit id', S => if id' = id then Q .normal S else Q (.exit id') S
  | e, S => Q e S
section
variable {P : Program} {N nv : Nat} {Q : Exit → St → Prop} {S : St} {T : Tab}
theorem Awp.seq {x y : Code} (h : Awp P N x (seqQ (Awp P N y Q) Q) S) : Awp P N (.seq x y) Q S := by
  intro F B w a hf hn
  refine wp_seq (wp_mono (h F B w a hf hn) fun e a1 w1 ⟨S1, F1, B1, q, t⟩ => ?_)
  cases e with
  | normal => exact wp_mono (q F1 B1 w1 a1 t.fr t.n) fun e2 a2 w2 ⟨S2, F2, B2, q2, t2⟩ => ⟨S2, F2, B2, q2, t.trans t2⟩
  | _ => exact ⟨S1, F1, B1, q, t⟩
theorem Awp.block {id : Nat} {c : Code} (h : Awp P N c (blkQ id Q) S) : Awp P N (.block id c) Q S := by
  intro F B w a hf hn
  refine wp_block (wp_mono (h F B w a hf hn) fun e a1 w1 ⟨S1, F1, B1, q, t⟩ => ?_)
  cases e with
  | exit id' =>
    simp only [blkQ] at q
    simp only [Exit.inBlock]
    split
    · rename_i hid; rw [if_pos hid] at q; exact ⟨S1, F1, B1, q, t⟩
    · rename_i hid; rw [if_neg hid] at q; exact ⟨S1, F1, B1, q, t⟩
  | _ => exact ⟨S1, F1, B1, q, t⟩
theorem Awp.skip (h : Q .normal S) : Awp P N .skip Q S := fun F B w a hf hn => wp_skip ⟨S, F, B, h, Tr.refl hf hn⟩
theorem Awp.label {l : Nat} (h : Q .normal S) : Awp P N (.label l) Q S := fun F B w a hf hn => wp_label ⟨S, F, B, h, Tr.refl hf hn⟩
theorem Awp.exit {id : Nat} (h : Q (.exit id) S) : Awp P N (.exit id) Q S := fun F B w a hf hn => wp_exit ⟨S, F, B, h, Tr.refl hf hn⟩
theorem Awp.ret (h : Q .ret S) : Awp P N .ret Q S := fun F B w a hf hn => wp_ret ⟨S, F, B, h, Tr.refl hf hn⟩
theorem Awp.cond {c : Operand} {x y : Code} {b : Bool} (hc : S.ev c = .d (.bool b)) (h1 : b = true → Awp P N x Q S) (h2 : b = false → Awp P N y Q S) : Awp P N (.cond c x y) Q S := by
  intro F B w a hf hn
  have hv : a.eval c = .bool b := val_of_scalar (x := .bool b) rfl (by rw [← hc]; exact ev_VR hf c)
  exact wp_cond_split hv (fun h => h1 h F B w a hf hn) (fun h => h2 h F B w a hf hn)
 
 
def rnG (H : List (Key × Nat × AO)) : List (Key × Nat × AO) → Nat → Nat
  | [], _ => 0
  | (k, g', _) :: r, g => if g' = g then (match objIn H k with
      | some (g0, _) => g0
      | none => 0)
    else rnG H r g
mutual
def rnAV (ρ : Nat → Nat) : AV → AV
  | .ref k g sz off len => .ref k (ρ g) sz off len
  | .elt k g sz j o => .elt k (ρ g) sz j o
  | .addr k g c => .addr k (ρ g) c
  | .mp k g => .mp k (ρ g)
  | .nref k g l => .nref k (ρ g) l
  | .sub k g j sz l => .sub k (ρ g) j sz l
  | .selt k g j sz l => .selt k (ρ g) j sz l
  | .agg l => .agg (rnAVs ρ l)
  | .tup l => .tup (rnAVs ρ l)
  | .clo fn f c => .clo fn (rnAVs ρ f) (rnAVs ρ c)
  | .opt q x => .opt q (rnAV ρ x)
  | x => x
def rnAVs (ρ : Nat → Nat) : List AV → List AV
  | [] => []
  | x :: r => rnAV ρ x :: rnAVs ρ r
end
mutual
def okG (c : Nat) : AV → Bool
  | .ref _ g _ _ _ => decide (g < c)
  | .elt _ g _ _ _ => decide (g < c)
  | .addr _ g _ => decide (g < c)
  | .mp _ g => decide (g < c)
  | .nref _ g _ => decide (g < c)
  | .sub _ g _ _ _ => decide (g < c)
  | .selt _ g _ _ _ => decide (g < c)
  | .agg l => okGs c l
  | .tup l => okGs c l
  | .clo _ f cp => okGs c f && okGs c cp
  | .opt _ x => okG c x
  | _ => true
def okGs (c : Nat) : List AV → Bool
  | [] => true
  | x :: r => okG c x && okGs c r
end
def rnAO (ρ : Nat → Nat) : AO → AO
  | .box e l => .box e (rnAVs ρ l)
  | .miter m s t l u => .miter (ρ m) s t l u
  | o => o
def okAO (c : Nat) : AO → Bool
  | .box _ l => okGs c l
  | .miter m _ _ _ _ => decide (m < c)
  | _ => true
mutual
theorem VR_rn {F : Nat → Prop} {B : Blk} {w : World} {c c' : Nat} (ρ : Nat → Nat) : ∀ (x : AV) (v : Value), okG c' x = true → VR w F B c (rnAV ρ x) v → VR w F (fun g => B (ρ g)) c' x v
  | .d x, v, _, h => by simpa only [rnAV, VR] using h
  | .nils, v, _, h => by simpa only [rnAV, VR] using h
  | .ref k g sz off len, v, ho, h => by
    simp only [okG, decide_eq_true_eq] at ho
    simp only [rnAV, VR] at h ⊢
    exact ⟨ho, h.2⟩
  | .elt k g sz j o, v, ho, h => by
    simp only [okG, decide_eq_true_eq] at ho
    simp only [rnAV, VR] at h ⊢
    exact ⟨ho, h.2⟩
  | .addr k g o, v, ho, h => by
    simp only [okG, decide_eq_true_eq] at ho
    simp only [rnAV, VR] at h ⊢
    exact ⟨ho, h.2⟩
  | .mp k g, v, ho, h => by
    simp only [okG, decide_eq_true_eq] at ho
    simp only [rnAV, VR] at h ⊢
    exact ⟨ho, h.2⟩
  | .nref k g l, v, ho, h => by
    simp only [okG, decide_eq_true_eq] at ho
    simp only [rnAV, VR] at h ⊢
    exact ⟨ho, h.2⟩
  | .sub k g j sz l, v, ho, h => by
    simp only [okG, decide_eq_true_eq] at ho
    simp only [rnAV, VR] at h ⊢
    exact ⟨ho, h.2⟩
  | .selt k g j sz l, v, ho, h => by
    simp only [okG, decide_eq_true_eq] at ho
    simp only [rnAV, VR] at h ⊢
    exact ⟨ho, h.2⟩
  | .agg l, v, ho, h => by
    simp only [okG] at ho
    simp only [rnAV, VR] at h ⊢
    obtain ⟨cs, e, h0, h1⟩ := h
    exact ⟨cs, e, by rw [← h0]; exact (cells_rn ρ l).symm, VRl_rn ρ l _ ho h1⟩
  | .tup l, v, ho, h => by
    simp only [okG] at ho
    simp only [rnAV, VR] at h ⊢
    obtain ⟨vs, e, h1⟩ := h
    exact ⟨vs, e, VRl_rn ρ l _ ho h1⟩
  | .clo fn f cp, v, ho, h => by
    simp only [okG, Bool.and_eq_true] at ho
    simp only [rnAV, VR] at h ⊢
    obtain ⟨fv, cv, e, h1, h2⟩ := h
    exact ⟨fv, cv, e, VRl_rn ρ f _ ho.1 h1, VRl_rn ρ cp _ ho.2 h2⟩
  | .opt q x, v, ho, h => by
    simp only [okG] at ho
    simp only [rnAV, VR] at h ⊢
    exact ⟨fun hq => VR_rn ρ x v ho (h.1 hq), h.2⟩
  | .dead, v, _, h => by simp [VR]
theorem VRl_rn {F : Nat → Prop} {B : Blk} {w : World} {c c' : Nat} (ρ : Nat → Nat) : ∀ (l : List AV) (vs : List Value), okGs c' l = true → VRl w F B c (rnAVs ρ l) vs → VRl w F (fun g => B (ρ g)) c' l vs
  | [], vs, _, h => by simpa only [rnAVs, VRl] using h
  | x :: r, vs, ho, h => by
    simp only [okGs, Bool.and_eq_true] at ho
    simp only [rnAVs, VRl] at h ⊢
    obtain ⟨v, vs', e, h1, h2⟩ := h
    exact ⟨v, vs', e, VR_rn ρ x v ho.1 h1, VRl_rn ρ r vs' ho.2 h2⟩
theorem cell_rn (ρ : Nat → Nat) : ∀ x : AV, (rnAV ρ x).cell = x.cell
  | .d x => rfl
  | .nils => rfl
  | .ref .. => rfl
  | .elt .. => rfl
  | .addr .. => rfl
  | .mp .. => rfl
  | .nref .. => rfl
  | .sub .. => rfl
  | .selt .. => rfl
  | .agg _ => rfl
  | .tup _ => rfl
  | .clo .. => rfl
  | .opt .. => rfl
  | .dead => rfl
theorem cells_rn (ρ : Nat → Nat) : ∀ l : List AV, cellsOK (rnAVs ρ l) = cellsOK l
  | [] => rfl
  | x :: r => by simp only [rnAVs, cellsOK, cell_rn ρ x, cells_rn ρ r]
end
def rho (S S' : St) (g : Nat) : Nat := if g < 16 then g else rnG S.H S'.H g
 
structure Forget (S S' : St) : Prop where
  E : ∀ p ∈ S'.E, getIn S.E p.1 = rnAV (rho S S') p.2 ∧ okG S'.c p.2 = true
  H : ∀ x ∈ S'.H, (x.1, rho S S' x.2.1, rnAO (rho S S') x.2.2) ∈ S.H ∧ x.2.1 < S'.c ∧ okAO S'.c x.2.2 = true
  nodup : (S'.H.map fun x => rho S S' x.2.1).Nodup
  pin : 16 ≤ S'.c
theorem getIn_mem : ∀ (E : List (Nat × AV)) (t : Nat), getIn E t = .dead ∨ ∃ p ∈ E, p.1 = t ∧ p.2 = getIn E t
  | [], t => .inl rfl
  | (k, v) :: r, t => by
    simp only [getIn]
    split
    · rename_i h; exact .inr ⟨(k, v), by simp, h, rfl⟩
    · rcases getIn_mem r t with h | ⟨p, hp, h1, h2⟩
      · exact .inl h
      · exact .inr ⟨p, by simp [hp], h1, h2⟩
theorem FR.forget {F : Nat → Prop} {B : Blk} {w : World} {a : Act} {S S' : St} (hf : FR F B w S a) (h : Forget S S') : FR F (fun g => B (rho S S' g)) w S' a := by
  refine ⟨fun t => ?_, fun k g o hm => ?_, fun b hb => ?_, ?_, fun x hx => ?_, hf.Flt, hf.defers, h.pin⟩
  · rcases getIn_mem S'.E t with h1 | ⟨p, hp, h5, h6⟩
    · rw [h1]; simp [VR]
    · obtain ⟨e1, e2⟩ := h.E p hp
      have hs := hf.slots t
      rw [← h5, e1] at hs
      rw [← h6, ← h5]
      exact VR_rn _ _ _ e2 hs
  · obtain ⟨h1, h2, h3⟩ := h.H _ hm
    have ho := (hf.objs _ _ _ h1).2
    refine ⟨h2, ?_⟩
    cases o with
    | row e sz l => simpa only [rnAO, OR] using ho
    | iter s p => simpa only [rnAO, OR] using ho
    | map es => simpa only [rnAO, OR] using ho
    | nest e l => simpa only [rnAO, OR] using ho
    | miter m s t l u =>
      simp only [okAO, decide_eq_true_eq] at h3
      simp only [rnAO, OR] at ho ⊢
      exact ⟨h3, ho.2⟩
    | box e l =>
      simp only [rnAO, OR] at ho ⊢
      obtain ⟨b, n, cs, fr, k1, k2, k3, k4, k5⟩ := ho
      exact ⟨b, n, cs, fr, k1, k2, k3, by rw [← k4]; exact (cells_rn _ l).symm, VRl_rn _ l _ h3 k5⟩
  · obtain ⟨k, g, o, hm, hB⟩ := hb
    exact hf.sep b ⟨_, _, _, (h.H _ hm).1, hB⟩
  · have := h.nodup
    rw [List.pairwise_map]
    have hn := List.pairwise_map.1 (show (S'.H.map fun x => rho S S' x.2.1).Pairwise (· ≠ ·) from this)
    refine List.Pairwise.imp_of_mem (fun {x y} hx hy hne => ?_) hn
    exact ⟨fun e => hne (by rw [e]), fun b e => hf.apartL (h.H _ hx).1 (h.H _ hy).1 hne e⟩
  · exact (hf.own1 _ (h.H _ hx).1).congr rfl fun e => by obtain ⟨_, _, o⟩ := x; cases o <;> first | rfl | exact e
theorem own_forget {B : Blk} {S S' : St} (h : Forget S S') {b : Nat} (ho : Own S'.H (fun g => B (rho S S' g)) b) : Own S.H B b := by
  obtain ⟨k, g, o, hm, hB⟩ := ho
  exact ⟨_, _, _, (h.H _ hm).1, hB⟩
theorem Tr.forget {F : Nat → Prop} {B : Blk} {w : World} {a : Act} {S S' : St} (hf : FR F B w S a) (hn : a.tmps.size = N) (h : Forget S S') : Tr N F B w S F (fun g => B (rho S S' g)) w S' a :=
  ⟨hf.forget h, hn, fun _ h => h, fun _ _ _ => rfl, fun b hb => hb.elim .inl fun hb => .inr (.inl (own_forget h hb)), rfl, rfl, rfl, Nat.le_refl _, fun g hg => by simp only [rho, if_pos hg]⟩
theorem Awp.forget {c : Code} {S' : St} (hS : Forget S S') (h : Awp P N c Q S') : Awp P N c Q S := fun F B w a hf hn =>
  wp_mono (h F _ w a (hf.forget hS) hn) fun e a' w' ⟨S2, F2, B2, q, t⟩ => ⟨S2, F2, B2, q, (Tr.forget hf hn hS).trans t⟩
 
theorem Awp.conseq {c : Code} {Q' : Exit → St → Prop} (hq : ∀ e S, Q e S → ∃ S', Forget S S' ∧ Q' e S') (h : Awp P N c Q S) : Awp P N c Q' S := fun F B w a hf hn =>
  wp_mono (h F B w a hf hn) fun e a' w' ⟨S2, F2, B2, q, t⟩ => by
    obtain ⟨S3, h3, q3⟩ := hq e S2 q
    exact ⟨S3, F2, _, q3, t.trans (Tr.forget t.fr t.n h3)⟩
 
theorem Awp.loop {c : Code} {ι : Type} (I : ι → St) (μ : ι → Nat) (round : ∀ i, Awp P N c (seqQ (fun S' => ∃ j, μ j < μ i ∧ Forget S' (I j)) Q) (I i)) {i : ι} (h : Forget S (I i)) : Awp P N (.loop c) Q S := by
  intro F B w a hf hn
  have key : ∀ n j Fj Bj wj aj, μ j < n → Tr N F B w S Fj Bj wj (I j) aj → Code.rounds P c (fun e a' w' => ∃ S' F' B', Q e S' ∧ Tr N F B w S F' B' w' S' a') n aj wj := by
    intro n
    induction n with
    | zero => intro j Fj Bj wj aj hj; exact absurd hj (Nat.not_lt_zero _)
    | succ n ih =>
      intro j Fj Bj wj aj hj t
      rw [rounds_succ]
      refine wp_mono (round j Fj Bj wj aj t.fr t.n) fun e a1 w1 ⟨S1, F1, B1, q, t1⟩ => ?_
      cases e with
      | normal =>
        obtain ⟨j', hlt, hfg⟩ := q
        exact ih j' F1 _ w1 a1 (by omega) (t.trans (t1.trans (Tr.forget t1.fr t1.n hfg)))
      | _ => exact ⟨S1, F1, B1, q, t.trans t1⟩
  exact wp_loop_rounds _ (key (μ i + 1) i F _ w a (Nat.lt_succ_self _) (Tr.forget hf hn h))
end
 
def vc (P : Program) (T : Tab) (N nv : Nat) (pl : Nat → Plan) : Code → (Exit → St → Prop) → St → Prop
  | .skip, Q, S => Q .normal S
  | .label _, Q, S => Q .normal S
  | .seq x y, Q, S => vc P T N nv pl x (seqQ (vc P T N nv pl y Q) Q) S
  | .cond c x y, Q, S => match S.ev c with
    | .d (.bool b) => (b = true → vc P T N nv pl x Q S) ∧ (b = false → vc P T N nv pl y Q S)
    | _ => False
  | .block id c, Q, S => vc P T N nv pl c (blkQ id Q) S
  | .exit id, Q, S => Q (.exit id) S
  | .ret, Q, S => Q .ret S
  | .region id ops draw, Q, S => bif draw then regD P T nv ops.toList (pl id) S (Q .normal) else regT P T nv ops.toList ops.toList S (Q .normal)
  | c, Q, S => Awp P N c Q S
 
def codeOK (N : Nat) (pl : Nat → Plan) : Code → Bool
  | .seq x y => codeOK N pl x && codeOK N pl y
  | .cond _ x y => codeOK N pl x && codeOK N pl y
  | .block _ c => codeOK N pl c
  | .region id ops draw => ops.toList.all (fun o => dstOK N o.dst) && (!draw || planOK ops.toList (pl id))
  | _ => true
theorem vc_sound {P : Program} {T : Tab} {N nv : Nat} {pl : Nat → Plan} (hm : P.follows .mixedOrders = true) (hT : T.Sound P) : ∀ (c : Code) (Q : Exit → St → Prop) (S : St), codeOK N pl c = true → vc P T N nv pl c Q S → Awp P N c Q S
  | .skip, Q, S, hc, h => Awp.skip h
  | .label _, Q, S, hc, h => Awp.label h
  | .seq x y, Q, S, hc, h => by
    simp only [codeOK, Bool.and_eq_true] at hc
    refine Awp.seq ((vc_sound hm hT x _ S hc.1 h).mono fun e S' q => ?_)
    cases e with
    | normal => exact vc_sound hm hT y Q S' hc.2 q
    | _ => exact q
  | .cond c x y, Q, S, hc, h => by
    simp only [codeOK, Bool.and_eq_true] at hc
    simp only [vc] at h
    split at h
    · rename_i b hb
      exact Awp.cond hb (fun e => vc_sound hm hT x Q S hc.1 (h.1 e)) (fun e => vc_sound hm hT y Q S hc.2 (h.2 e))
    · exact h.elim
  | .block id c, Q, S, hc, h => Awp.block (vc_sound hm hT c _ S hc h)
  | .exit id, Q, S, hc, h => Awp.exit h
  | .ret, Q, S, hc, h => Awp.ret h
  | .region id ops draw, Q, S, hc, h => by
    simp only [codeOK, Bool.and_eq_true, Bool.or_eq_true, Bool.not_eq_true'] at hc
    have e : ops = ops.toList.toArray := by simp
    cases draw with
    | true =>
      have hp := hc.2.resolve_left (by simp)
      rw [e]
      exact Awp_regD hm hT (pl id) hc.1 hp h
    | false =>
      rw [e]
      exact Awp_regT hT hc.1 h
  | .loop c, Q, S, hc, h => h
  | .goto l, Q, S, hc, h => h
  | .rangeFunc .., Q, S, hc, h => h
  | .scope _, Q, S, hc, h => h
  | .refuse _, Q, S, hc, h => h
end Go.Fw
namespace Go.Fw
open Go
set_option linter.unusedVariables false
set_option linter.unusedSimpArgs false
def slotsFrom (i : Nat) : List AV → List (Nat × AV)
  | [] => []
  | x :: r => (i, x) :: slotsFrom (i + 1) r
 
def entry (args : List CV) : St := ⟨slotsFrom 0 (interns [] 0 0 args).1, (interns [] 0 0 args).2.1, 16⟩
def retAVs (P : Program) (S : St) : List ResultVar → (List AV → Prop) → Prop
  | [], K => K []
  | .tmp t :: r, K => retAVs P S r fun l => K (getIn S.E t :: l)
  | .cell a t :: r, K => loadV P t S (getIn S.E a) fun av => retAVs P S r fun l => K (av :: l)
 
def backs (H : List (Key × Nat × AO)) : List Bool → List AV → Option (List CV × List Key)
  | _, [] => some ([], [])
  | bs, x :: xs => match backs H bs.tail xs with
    | some (cs, ks) => bif bs.headD false then match ext H 60 x with
        | some (c, k1) => some (c :: cs, k1 ++ ks)
        | none => none
      else some (.gone :: cs, ks)
    | none => none
def retV (P : Program) (res : List ResultVar) (rm : List Mode) (am : List Bool) (args : List CV) (S : St) (R : List CV → List CV → Prop) : Prop :=
  retAVs P S res fun rvs => match argsC P S.H rm rvs, backs S.H am (interns [] 0 0 args).1 with
    | some (rs, kf, [], ko), some (az, ka) => bif okK (ko ++ ka) kf [] then R rs az else False
    | _, _ => False
def backsU (H : List (Key × Nat × AO)) : List Bool → List AV → Option (List CV × List Key)
  | _, [] => some ([], [])
  | bs, x :: xs => match backsU H bs.tail xs with
    | some (cs, ks) => bif bs.headD false then match extu H 60 x with
        | some (c, k1) => some (c :: cs, k1 ++ ks)
        | none => none
      else some (.gone :: cs, ks)
    | none => none
def backsok (H : List (Key × Nat × AO)) : List Bool → List AV → Prop
  | _, [] => True
  | bs, x :: xs => (bif bs.headD false then extok H 60 x else True) ∧ backsok H bs.tail xs
def backsokK (H : List (Key × Nat × AO)) : List Bool → List AV → Prop → Prop
  | _, [], K => K
  | bs, x :: xs, K => bif bs.headD false then extokK H 60 x (backsokK H bs.tail xs K) else backsokK H bs.tail xs K
theorem backsokK_imp (H : List (Key × Nat × AO)) : ∀ (bs : List Bool) (xs : List AV) (K : Prop), backsokK H bs xs K → backsok H bs xs ∧ K
  | _, [], K, h => ⟨trivial, h⟩
  | bs, x :: r, K, h => by
    simp only [backsokK] at h
    simp only [backsok]
    cases hm : bs.headD false with
    | true =>
      rw [hm] at h
      obtain ⟨h1, h2⟩ := extokK_imp H 60 x _ h
      obtain ⟨h3, h4⟩ := backsokK_imp H bs.tail r K h2
      exact ⟨⟨h1, h3⟩, h4⟩
    | false =>
      rw [hm] at h
      obtain ⟨h3, h4⟩ := backsokK_imp H bs.tail r K h
      exact ⟨⟨trivial, h3⟩, h4⟩
theorem backsU_eq (H : List (Key × Nat × AO)) : ∀ (bs : List Bool) (xs : List AV), backsok H bs xs → backsU H bs xs = backs H bs xs
  | _, [], _ => rfl
  | bs, x :: r, h => by
    simp only [backsok] at h
    simp only [backsU, backs, backsU_eq H bs.tail r h.2]
    cases backs H bs.tail r with
    | none => rfl
    | some q =>
      obtain ⟨cs, ks⟩ := q
      cases hm : bs.headD false with
      | true => rw [hm] at h; simp only [extu_eq H 60 x h.1]
      | false => rfl
def retU (P : Program) (res : List ResultVar) (rm : List Mode) (am : List Bool) (args : List CV) (S : St) (R : List CV → List CV → Prop) : Prop :=
  retAVs P S res fun rvs => argsokK S.H rm rvs (backsokK S.H am (interns [] 0 0 args).1 (match argsU P S.H rm rvs, backsU S.H am (interns [] 0 0 args).1 with
    | some (rs, kf, [], ko), some (az, ka) => bif okK (ko ++ ka) kf [] then R rs az else False
    | _, _ => False))
theorem loadV_mono {P : Program} {t : TypeId} {S : St} {x : AV} {K K' : AV → Prop} (hk : ∀ a, K a → K' a) (h : loadV P t S x K) : loadV P t S x K' := by
  unfold loadV at h ⊢
  split at h
  · split at h
    · exact ⟨h.1, h.2.1, hk _ h.2.2⟩
    · split at h
      · exact ⟨h.1, h.2.1, hk _ h.2.2⟩
      · exact h.elim
    · split at h
      · refine ⟨h.1, h.2.1, h.2.2.1, fun y hy => ?_⟩
        rcases h.2.2.2 y hy with h4 | h4
        · exact .inl ⟨h4.1, h4.2.1, h4.2.2.1, h4.2.2.2.1, hk _ h4.2.2.2.2⟩
        · right
          split at h4
          · exact ⟨h4.1, hk _ h4.2⟩
          · exact h4.elim
      · refine ⟨h.1, h.2.1, h.2.2.1, h.2.2.2.1, h.2.2.2.2.1, fun y hy => ?_⟩
        have h4 := h.2.2.2.2.2 y hy
        cases y with
        | d x => exact hk _ h4
        | row e z il => exact hk _ h4
        | hole => exact h4.elim
      · exact h.elim
    · exact h.elim
  · exact h.elim
theorem retAVs_mono {P : Program} {S : St} : ∀ (res : List ResultVar) {K K' : List AV → Prop}, (∀ l, K l → K' l) → retAVs P S res K → retAVs P S res K'
  | [], K, K', hk, h => hk _ h
  | .tmp t :: r, K, K', hk, h => retAVs_mono r (fun l => hk _) h
  | .cell a t :: r, K, K', hk, h => loadV_mono (fun av => retAVs_mono r fun l => hk _) h
theorem retU_imp {P : Program} {res : List ResultVar} {rm : List Mode} {am : List Bool} {args : List CV} {S : St} {R : List CV → List CV → Prop} (h : retU P res rm am args S R) : retV P res rm am args S R := by
  refine retAVs_mono res (fun rvs hr => ?_) h
  obtain ⟨h1, hr⟩ := argsokK_imp _ _ _ _ hr
  obtain ⟨h2, h3⟩ := backsokK_imp _ _ _ _ hr
  rw [argsU_eq P S.H _ _ h1, backsU_eq S.H _ _ h2] at h3
  exact h3
section
variable {P : Program} {F : Nat → Prop} {B : Blk} {w w' : World} {S : St} {a : Act} {N nv : Nat}
theorem getIn_slotsFrom : ∀ (l : List AV) (i t : Nat), getIn (slotsFrom i l) t = if i ≤ t then l.getD (t - i) .dead else .dead
  | [], i, t => by simp [slotsFrom, getIn]
  | x :: r, i, t => by
    simp only [slotsFrom, getIn]
    by_cases h : i = t
    · subst h; simp
    · rw [if_neg h, getIn_slotsFrom r (i + 1) t]
      by_cases h2 : i ≤ t
      · rw [if_pos h2, if_pos (by omega)]
        have : t - i = (t - (i + 1)) + 1 := by omega
        rw [this]
        simp
      · rw [if_neg h2, if_neg (by omega)]
theorem entry_FR {args : List CV} {vs : List Value} {fp : List Nat} (h : CRl w F args vs fp) (hn : fp.Nodup) (hs : ∀ b ∈ fp, ¬ F b ∧ b < w.heap.size) (hF : FL F w) (m : Nat) (h16 : (interns [] 0 0 args).2.2 ≤ 16) :
    ∃ B, FR F B w (entry args) { tmps := vs.toArray ++ Array.replicate m undef, defers := [] } ∧ (∀ b, Own (entry args).H B b → b ∈ fp) ∧ VRl w F B (entry args).c (interns [] 0 0 args).1 vs := by
  obtain ⟨B, hL, hv, _⟩ := interns_spec args [] 0 0 vs fp (fun _ => none) h hn
  have hv' : VRl w F B 16 (interns [] 0 0 args).1 vs := VRl.mono (fun _ _ => rfl) (fun _ h => h) (fun _ _ => rfl) h16 _ _ hv
  refine ⟨B, ⟨fun t => ?_, fun k g o hm => ⟨Nat.lt_of_lt_of_le (hL.objs _ hm).2.1 h16, (hL.objs _ hm).2.2.lift (fun _ _ => rfl) h16 (hL.objs _ hm).2.1⟩, fun b hb => ?_, hL.inj, hL.own1, hF, rfl, Nat.le_refl _⟩, fun b hb => ?_, hv'⟩
  · show VR w F B _ (getIn (slotsFrom 0 _) t) _
    rw [getIn_slotsFrom, if_pos (Nat.zero_le _), Nat.sub_zero]
    by_cases ht : t < (interns [] 0 0 args).1.length
    · obtain ⟨v, h1, h2⟩ := hv'.get t ht
      have hlt : t < vs.length := by rw [hv.length]; exact ht
      have e : ({ tmps := vs.toArray ++ Array.replicate m undef, defers := [] } : Act).tmps.getD t undef = v := by
        show (vs.toArray ++ Array.replicate m undef).getD t undef = v
        rw [Array.getD_eq_getD_getElem?, Array.getElem?_append_left (by simpa using hlt)]
        simp [h1]
      rw [e]
      exact h2
    · have : (interns [] 0 0 args).1.getD t .dead = .dead := by
        simp [List.getD_eq_getElem?_getD, List.getElem?_eq_none (Nat.not_lt.1 ht)]
      rw [this]
      simp [VR]
  · obtain ⟨k, g, o, hm, hB⟩ := hb
    exact hs b (hL.blk _ hm b hB)
  · obtain ⟨k, g, o, hm, hB⟩ := hb
    exact hL.blk _ hm b hB
theorem asAddr_load {t : TypeId} {u v : Value} (h : (Instr.loadAt t u).run P w = .ok v w) : (do loadVar t (← asAddr u) : Sem Value).run P w = .ok v w := by
  unfold Instr.loadAt at h
  cases u <;> simp [Instr.sureAddr, asAddr] at h ⊢
  rename_i o
  cases o <;> simp at h ⊢
  exact h
theorem retAVs_run (hf : FR F B w S a) : ∀ (res : List ResultVar) (K : List AV → Prop), retAVs P S res K →
    ∃ vr rvs, (res.mapM (m := Sem) (fun
      | .tmp t => pure (a.tmps.getD t undef)
      | .cell ad t => do loadVar t (← asAddr (a.tmps.getD ad undef)) : ResultVar → Sem Value)).run P w = .ok vr w ∧ VRl w F B S.c rvs vr ∧ K rvs
  | [], K, h => ⟨[], [], by simp, by simp [VRl], h⟩
  | .tmp t :: r, K, h => by
    obtain ⟨vr, rvs, h1, h2, h3⟩ := retAVs_run hf r _ h
    refine ⟨a.tmps.getD t undef :: vr, getIn S.E t :: rvs, ?_, ?_, h3⟩
    · simp only [List.mapM_cons, Sem.run_bind, Sem.run_pure, Result.andThen_ok, h1]
    · simp only [VRl]
      exact ⟨_, _, rfl, hf.slots t, h2⟩
  | .cell ad t :: r, K, h => by
    obtain ⟨v, av, h1, h2, h3⟩ := loadV_run hf (hf.slots ad) h
    obtain ⟨vr, rvs, k1, k2, k3⟩ := retAVs_run hf r _ h3
    refine ⟨v :: vr, av :: rvs, ?_, ?_, k3⟩
    · have := asAddr_load (h1 w (Ext.refl w))
      simp only [Sem.run_bind] at this
      simp only [List.mapM_cons, Sem.run_bind, this, Sem.run_pure, Result.andThen_ok, k1]
    · simp only [VRl]
      exact ⟨_, _, rfl, h2, k2⟩
theorem backs_spec (hf : FR F B w S a) : ∀ (bs : List Bool) (xs : List AV) (cs : List CV) (ks : List Key) (vs : List Value), backs S.H bs xs = some (cs, ks) → VRl w F B S.c xs vs → CRl w F cs vs (fpOf S.H B ks)
  | bs, [], cs, ks, vs, h, hv => by
    simp only [backs, Option.some.injEq, Prod.mk.injEq] at h
    obtain ⟨rfl, rfl⟩ := h
    simp only [VRl] at hv
    simp only [CRl]
    exact ⟨hv, rfl⟩
  | bs, x :: r, cs, ks, vs, h, hv => by
    simp only [backs] at h
    simp only [VRl] at hv
    obtain ⟨v, vs', rfl, hv1, hv2⟩ := hv
    split at h
    · rename_i cs0 ks0 h0
      have ih := backs_spec hf bs.tail r cs0 ks0 vs' h0 hv2
      cases hb : bs.headD false with
      | true =>
        simp only [hb, cond_true] at h
        split at h
        · rename_i c k1 hx
          simp only [Option.some.injEq, Prod.mk.injEq] at h
          obtain ⟨rfl, rfl⟩ := h
          simp only [CRl]
          exact ⟨v, vs', _, _, rfl, (ext_spec hf 60 x c k1 v hx hv1).1, ih, fpOf_append _ _⟩
        · cases h
      | false =>
        simp only [hb, cond_false, Option.some.injEq, Prod.mk.injEq] at h
        obtain ⟨rfl, rfl⟩ := h
        simp only [CRl]
        exact ⟨v, vs', [], _, rfl, by simp [CR], ih, rfl⟩
    · cases h
theorem results_run {fn : Func} {tmps : Array Value} {vr : List Value} (h : (fn.results.toList.mapM (m := Sem) (fun
      | .tmp t => pure (tmps.getD t undef)
      | .cell ad t => do loadVar t (← asAddr (tmps.getD ad undef)) : ResultVar → Sem Value)).run P w = .ok vr w) : ∃ v, (results fn tmps).run P w = .ok v w ∧ Rv v vr := by
  have h' : (fn.results.mapM (m := Sem) (fun
      | .tmp t => pure (tmps.getD t undef)
      | .cell ad t => do loadVar t (← asAddr (tmps.getD ad undef)) : ResultVar → Sem Value)).run P w = .ok vr.toArray w := by
    rw [Array.mapM_eq_mapM_toList, map_eq_pure_bind]
    simp only [Sem.run_bind, h, Result.andThen_ok, Sem.run_pure]
  refine ⟨if h : vr.toArray.size = 1 then vr.toArray[0] else .tuple vr.toArray, ?_, ?_⟩
  · unfold results
    simp only [Sem.run_bind, Sem.run_pure]
    exact congrArg (fun r => Result.andThen r fun (a : Array Value) w' => Result.ok (if h : a.size = 1 then a[0] else Value.tuple a) w') h'
  · match vr with
    | [] => simp [Rv]
    | [x] => simp [Rv]
    | x :: y :: r => simp [Rv]
 
theorem Con_of_code {g : FuncId} {fn : Func} {c : Code} {args : List CV} {R : List CV → List CV → Prop} (hfn : P.funcs[g]? = some fn) (hname : (fn.name == "runtime.NumGoroutine") = false) (hb : fn.body = some c)
    (hlen : args.length ≤ fn.ntmps) (h16 : (interns [] 0 0 args).2.2 ≤ 16) (rm : List Mode) (am : List Bool) (h : Awp P fn.ntmps c (fun e S => (e = .normal ∨ e = .ret) ∧ retV P fn.results.toList rm am args S R) (entry args)) : Con P g args R := by
  intro F w vs fp hcr hn hs hF
  have hvl : vs.length = args.length := by
    have : ∀ {l : List CV} {vs : List Value} {fp : List Nat}, CRl w F l vs fp → vs.length = l.length := by
      intro l
      induction l with
      | nil => intro vs fp h; simp only [CRl] at h; simp [h.1]
      | cons x r ih => intro vs fp h; simp only [CRl] at h; obtain ⟨v, vs', f1, f2, rfl, _, h2, _⟩ := h; simp [ih h2]
    exact this hcr
  have hrun : (callFunc g vs.toArray).run P w = .ok (.enter g vs.toArray) w := by
    unfold callFunc
    have hprog : (program : Sem Program).run P w = .ok P w := rfl
    simp only [Sem.run_bind, hprog, Result.andThen_ok, hfn, hname, Bool.false_eq_true, if_false, hb, Option.isNone_some, Sem.run_pure]
  unfold Enters
  rw [hrun]
  obtain ⟨B, hfr, hown, hvr⟩ := entry_FR hcr hn hs hF (fn.ntmps - args.length) h16
  have hsz : (vs.toArray ++ Array.replicate (fn.ntmps - args.length) undef).size = fn.ntmps := by simp; omega
  refine calls_of_wp hfn hb ?_
  have e0 : fn.ntmps - vs.toArray.size = fn.ntmps - args.length := by simp [hvl]
  rw [e0]
  refine wp_mono (h F B w _ hfr hsz) fun e a' w' ⟨S', F', B', ⟨he, q⟩, t⟩ => ?_
  have key : a'.defers = [] ∧ ∃ v, (results fn a'.tmps).run P w' = .ok v w' ∧ ∃ rs az F' vr f1 f2, R rs az ∧ Left F w vs fp rs az v w' F' vr f1 f2 := by
    refine ⟨t.fr.defers, ?_⟩
    obtain ⟨vr, rvs, h1, h2, h3⟩ := retAVs_run t.fr fn.results.toList _ q
    obtain ⟨v, hv1, hv2⟩ := results_run h1
    refine ⟨v, hv1, ?_⟩
    split at h3
    · rename_i rs kf ko az ka hrs has
      cases hok : okK (ko ++ ka) kf [] with
      | false => rw [hok] at h3; exact h3.elim
      | true =>
      rw [hok] at h3
      have hR : R rs az := h3
      obtain ⟨hnd, hdj'⟩ := okK_spec hok
      have hdj : ∀ k ∈ ko ++ ka, k ∉ kf := fun k hk => (hdj' k hk).1
      have hcr1 := argsC_spec t.fr _ _ _ _ _ _ _ hrs h2
      have hvr' : VRl w' F' B' S'.c (interns [] 0 0 args).1 vs := VRl.mono (fun b hb => t.keep b (hF b hb) fun ho => (hs b (hown b ho)).1 hb) t.sub t.old t.fr.pin _ _ hvr
      have hcr2 := backs_spec t.fr _ _ _ _ _ has hvr'
      have hfz := t.fr.freeze kf
      have hnew : ∀ b, F' b ∨ Own S'.H B' b → F b ∨ b ∈ fp ∨ w.heap.size ≤ b := fun b hb => by
        rcases t.new b hb with h | h | h
        · exact .inl h
        · exact .inr (.inl (hown b h))
        · exact .inr (.inr h)
      have hfo : ∀ ks b, FK S'.H B' ks b → Own S'.H B' b := fun ks b hb => by
        obtain ⟨k, g, o, _, hm, hB⟩ := hb
        exact ⟨k, g, o, hm, hB⟩
      have hfpo : ∀ b ∈ fpOf S'.H B' ko ++ fpOf S'.H B' ka, FK S'.H B' (ko ++ ka) b := fun b hb => by
        rw [← fpOf_append] at hb
        exact fpOf_mem hb
      refine ⟨rs, az, fun b => F' b ∨ FK S'.H B' kf b, vr, fpOf S'.H B' ko, fpOf S'.H B' ka, hR, hv2, ?_, ?_, ?_, fun b hb => ⟨fun hF' => ?_, (t.fr.sep b (hfo _ b (hfpo b hb))).2⟩, fun b hb => ?_, fun b hb => .inl (t.sub b hb), fun b hb hnb => t.keep b hb fun ho => hnb (hown b ho), fun b hb => ?_, t.os, t.tape, t.output, t.size⟩
      · refine CRl.mono (fun b hb => ?_) _ _ _ hcr1
        rcases hb with h | h | ⟨_, _, _, h, _⟩
        · exact .inl h
        · exact .inr h
        · cases h
      · exact CRl.mono (fun b hb => .inl hb) _ _ _ hcr2
      · rw [← fpOf_append]
        exact fpOf_nodup t.fr hnd
      · have hfk := hfpo b hb
        rcases hF' with h | ⟨k1, g1, o1, hk1, hm1, hB1⟩
        · exact (t.fr.sep b (hfo _ b hfk)).1 h
        · obtain ⟨k, g, o, hk, hm, hB⟩ := hfk
          by_cases hg : g = g1
          · have := same_entry t.fr.gensNodup hm hm1 hg
            simp only [Prod.mk.injEq] at this
            exact hdj k hk (this.1 ▸ hk1)
          · exact t.fr.apartL hm hm1 hg hB hB1
      · rcases hb with h | h
        · exact t.fr.Flt b h
        · exact (t.fr.sep b (hfo _ b h)).2
      · rcases hb with (h | h) | h
        · exact hnew b (.inl h)
        · exact hnew b (.inr (hfo _ b h))
        · exact hnew b (.inr (hfo _ b (hfpo b h)))
    · exact h3.elim
  rcases he with rfl | rfl
  · exact key
  · exact key
end
end Go.Fw
namespace Go.Fw
open Go
set_option linter.unusedVariables false
set_option linter.unusedSimpArgs false
 
structure Has (P : Program) (g : FuncId) (args : List CV) (R : List CV → List CV → Prop) : Prop where
  con : Con P g args R
structure Loops (P : Program) (N : Nat) (c : Code) (Q : Exit → St → Prop) (S : St) : Prop where
  awp : Awp P N c Q S
theorem Has.mono {P : Program} {g : FuncId} {args : List CV} {R R' : List CV → List CV → Prop} (h : Has P g args R) (hr : ∀ rs bs, R rs bs → R' rs bs) : Has P g args R' := ⟨h.con.mono hr⟩
theorem wrap_u8_nat (n : Nat) : IntKind.u8.wrap (n : Int) = ((UInt8.ofNat n).toNat : Int) := by
  simp [IntKind.wrap, IntKind.bits, IntKind.signed]
theorem wrap_u8 {n : Int} (h1 : 0 ≤ n) (h2 : n < 256) : IntKind.u8.wrap n = n := by
  simp [IntKind.wrap, IntKind.bits, IntKind.signed]
  omega
theorem wrap_i64_u8 (b : UInt8) : IntKind.i64.wrap (b.toNat : Int) = (b.toNat : Int) := wrap_id (by omega) (by have := b.toNat_lt; omega)
theorem allU8_bytes : ∀ a : List UInt8, allU8 (a.map byteD) = true
  | [] => rfl
  | x :: r => by simp only [List.map_cons, allU8, byteD]; exact allU8_bytes r
theorem dByte_bytes : ∀ a : List UInt8, (a.map byteD).map dByte = a
  | [] => rfl
  | x :: r => by
    simp only [List.map_cons, dByte_bytes r]
    congr 1
    simp [byteD, dByte]
def strB (l : List UInt8) : ByteArray := ⟨l.toArray⟩
theorem str_of_bytes (a : List UInt8) : (⟨((a.map byteD).map dByte).toArray⟩ : ByteArray) = strB a := by rw [dByte_bytes]; rfl
theorem byteD_mk (b : UInt8) : D.int .u8 (b.toNat : Int) = byteD b := rfl
theorem take_bytes (s : ByteArray) : List.take s.size (List.map byteD s.data.toList) = List.map byteD s.data.toList := List.take_of_length_le (by simp)
theorem min_nn (a b : Nat) : min (a : Int) (b : Int) = ((min a b : Nat) : Int) := by omega
theorem max_nn (a b : Nat) : max (a : Int) (b : Int) = ((max a b : Nat) : Int) := by omega
theorem min_ln (a b : Nat) : min (no_index (OfNat.ofNat a) : Int) (b : Int) = ((min a b : Nat) : Int) := min_nn a b
theorem min_nl (a b : Nat) : min (a : Int) (no_index (OfNat.ofNat b) : Int) = ((min a b : Nat) : Int) := min_nn a b
theorem max_ln (a b : Nat) : max (no_index (OfNat.ofNat a) : Int) (b : Int) = ((max a b : Nat) : Int) := max_nn a b
theorem max_nl (a b : Nat) : max (a : Int) (no_index (OfNat.ofNat b) : Int) = ((max a b : Nat) : Int) := max_nn a b
theorem take_data (s : ByteArray) : List.take s.size s.data.toList = s.data.toList := List.take_of_length_le (by simp)
theorem map_snoc {α : Type} (f : α → D) (l : List α) (x : α) : List.map f l ++ [f x] = List.map f (l ++ [x]) := by simp
theorem set_map {α : Type} (f : α → D) (l : List α) (i : Nat) (x : α) : (List.map f l).set i (f x) = List.map f (l.set i x) := by rw [List.map_set]
theorem take_map' {α : Type} (f : α → D) (l : List α) (i : Nat) : (List.map f l).take i = List.map f (l.take i) := by rw [List.map_take]
theorem drop_map' {α : Type} (f : α → D) (l : List α) (i : Nat) : (List.map f l).drop i = List.map f (l.drop i) := by rw [List.map_drop]
theorem map_app {α : Type} (f : α → D) (l m : List α) : List.map f l ++ List.map f m = List.map f (l ++ m) := by simp
theorem toNat_pred (i : Nat) : ((i : Int) - 1).toNat = i - 1 := by omega
theorem toNat_succ (i : Nat) : ((i : Int) + 1).toNat = i + 1 := by omega
theorem toNat_addn (i j : Nat) : ((i : Int) + (j : Int)).toNat = i + j := by omega
theorem toNat_subn (i j : Nat) : ((i : Int) - (j : Int)).toNat = i - j := by omega
theorem rb {a b : Bool} (h : a = b) : [CV.d (D.bool a)] = [CV.d (D.bool b)] := by rw [h]
theorem ri {k : IntKind} {a b : Int} (h : a = b) : [CV.d (D.int k a)] = [CV.d (D.int k b)] := by rw [h]
 
def tab (P : Program) (M : FuncId → List Mode) : Tab := ⟨M, Has P⟩
theorem tab_sound (P : Program) (M : FuncId → List Mode) : (tab P M).Sound P := fun _ _ _ h => h.con
 
def FitE (S S' : St) : List (Nat × AV) → Prop
  | [] => True
  | p :: r => (getIn S.E p.1 = rnAV (rho S S') p.2 ∧ okG S'.c p.2 = true) ∧ FitE S S' r
def FitH (S S' : St) : List (Key × Nat × AO) → Prop
  | [] => True
  | x :: r => (objIn S.H x.1 = some (rho S S' x.2.1, rnAO (rho S S') x.2.2) ∧ Nat.blt x.2.1 S'.c = true ∧ okAO S'.c x.2.2 = true) ∧ FitH S S' r
theorem FitE.all {S S' : St} : ∀ {l : List (Nat × AV)}, FitE S S' l → ∀ p ∈ l, getIn S.E p.1 = rnAV (rho S S') p.2 ∧ okG S'.c p.2 = true
  | [], _, p, hp => by simp at hp
  | q :: r, h, p, hp => by
    rcases List.mem_cons.1 hp with rfl | hp
    · exact h.1
    · exact h.2.all p hp
theorem FitH.all {S S' : St} : ∀ {l : List (Key × Nat × AO)}, FitH S S' l → ∀ x ∈ l, (x.1, rho S S' x.2.1, rnAO (rho S S') x.2.2) ∈ S.H ∧ x.2.1 < S'.c ∧ okAO S'.c x.2.2 = true
  | [], _, p, hp => by simp at hp
  | q :: r, h, p, hp => by
    rcases List.mem_cons.1 hp with rfl | hp
    · exact ⟨mem_of_objIn h.1.1, Nat.le_of_ble_eq_true h.1.2.1, h.1.2.2⟩
    · exact h.2.all p hp
 
def nodupB : List Nat → Bool
  | [] => true
  | n :: r => r.all (fun m => !(Nat.beq n m)) && nodupB r
theorem nodupB_spec : ∀ {l : List Nat}, nodupB l = true → l.Nodup
  | [], _ => List.nodup_nil
  | n :: r, h => by
    simp only [nodupB, Bool.and_eq_true, List.all_eq_true, Bool.not_eq_true'] at h
    refine List.nodup_cons.2 ⟨fun hm => ?_, nodupB_spec h.2⟩
    have := h.1 n hm
    simp [Nat.beq_refl] at this
theorem Forget.mk' {S S' : St} (hE : FitE S S' S'.E) (hH : FitH S S' S'.H) (hn : nodupB (S'.H.map fun x => rho S S' x.2.1) = true) (hc : Nat.ble 16 S'.c = true) : Forget S S' := ⟨hE.all, hH.all, nodupB_spec hn, Nat.le_of_ble_eq_true hc⟩
section
variable {P : Program} {N : Nat} {Q : Exit → St → Prop} {S : St} {c : Code}
theorem Awp.len {t sz : Nat} {l : List D} (ht : getIn S.E t = .d (.sl sz l)) (h : l.length ≤ maxLen → Awp P N c Q S) : Awp P N c Q S := by
  intro F B w a hf hn
  have hs := hf.slots t
  rw [ht] at hs
  simp only [VR, DRv, DRc] at hs
  obtain ⟨A, cc, _, h1, h2, _⟩ := hs
  exact h (by omega) F B w a hf hn
theorem getD_map {α : Type} [Inhabited α] (f : α → D) : ∀ {l : List α} {i : Nat}, i < l.length → (l.map f).getD i default = f (l.getD i default)
  | [], _, h => absurd h (Nat.not_lt_zero _)
  | x :: r, 0, _ => rfl
  | x :: r, i + 1, h => by simpa using getD_map f (l := r) (i := i) (by simpa using h)
theorem Awp.lenRow {k : Key} {g e sz : Nat} {l : List D} (ht : objIn S.H k = some (g, .row e sz l)) (h : l.length ≤ maxLen → Awp P N c Q S) : Awp P N c Q S := by
  intro F B w a hf hn
  have hs := hf.objsIn ht
  refine h ?_ F B w a hf hn
  simp only [OR] at hs
  split at hs
  · subst hs; simp
  · obtain ⟨cs, fr, _, _, _, _, h1, h2, _⟩ := hs
    omega
theorem Has.len {g : FuncId} {args : List CV} {R : List CV → List CV → Prop} {i sz : Nat} {l : List D} (hi : args[i]? = some (.d (.sl sz l))) (h : l.length ≤ maxLen → Has P g args R) : Has P g args R := by
  constructor
  intro F w vs fp hc hn hs hF
  have key : ∀ {az : List CV} {i : Nat} {vs : List Value} {fp : List Nat}, az[i]? = some (.d (.sl sz l)) → CRl w F az vs fp → l.length ≤ maxLen := by
    intro az
    induction az with
    | nil => intro i vs fp h; simp at h
    | cons x r ih =>
      intro i vs fp h hc
      simp only [CRl] at hc
      obtain ⟨v, vs', f1, f2, rfl, h1, h2, rfl⟩ := hc
      cases i with
      | zero =>
        simp at h
        subst h
        simp only [CR, DRv, DRc] at h1
        obtain ⟨⟨A, cc, _, h3, h4, _⟩, _⟩ := h1
        omega
      | succ i => exact ih (by simpa using h) h2
  exact (h (key hi hc)).con F w vs fp hc hn hs hF
end
end Go.Fw
