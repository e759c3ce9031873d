/- What the proofs of this seat lean on, part 12: a symbolic machine that is shown sound, walks through functions, plain laws. -/
import Derived.Test.YtcmbobdkilcjeaaDoorZ11
namespace Go.Fw
open Go
set_option linter.unusedVariables false
set_option linter.unusedSimpArgs false
def forceN (n : Nat) (K : Nat → Prop) : Prop := match n with
  | 0 => K 0
  | 1 => K 1
  | 2 => K 2
  | 3 => K 3
  | 4 => K 4
  | 5 => K 5
  | 6 => K 6
  | 7 => K 7
  | 8 => K 8
  | 9 => K 9
  | 10 => K 10
  | 11 => K 11
  | 12 => K 12
  | 13 => K 13
  | 14 => K 14
  | 15 => K 15
  | 16 => K 16
  | 17 => K 17
  | 18 => K 18
  | 19 => K 19
  | 20 => K 20
  | 21 => K 21
  | 22 => K 22
  | 23 => K 23
  | 24 => K 24
  | 25 => K 25
  | 26 => K 26
  | 27 => K 27
  | 28 => K 28
  | 29 => K 29
  | 30 => K 30
  | 31 => K 31
  | 32 => K 32
  | 33 => K 33
  | 34 => K 34
  | 35 => K 35
  | 36 => K 36
  | 37 => K 37
  | 38 => K 38
  | 39 => K 39
  | 40 => K 40
  | 41 => K 41
  | 42 => K 42
  | 43 => K 43
  | 44 => K 44
  | 45 => K 45
  | 46 => K 46
  | 47 => K 47
  | 48 => K 48
  | 49 => K 49
  | 50 => K 50
  | 51 => K 51
  | 52 => K 52
  | 53 => K 53
  | 54 => K 54
  | 55 => K 55
  | 56 => K 56
  | 57 => K 57
  | 58 => K 58
  | 59 => K 59
  | 60 => K 60
  | 61 => K 61
  | 62 => K 62
  | 63 => K 63
  | n => K n
theorem forceN_eq (n : Nat) (K : Nat → Prop) : forceN n K = K n := by unfold forceN; split <;> rfl
def forceK : List Nat → (List Nat → Prop) → Prop
  | [], K => K []
  | n :: r, K => forceK r fun r' => K (n :: r')
theorem forceK_eq : ∀ (l : List Nat) (K : List Nat → Prop), forceK l K = K l
  | [], _ => rfl
  | n :: r, K => by rw [forceK, forceK_eq r]
mutual
def AV.force : AV → (AV → Prop) → Prop
  | .d x, K => K (.d x)
  | .nils, K => K .nils
  | .ref k g sz off len, K => forceK k fun k => forceN g fun g => forceN sz fun sz => K (.ref k g sz off len)
  | .elt k g sz j o, K => forceK k fun k => forceN g fun g => forceN sz fun sz => forceN o fun o => K (.elt k g sz j o)
  | .addr k g c, K => forceK k fun k => forceN g fun g => forceN c fun c => K (.addr k g c)
  | .mp k g, K => forceK k fun k => forceN g fun g => K (.mp k g)
  | .nref k g l, K => forceK k fun k => forceN g fun g => K (.nref k g l)
  | .sub k g j sz l, K => forceK k fun k => forceN g fun g => forceN sz fun sz => K (.sub k g j sz l)
  | .selt k g j sz l, K => forceK k fun k => forceN g fun g => forceN sz fun sz => K (.selt k g j sz l)
  | .agg l, K => forces l fun l => K (.agg l)
  | .tup l, K => forces l fun l => K (.tup l)
  | .clo fn f c, K => forces f fun f => forces c fun c => K (.clo fn f c)
  | .opt q x, K => x.force fun x => K (.opt q x)
  | .dead, K => K .dead
def forces : List AV → (List AV → Prop) → Prop
  | [], K => K []
  | x :: r, K => x.force fun x => forces r fun r => K (x :: r)
end
mutual
theorem AV.force_eq : ∀ (x : AV) (K : AV → Prop), x.force K = K x
  | .d x, K => rfl
  | .nils, K => rfl
  | .ref k g sz off len, K => by simp only [AV.force, forceK_eq, forceN_eq]
  | .elt k g sz j o, K => by simp only [AV.force, forceK_eq, forceN_eq]
  | .addr k g c, K => by simp only [AV.force, forceK_eq, forceN_eq]
  | .mp k g, K => by simp only [AV.force, forceK_eq, forceN_eq]
  | .nref k g l, K => by simp only [AV.force, forceK_eq, forceN_eq]
  | .sub k g j sz l, K => by simp only [AV.force, forceK_eq, forceN_eq]
  | .selt k g j sz l, K => by simp only [AV.force, forceK_eq, forceN_eq]
  | .agg l, K => by simp only [AV.force, forces_eq l]
  | .tup l, K => by simp only [AV.force, forces_eq l]
  | .clo fn f c, K => by simp only [AV.force, forces_eq f, forces_eq c]
  | .opt q x, K => by simp only [AV.force, AV.force_eq x]
  | .dead, K => rfl
theorem forces_eq : ∀ (l : List AV) (K : List AV → Prop), forces l K = K l
  | [], _ => rfl
  | x :: r, K => by simp only [forces, AV.force_eq x, forces_eq r]
end
def AO.force : AO → (AO → Prop) → Prop
  | .row e sz l, K => forceN sz fun sz => K (.row e sz l)
  | .box e l, K => forces l fun l => K (.box e l)
  | .iter s p, K => K (.iter s p)
  | .map es, K => K (.map es)
  | .miter m s t l u, K => forceN m fun m => K (.miter m s t l u)
  | .nest e l, K => K (.nest e l)
theorem AO.force_eq (o : AO) (K : AO → Prop) : o.force K = K o := by cases o <;> simp only [AO.force, forceN_eq, forces_eq]
def forceE : List (Nat × AV) → (List (Nat × AV) → Prop) → Prop
  | [], K => K []
  | (k, v) :: r, K => v.force fun v => forceN k fun k => forceE r fun r => K ((k, v) :: r)
theorem forceE_eq : ∀ (l : List (Nat × AV)) (K : List (Nat × AV) → Prop), forceE l K = K l
  | [], _ => rfl
  | (k, v) :: r, K => by simp only [forceE, AV.force_eq, forceN_eq, forceE_eq r]
def forceH : List (Key × Nat × AO) → (List (Key × Nat × AO) → Prop) → Prop
  | [], K => K []
  | (k, g, o) :: r, K => forceK k fun k => forceN g fun g => o.force fun o => forceH r fun r => K ((k, g, o) :: r)
theorem forceH_eq : ∀ (l : List (Key × Nat × AO)) (K : List (Key × Nat × AO) → Prop), forceH l K = K l
  | [], _ => rfl
  | (k, g, o) :: r, K => by simp only [forceH, AO.force_eq, forceK_eq, forceN_eq, forceH_eq r]
def forceS : St → (St → Prop) → Prop
  | ⟨E, H, c⟩, K => forceE E fun E => forceH H fun H => forceN c fun c => K ⟨E, H, c⟩
theorem forceS_eq (S : St) (K : St → Prop) : forceS S K = K S := by cases S; simp only [forceS, forceE_eq, forceH_eq, forceN_eq]
def runT (P : Program) (T : Tab) (nv : Nat) (all : List Oper) : List Oper → St → (St → Prop) → Prop
  | [], S, K => K S
  | o :: r, S, K => stepV P T nv all (kdT P o) o S fun S' => forceS S' fun S' => runT P T nv all r S' K
theorem runT_eq (P : Program) (T : Tab) (nv : Nat) (all : List Oper) : ∀ (r : List Oper) (S : St) (K : St → Prop), runT P T nv all r S K = regT P T nv all r S K
  | [], _, _ => rfl
  | o :: r, S, K => by
    simp only [runT, regT]
    congr 1
    funext S'
    rw [forceS_eq, runT_eq P T nv all r]
 
structure Two (a b : Prop) : Prop where
  l : a
  r : b
theorem two_eq (a b : Prop) : Two a b = (a ∧ b) := propext ⟨fun h => ⟨h.l, h.r⟩, fun h => ⟨h.1, h.2⟩⟩
def runD (P : Program) (T : Tab) (nv : Nat) (all : List Oper) : Plan → St → (St → Prop) → Prop
  | .done, S, K => K S
  | .tak i k _ p, S, K => match all[i]? with
    | some o => stepV P T nv all k o S fun S' => forceS S' fun S' => runD P T nv all p S' K
    | none => False
  | .take i k p, S, K => match all[i]? with
    | some o => stepV P T nv all k o S fun S' => forceS S' fun S' => runD P T nv all p S' K
    | none => False
  | .one i p, S, K => match all[i]? with
    | some o => stepV P T nv all (kdT P o) o S fun S' => forceS S' fun S' => runD P T nv all p S' K
    | none => False
  | .two i p j q, S, K => Two (match all[i]? with
    | some o => stepV P T nv all (kdT P o) o S fun S' => forceS S' fun S' => runD P T nv all p S' K
    | none => False) (match all[j]? with
    | some o => stepV P T nv all (kdT P o) o S fun S' => forceS S' fun S' => runD P T nv all q S' K
    | none => False)
  | .three i p j q k r, S, K => Two (match all[i]? with
    | some o => stepV P T nv all (kdT P o) o S fun S' => forceS S' fun S' => runD P T nv all p S' K
    | none => False) (Two (match all[j]? with
    | some o => stepV P T nv all (kdT P o) o S fun S' => forceS S' fun S' => runD P T nv all q S' K
    | none => False) (match all[k]? with
    | some o => stepV P T nv all (kdT P o) o S fun S' => forceS S' fun S' => runD P T nv all r S' K
    | none => False))
theorem runD_eq (P : Program) (T : Tab) (nv : Nat) (all : List Oper) : ∀ (p : Plan) (S : St) (K : St → Prop), runD P T nv all p S K = regD P T nv all p S K
  | .done, _, _ => rfl
  | .take i k p, S, K => by simp only [runD, regD, forceS_eq, runD_eq P T nv all p]; rfl
  | .one i p, S, K => by simp only [runD, regD, forceS_eq, runD_eq P T nv all p]; rfl
  | .tak i k R p, S, K => by simp only [runD, regD, forceS_eq, runD_eq P T nv all p]; rfl
  | .two i p j q, S, K => by simp only [runD, regD, two_eq, forceS_eq, runD_eq P T nv all p, runD_eq P T nv all q]; rfl
  | .three i p j q k r, S, K => by simp only [runD, regD, two_eq, forceS_eq, runD_eq P T nv all p, runD_eq P T nv all q, runD_eq P T nv all r]; rfl
 
def mark (pl : Nat → Plan) (n : Nat) : Bool := match pl n with
  | .done => false
  | _ => true
def firstReg : Code → Nat
  | .region id _ _ => id
  | .seq x _ => firstReg x
  | .block _ c => firstReg c
  | _ => 999999
structure Cuts (P : Program) (N : Nat) (c : Code) (Q : Exit → St → Prop) (S : St) : Prop where
  awp : Awp P N c Q S
structure Joins (P : Program) (N : Nat) (c : Code) (Q : Exit → St → Prop) (S : St) : Prop where
  awp : Awp P N c Q S
def run (P : Program) (T : Tab) (N nv : Nat) (pl : Nat → Plan) : Code → (Exit → St → Prop) → St → Prop
  | .skip, Q, S => Q .normal S
  | .label _, Q, S => Q .normal S
  | .seq x y, Q, S => bif mark pl (firstReg y + 2000000) then Joins P N (.seq x y) Q S else run P T N nv pl x (seqQ (run P T N nv pl y Q) Q) S
  | .cond c x y, Q, S => match S.ev c with
    | .d (.bool b) => (b = true → run P T N nv pl x Q S) ∧ (b = false → run P T N nv pl y Q S)
    | _ => False
  | .block id c, Q, S => run P T N nv pl c (blkQ id Q) S
  | .exit id, Q, S => Q (.exit id) S
  | .ret, Q, S => Q .ret S
  | .region id ops draw, Q, S => bif mark pl (id + 1000000) then Cuts P N (.region id ops draw) Q S else bif draw then runD P T nv ops.toList (pl id) S (Q .normal) else runT P T nv ops.toList ops.toList S (Q .normal)
  | c, Q, S => Loops P N c Q S
theorem run_sound {P : Program} {T : Tab} {N nv : Nat} {pl : Nat → Plan} (hm : P.follows .mixedOrders = true) (hT : T.Sound P) : ∀ (c : Code) (Q : Exit → St → Prop) (S : St), codeOK N pl c = true → run P T N nv pl c Q S → Awp P N c Q S
  | .skip, Q, S, hc, h => Awp.skip h
  | .label _, Q, S, hc, h => Awp.label h
  | .seq x y, Q, S, hc, h => by
    simp only [codeOK, Bool.and_eq_true] at hc
    simp only [run] at h
    cases hj : mark pl (firstReg y + 2000000) with
    | true => rw [hj] at h; exact h.awp
    | false =>
      rw [hj] at h
      refine Awp.seq ((run_sound hm hT x _ S hc.1 h).mono fun e S' q => ?_)
      cases e with
      | normal => exact run_sound hm hT y Q S' hc.2 q
      | _ => exact q
  | .cond c x y, Q, S, hc, h => by
    simp only [codeOK, Bool.and_eq_true] at hc
    simp only [run] at h
    split at h
    · rename_i b hb
      exact Awp.cond hb (fun e => run_sound hm hT x Q S hc.1 (h.1 e)) (fun e => run_sound hm hT y Q S hc.2 (h.2 e))
    · exact h.elim
  | .block id c, Q, S, hc, h => Awp.block (run_sound hm hT c _ S hc h)
  | .exit id, Q, S, hc, h => Awp.exit h
  | .ret, Q, S, hc, h => Awp.ret h
  | .region id ops draw, Q, S, hc, h => by
    simp only [run] at h
    cases hj : mark pl (id + 1000000) with
    | true => rw [hj] at h; exact h.awp
    | false =>
      rw [hj] at h
      refine vc_sound (nv := nv) hm hT _ Q S hc ?_
      simp only [vc]
      simp only [cond_false, runT_eq, runD_eq] at h
      exact h
  | .loop c, Q, S, hc, h => h.awp
  | .goto l, Q, S, hc, h => h.awp
  | .rangeFunc .., Q, S, hc, h => h.awp
  | .scope _, Q, S, hc, h => h.awp
  | .refuse _, Q, S, hc, h => h.awp
theorem ex_av {A B : AV → Prop} {y : AV} (h1 : A y) (h2 : B y) : ∃ y, A y ∧ B y := ⟨y, h1, h2⟩
 
theorem Has_of_run {P : Program} {M : FuncId → List Mode} {g : FuncId} {fn : Func} {args : List CV} {R : List CV → List CV → Prop} (hm : P.follows .mixedOrders = true) (hfn : P.funcs[g]? = some fn) (nv : Nat) (pl : Nat → Plan) (rm : List Mode) (am : List Bool)
    (hok : ((!(fn.name == "runtime.NumGoroutine")) && fn.body.isSome && decide (args.length ≤ fn.ntmps) && codeOK fn.ntmps pl (fn.body.getD .skip)) = true) (h16 : (interns [] 0 0 args).2.2 ≤ 16)
    (h : run P (tab P M) fn.ntmps nv pl (fn.body.getD .skip) (fun e S => (e = .normal ∨ e = .ret) ∧ retU P fn.results.toList rm am args S R) (entry args)) : Has P g args R := by
  simp only [Bool.and_eq_true, Bool.not_eq_true', decide_eq_true_eq] at hok
  obtain ⟨⟨⟨h1, h2⟩, h3⟩, h4⟩ := hok
  obtain ⟨c, hc⟩ := Option.isSome_iff_exists.1 h2
  rw [hc] at h h4
  exact ⟨Con_of_code hfn h1 hc h3 h16 rm am (Awp.mono (Q := fun e S => (e = .normal ∨ e = .ret) ∧ retU P fn.results.toList rm am args S R) (fun e S q => ⟨q.1, retU_imp q.2⟩) (run_sound hm (tab_sound P M) c _ _ h4 h))⟩
 
theorem Loops.by {P : Program} {M : FuncId → List Mode} {N : Nat} (nv : Nat) (pl : Nat → Plan) (hm : P.follows .mixedOrders = true) {c : Code} {Q : Exit → St → Prop} {S : St} (hok : codeOK N pl c = true) {ι : Type} (I : ι → St) (Inv : ι → Prop) (μ : ι → Nat)
    (round : ∀ i, Inv i → run P (tab P M) N nv pl c (seqQ (fun S' => ∃ j, (Inv j ∧ μ j < μ i) ∧ Forget S' (I j)) Q) (I i)) (i : ι) (hi : Inv i) (h : Forget S (I i)) : Loops P N (.loop c) Q S :=
  ⟨Awp.loop (ι := Subtype Inv) (fun i => I i.1) (fun i => μ i.1) (fun i => (run_sound hm (tab_sound P M) c _ _ hok (round i.1 i.2)).mono fun e S' q => by
    cases e with
    | normal =>
      obtain ⟨j, ⟨h1, h2⟩, h3⟩ := q
      exact ⟨⟨j, h1⟩, h2, h3⟩
    | _ => exact q) (i := ⟨i, hi⟩) h⟩
theorem Awp.conseqN {P : Program} {N : Nat} {c : Code} {Q Q' : Exit → St → Prop} {S : St} (hq : ∀ S, Q .normal S → ∃ S', Forget S S' ∧ Q' .normal S') (ho : ∀ e S, e ≠ .normal → Q e S → Q' e S) (h : Awp P N c Q S) : Awp P N c Q' S := fun F B w a hf hn =>
  wp_mono (h F B w a hf hn) fun e a' w' ⟨S2, F2, B2, q, t⟩ => by
    by_cases he : e = .normal
    · subst he
      obtain ⟨S3, h3, q3⟩ := hq S2 q
      exact ⟨S3, F2, _, q3, t.trans (Tr.forget t.fr t.n h3)⟩
    · exact ⟨S2, F2, B2, ho e S2 he q, t⟩
 
theorem Cuts.by {P : Program} {M : FuncId → List Mode} {N : Nat} (nv : Nat) (pl : Nat → Plan) (hm : P.follows .mixedOrders = true) {id : Nat} {ops : Array Oper} {draw : Bool} {Q : Exit → St → Prop} {S : St} (hok : codeOK N pl (.region id ops draw) = true) {ι : Type} (I : ι → St) (Inv : ι → Prop)
    (h : bif draw then runD P (tab P M) nv ops.toList (pl id) S (fun S' => ∃ i, Inv i ∧ Forget S' (I i)) else runT P (tab P M) nv ops.toList ops.toList S (fun S' => ∃ i, Inv i ∧ Forget S' (I i))) (next : ∀ i, Inv i → Q .normal (I i)) : Cuts P N (.region id ops draw) Q S := by
  refine ⟨Awp.conseqN (Q := seqQ (fun S' => ∃ i, Inv i ∧ Forget S' (I i)) (fun _ _ => False)) (fun S' q => ?_) (fun e S' he q => ?_) (vc_sound (nv := nv) hm (tab_sound P M) _ _ S hok ?_)⟩
  · obtain ⟨i, hi, hf⟩ := q
    exact ⟨I i, hf, next i hi⟩
  · cases e <;> first | exact absurd rfl he | exact q.elim
  · simp only [vc]
    simp only [runT_eq, runD_eq] at h
    exact h
 
theorem Joins.by {P : Program} {M : FuncId → List Mode} {N : Nat} (nv : Nat) (pl : Nat → Plan) (hm : P.follows .mixedOrders = true) {x y : Code} {Q : Exit → St → Prop} {S : St} (hx : codeOK N pl x = true) (hy : codeOK N pl y = true) {ι : Type} (I : ι → St) (Inv : ι → Prop)
    (h : run P (tab P M) N nv pl x (seqQ (fun S' => ∃ i, Inv i ∧ Forget S' (I i)) Q) S) (next : ∀ i, Inv i → run P (tab P M) N nv pl y Q (I i)) : Joins P N (.seq x y) Q S := by
  refine ⟨Awp.seq ((Awp.conseqN (Q := seqQ (fun S' => ∃ i, Inv i ∧ Forget S' (I i)) Q) (Q' := seqQ (fun S' => ∃ i, Inv i ∧ S' = I i) Q) (fun S' q => ?_) (fun e S' he q => ?_) (run_sound hm (tab_sound P M) x _ S hx h)).mono fun e S' q => ?_)⟩
  · obtain ⟨i, hi, hf⟩ := q
    exact ⟨I i, hf, i, hi, rfl⟩
  · cases e <;> first | exact absurd rfl he | exact q
  · cases e with
    | normal =>
      obtain ⟨i, hi, rfl⟩ := q
      exact run_sound hm (tab_sound P M) y Q _ hy (next i hi)
    | _ => exact q
end Go.Fw
