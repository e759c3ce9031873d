/- Whatever it is given, the law SymbolPuts answers true and leaves what it was given as it was: no condition. (part 2: what the proof leans on.) -/
import Derived.Test.YtcnlanaahhkhfabZ1
import Derived.OrdersHeld
import Derived.LoopN
import Derived.WalkKit
import Derived.ProofKit
import Derived.OpenShut
import Derived.ShutString
import Derived.ChangeOld
import Derived.SizedLaws
import Derived.Carry
import Derived.Test.YtcnlanaahhkhfabRows
import Derived.KernelRfl
import Derived.Shelf.Sort.Plain
import Derived.Shelf.Slices.CompactS
import Derived.Lib.RowBridge
import Derived.Shelf.Small.Bits
import Derived.Shelf.Strconv.Itoa0
import Derived.Shelf.Slices.Cells
import Derived.Shelf.Slices.In.SortNone
import Derived.Test.YtcnlanaahhkhfabProg
namespace Go.Fw
open Go
set_option linter.unusedVariables false
set_option linter.unusedSimpArgs false
def resV (d c : Nat) : List CV → AV × List (Key × Nat × AO) × Nat
  | [r] => intern [d] c r
  | rs => (.tup (interns [d] 0 c rs).1, (interns [d] 0 c rs).2.1, (interns [d] 0 c rs).2.2)
def resO (dst : Option Nat) (c : Nat) (rs : List CV) : AV × List (Key × Nat × AO) × Nat := match dst with
  | some d => resV d c rs
  | none => (.dead, [], c)
def dropO (dst : Option Nat) (H : List (Key × Nat × AO)) : List (Key × Nat × AO) := match dst with
  | some d => dropKey [d] H
  | none => H
def rmKeys (ks : List Key) (H : List (Key × Nat × AO)) : List (Key × Nat × AO) := match ks with
  | [] => H
  | ks => H.filter fun x => !(decide (x.1 ∈ ks))
def afterCall (S : St) (dst : Option Nat) (ms : List Mode) (xs : List AV) (kf ko : List Key) (rs az : List CV) : St :=
  St.put ⟨(S.freeze kf).E, (resO dst S.c rs).2.1 ++ ((reown (resO dst S.c rs).2.2 ms xs az).1 ++ dropO dst (rmKeys ko (S.freeze kf).H)), (reown (resO dst S.c rs).2.2 ms xs az).2⟩ dst (resO dst S.c rs).1
theorem rmKeys_sub (ks : List Key) (H : List (Key × Nat × AO)) : (rmKeys ks H).Sublist H := by cases ks with
  | nil => exact List.Sublist.refl _
  | cons k r => exact List.filter_sublist
theorem rmKeys_not {ks : List Key} {H : List (Key × Nat × AO)} {x : Key × Nat × AO} (h : x ∈ rmKeys ks H) : x.1 ∉ ks := by
  cases ks with
  | nil => simp
  | cons k r => have := (List.mem_filter.1 h).2; simpa using this
theorem dropO_sub (dst : Option Nat) (H : List (Key × Nat × AO)) : (dropO dst H).Sublist H := by cases dst with
  | none => exact List.Sublist.refl _
  | some d => exact dropKey_sub _ _
section
variable {P : Program} {F : Nat → Prop} {B : Blk} {w w' : World} {S : St} {a : Act} {N : Nat}
theorem resO_spec {dst : Option Nat} {c : Nat} {rs : List CV} {vr : List Value} {v : Value} {f1 : List Nat} (hr : Rv v vr) (h : CRl w F rs vr f1) (hn : f1.Nodup) (B : Blk) :
    ∃ B' f, LaidG [] w F B B' c (resO dst c rs).2.2 (resO dst c rs).2.1 f ∧ f.Nodup ∧ (∀ b ∈ f, b ∈ f1) ∧ VR w F B' (resO dst c rs).2.2 (resO dst c rs).1 v := by
  cases dst with
  | none => exact ⟨B, [], ⟨fun _ _ => rfl, Nat.le_refl _, by simp [resO], by simp [resO], by simp [resO]⟩, by simp, by simp, by simp [resO, VR]⟩
  | some d =>
    have gen : resV d c rs = (.tup (interns [d] 0 c rs).1, (interns [d] 0 c rs).2.1, (interns [d] 0 c rs).2.2) → v = .tuple vr.toArray → ∃ B' f, LaidG [] w F B B' c (resO (some d) c rs).2.2 (resO (some d) c rs).2.1 f ∧ f.Nodup ∧ (∀ b ∈ f, b ∈ f1) ∧ VR w F B' (resO (some d) c rs).2.2 (resO (some d) c rs).1 v := fun e ev => by
      obtain ⟨B', hL, hv, _⟩ := interns_spec rs [d] 0 c vr f1 B h hn
      simp only [resO, e]
      exact ⟨B', f1, hL.toG, hn, fun _ h => h, by simp only [VR]; exact ⟨_, ev, hv⟩⟩
    match rs, h with
    | [], h => simp only [CRl] at h; obtain ⟨rfl, _⟩ := h; exact gen rfl hr
    | [r], h =>
      simp only [CRl] at h
      obtain ⟨v0, vs', g1, g2, rfl, h1, ⟨rfl, rfl⟩, rfl⟩ := h
      simp only [Rv] at hr
      subst hr
      rw [List.append_nil] at hn
      obtain ⟨B', hL, hv, _⟩ := intern_spec r [d] c v g1 B h1 hn
      simp only [resO, resV]
      exact ⟨B', g1, hL.toG, hn, fun b hb => by simpa using hb, hv⟩
    | r :: r2 :: rr, h =>
      have h' := h
      simp only [CRl] at h'
      obtain ⟨v0, vs', g1, g2, rfl, h1, ⟨v1, vs1, g3, g4, rfl, _⟩, rfl⟩ := h'
      exact gen rfl hr
theorem call_Tr (hf : FR F B w S a) (hN : a.tmps.size = N) {dst : Option Nat} (hd : dstOK N dst = true) {ms : List Mode} {xs : List AV} {cs : List CV} {kf kr ko : List Key} {vs : List Value}
    (ha : argsC P S.H ms xs = some (cs, kf, kr, ko)) (hv : VRl w F B S.c xs vs) (hn : ko.Nodup) (hdj : ∀ k ∈ ko, k ∉ kf ∧ k ∉ kr) {rs az : List CV} {v : Value} {F' : Nat → Prop} {vr : List Value} {f1 f2 : List Nat}
    (hl : Left (fun b => F b ∨ FK S.H B kf b ∨ FK S.H B kr b) w vs (fpOf S.H B ko) rs az v w' F' vr f1 f2) (hfl : kr = [] ∨ (flats rs = true ∧ flats az = true)) :
    ∃ F2 B2, Tr N F B w S F2 B2 w' (afterCall S dst ms xs kf ko rs az) (a.put dst v) := by
  have hf1 := hf.freeze kf
  have hnd := List.nodup_append.1 hl.nodup
  have hapart : ∀ k1 g1 o1 k2 g2 o2 b n1 n2, (k1, g1, o1) ∈ S.H → (k2, g2, o2) ∈ S.H → k1 ≠ k2 → B g1 = some (b, n1) → B g2 = some (b, n2) → False := by
    intro k1 g1 o1 k2 g2 o2 b n1 n2 m1 m2 hne e1 e2
    by_cases hg : g1 = g2
    · have := same_entry hf.gensNodup m1 m2 hg
      simp only [Prod.mk.injEq] at this
      exact hne this.1
    · exact hf.apart m1 m2 hg e1 e2
  have hfpOwn : ∀ b, b ∈ fpOf S.H B ko → Own S.H B b := fun b hb => by
    obtain ⟨k, g, o, n, _, hm, hB⟩ := fpOf_mem hb
    exact ⟨k, g, o, n, hm, hB⟩
  have hfkOwn : ∀ ks b, FK S.H B ks b → Own S.H B b := fun ks b hb => by
    obtain ⟨k, g, o, n, _, hm, hB⟩ := hb
    exact ⟨k, g, o, n, hm, hB⟩
  have hfpF1 : ∀ b, b ∈ fpOf S.H B ko → ¬ (F b ∨ FK S.H B kf b) := fun b hb h => by
    rcases h with h | ⟨k1, g1, o1, n1, hk1, hm1, hB1⟩
    · exact (hf.sep b (hfpOwn b hb)).1 h
    · obtain ⟨k, g, o, n, hk, hm, hB⟩ := fpOf_mem hb
      exact hapart k g o k1 g1 o1 b n n1 hm hm1 (fun e => (hdj k hk).1 (e ▸ hk1)) hB hB1
  let H2 := dropO dst (rmKeys ko (S.freeze kf).H)
  have hH2s : H2.Sublist S.H := (dropO_sub _ _).trans ((rmKeys_sub _ _).trans (freeze_H _ _))
  have hH2k : ∀ x ∈ H2, x.1 ∉ ko := fun x hx => rmKeys_not ((dropO_sub _ _).subset hx)
  have hfpO : ∀ b, b ∈ fpOf S.H B ko → ¬ Own H2 B b := fun b hb h => by
    obtain ⟨k1, g1, o1, n1, hm1, hB1⟩ := h
    obtain ⟨k, g, o, n, hk, hm, hB⟩ := fpOf_mem hb
    exact hapart k g o k1 g1 o1 b n n1 hm (hH2s.subset hm1) (fun e => hH2k _ hm1 (e ▸ hk)) hB hB1
  have hf2 : FR (fun b => F b ∨ FK S.H B kf b) B w ⟨(S.freeze kf).E, H2, S.c⟩ a := by
    have hf1' : FR (fun b => F b ∨ FK S.H B kf b) B w ⟨(S.freeze kf).E, (S.freeze kf).H, S.c⟩ a := by
      have := hf1
      rw [← freeze_c S kf]
      exact this
    exact hf1'.drop (fun t => .inl rfl) ((dropO_sub _ _).trans (rmKeys_sub _ _))
  obtain ⟨F2, hF1, hF2, hrs, has⟩ : ∃ F2 : Nat → Prop, (∀ b, F b ∨ FK S.H B kf b → F2 b) ∧ (∀ b, F2 b → F' b ∧ (F b ∨ FK S.H B kf b ∨ b ∈ fpOf S.H B ko ∨ w.heap.size ≤ b)) ∧ CRl w' F2 rs vr f1 ∧ CRl w' F2 az vs f2 := by
    rcases hfl with rfl | ⟨h1, h2⟩
    · refine ⟨F', fun b hb => hl.sub b (hb.imp id .inl), fun b hb => ⟨hb, ?_⟩, hl.rs, hl.az⟩
      rcases hl.new b (.inl hb) with (h | h | ⟨_, _, _, _, h, _⟩) | h | h
      · exact .inl h
      · exact .inr (.inl h)
      · cases h
      · exact .inr (.inr (.inl h))
      · exact .inr (.inr (.inr h))
    · exact ⟨fun b => F b ∨ FK S.H B kf b, fun _ h => h, fun b hb => ⟨hl.sub b (hb.imp id .inl), hb.elim .inl (.inr ∘ .inl)⟩, CRl.flat _ _ _ h1 hl.rs, CRl.flat _ _ _ h2 hl.az⟩
  have hf3 : FR F2 B w' ⟨(S.freeze kf).E, H2, S.c⟩ a := by
    refine hf2.world (fun b hb => ?_) hF1 (fun b hb h => ?_) (fun b hb => hl.lt b (hF2 b hb).1) hl.size
    · rcases hb with hb | hb
      · exact hl.keep b (hf2.Flt b hb) fun h => hfpF1 b h hb
      · exact hl.keep b (hf2.sep b hb).2 fun h => hfpO b h hb
    · have hs := hf2.sep b hb
      rcases (hF2 b h).2 with h | h | h | h
      · exact hs.1 (.inl h)
      · exact hs.1 (.inr h)
      · exact hfpO b h hb
      · exact absurd hs.2 (by omega)
  obtain ⟨B1, g1, hL1, hg1n, hg1, hvr⟩ := resO_spec (dst := dst) (c := S.c) hl.res hrs hnd.1 B
  obtain ⟨B2, g2, hL2, hg2n, hg2⟩ := reown_spec hf ms xs cs kf kr ko vs az f2 ha hn hv has hnd.2.1 B1 (resO dst S.c rs).2.2 hL1.old hL1.le
  have hgg : (g1 ++ g2).Nodup := List.nodup_append.2 ⟨hg1n, hg2n, fun b hb b' hb' => hnd.2.2 b (hg1 b hb) b' (hg2 b' hb')⟩
  have hggs : ∀ b ∈ g1 ++ g2, b ∈ f1 ++ f2 := fun b hb => by
    rcases List.mem_append.1 hb with h | h
    · exact List.mem_append_left _ (hg1 b h)
    · exact List.mem_append_right _ (hg2 b h)
  have hGlt : ∀ g ∈ gensOf ms xs, g < S.c := fun g hg => by
    obtain ⟨k, o, _, h2⟩ := argsC_gens ms xs _ _ _ _ ha g hg
    exact (hf.objs _ _ _ (mem_of_objIn h2)).1
  have hL := hL1.append hL2 (by simp) hGlt (by simpa using argsC_gensNodup hf ms xs _ _ _ _ ha hn) hgg
  have hnewb : ∀ b ∈ f1 ++ f2, b ∈ fpOf S.H B ko ∨ w.heap.size ≤ b := fun b hb => by
    rcases hl.new b (.inr hb) with h | h | h
    · exact absurd (hl.sub b h) (hl.sep b hb).1
    · exact .inl h
    · exact .inr h
  have hf4 := hf3.lay hL (fun g hg x hx => by
    simp only [List.nil_append] at hg
    obtain ⟨k, o, hk, h2⟩ := argsC_gens ms xs _ _ _ _ ha g hg
    intro e
    have := same_entry hf.gensNodup (hH2s.subset hx) (mem_of_objIn h2) e
    subst this
    exact hH2k _ hx hk) (fun b hb => by
    have hb' := hggs b hb
    refine ⟨fun h => (hl.sep b hb').1 (hF2 b h).1, (hl.sep b hb').2, fun h => ?_⟩
    rcases hnewb b hb' with h1 | h1
    · exact hfpO b h1 h
    · have := (hf2.sep b h).2
      omega)
  have hf5 := hf4.put hN hd (hvr.lift hL2.old hL2.le)
  refine ⟨F2, B2, ?_, by rw [Act.put_size]; exact hN, fun b hb => hF1 b (.inl hb), fun b hb ho => hl.keep b hb fun h => ho (hfpOwn b h), fun b hb => ?_, hl.os, hl.tape, hl.output, hl.size, fun g hg => hL.old g (Nat.lt_of_lt_of_le hg hf.pin)⟩
  · have e : afterCall S dst ms xs kf ko rs az = St.put ⟨(S.freeze kf).E, ((resO dst S.c rs).2.1 ++ (reown (resO dst S.c rs).2.2 ms xs az).1) ++ H2, (reown (resO dst S.c rs).2.2 ms xs az).2⟩ dst (resO dst S.c rs).1 := by
      simp only [afterCall, List.append_assoc]
      rfl
    rw [e]
    exact hf5
  · rcases hb with hb | ⟨k, g, o, n, hm, hB⟩
    · rcases (hF2 b hb).2 with h | h | h | h
      · exact .inl h
      · exact .inr (.inl (hfkOwn _ _ h))
      · exact .inr (.inl (hfpOwn _ h))
      · exact .inr (.inr h)
    · have hm' : (k, g, o) ∈ ((resO dst S.c rs).2.1 ++ (reown (resO dst S.c rs).2.2 ms xs az).1) ++ H2 := by
        have e : (afterCall S dst ms xs kf ko rs az).H = ((resO dst S.c rs).2.1 ++ (reown (resO dst S.c rs).2.2 ms xs az).1) ++ H2 := by
          cases dst <;> simp only [afterCall, St.put, List.append_assoc] <;> rfl
        rw [← e]
        exact hm
      rcases List.mem_append.1 hm' with h | h
      · have := hnewb b (hggs b (hL.blk _ h b n hB))
        exact .inr (this.imp (hfpOwn b) id)
      · have hg := (hf.objs _ _ _ (hH2s.subset h)).1
        rw [hL.old g hg] at hB
        exact .inr (.inl ⟨k, g, o, n, hH2s.subset h, hB⟩)
def nodupK : List Key → Bool
  | [] => true
  | k :: r => !(r.contains k) && nodupK r
def okK (ko kf kr : List Key) : Bool := nodupK ko && ko.all fun k => !(kf.contains k) && !(kr.contains k)
theorem nodupK_spec : ∀ {l : List Key}, nodupK l = true → l.Nodup
  | [], _ => List.nodup_nil
  | k :: r, h => by
    simp only [nodupK, Bool.and_eq_true, Bool.not_eq_true', List.contains_eq_mem, decide_eq_false_iff_not] at h
    exact List.nodup_cons.2 ⟨h.1, nodupK_spec h.2⟩
theorem okK_spec {ko kf kr : List Key} (h : okK ko kf kr = true) : ko.Nodup ∧ ∀ k ∈ ko, k ∉ kf ∧ k ∉ kr := by
  simp only [okK, Bool.and_eq_true, List.all_eq_true, Bool.not_eq_true', List.contains_eq_mem, decide_eq_false_iff_not] at h
  exact ⟨nodupK_spec h.1, h.2⟩
 
structure Tab where
  M : FuncId → List Mode
  C : FuncId → List CV → (List CV → List CV → Prop) → Prop
def Tab.Sound (P : Program) (T : Tab) : Prop := ∀ g args K, T.C g args K → Con P g args K
 
def calleeV (S : St) (c : Call) : Option (FuncId × List AV) := match c.callee with
  | .value x => match S.ev x with
    | .d (.clo (.func g) f cp) => some (g, f.map .d ++ (c.args.toList.map S.ev ++ cp.map .d))
    | .clo (.func g) f cp => some (g, f ++ (c.args.toList.map S.ev ++ cp))
    | _ => none
  | _ => none
def callV (P : Program) (T : Tab) (o : Oper) (S : St) (K : St → Prop) : Prop := match o.op with
  | .call c => match calleeV S c with
    | some (g, xs) => match argsC P S.H (T.M g) xs with
      | some (cs, kf, kr, ko) => bif okK ko kf kr then T.C g cs fun rs az => bif kr.isEmpty || (flats rs && flats az) then K (afterCall S o.dst (T.M g) xs kf ko rs az) else False
          else False
      | none => False
    | none => False
  | _ => False
theorem evs_VRl'' (hf : FR F B w S a) : ∀ l : List Operand, VRl w F B S.c (l.map S.ev) (l.map a.eval)
  | [] => by simp [VRl]
  | x :: r => by simp only [List.map_cons, VRl]; exact ⟨_, _, rfl, ev_VR hf x, evs_VRl'' hf r⟩
theorem calleeV_spec (hf : FR F B w S a) {c : Call} {g : FuncId} {xs : List AV} (h : calleeV S c = some (g, xs)) (ty : TypeId) :
    ∃ vs, VRl w F B S.c xs vs ∧ ∀ W, (do let d ← resolve a.eval c ty; invoke d.target d.args : Sem Next).run P W = (callFunc g vs.toArray).run P W := by
  unfold calleeV at h
  split at h
  · rename_i x hc
    have hx := ev_VR hf x
    have hargs := evs_VRl'' hf c.args.toList
    split at h
    · rename_i g' f cp hx'
      simp only [Option.some.injEq, Prod.mk.injEq] at h
      obtain ⟨rfl, rfl⟩ := h
      rw [hx'] at hx
      simp only [VR, DRv, DRc, List.cons.injEq, and_true] at hx
      obtain ⟨fv, cv, hv, h1, h2⟩ := hx
      refine ⟨fv.toList ++ (c.args.toList.map a.eval ++ cv.toList), VRl.append (VRl_of_DRl h1).1 (VRl.append hargs (VRl_of_DRl h2).1), fun W => ?_⟩
      simp only [resolve, hc, hv, Deferred.ofValue, pure_bind, invoke]
      congr 2
      apply Array.ext'
      simp
    · rename_i g' f cp hx'
      simp only [Option.some.injEq, Prod.mk.injEq] at h
      obtain ⟨rfl, rfl⟩ := h
      rw [hx'] at hx
      simp only [VR] at hx
      obtain ⟨fv, cv, hv, h1, h2⟩ := hx
      refine ⟨fv.toList ++ (c.args.toList.map a.eval ++ cv.toList), VRl.append h1 (VRl.append hargs h2), fun W => ?_⟩
      simp only [resolve, hc, hv, Deferred.ofValue, pure_bind, invoke]
      congr 2
      apply Array.ext'
      simp
    · cases h
  · cases h
 
theorem callV_run {T : Tab} (hT : T.Sound P) (hf : FR F B w S a) (hN : a.tmps.size = N) (o : Oper) (hd : dstOK N o.dst = true) {K : St → Prop} (h : callV P T o S K) {Q : Exit → Act → World → Prop} {next : Act → World → Prop}
    (hk : ∀ a' w', (∃ S' F' B', K S' ∧ Tr N F B w S F' B' w' S' a') → next a' w') : o.wp P a w next Q := by
  obtain ⟨dst, op, ty, pos, after, guard⟩ := o
  unfold callV at h
  split at h
  · rename_i c hop
    simp only at hop
    subst hop
    split at h
    · rename_i g xs hc
      obtain ⟨vs, hvs, hrun⟩ := calleeV_spec hf hc ty
      split at h
      · rename_i cs kf kr ko ha
        cases hok : okK ko kf kr with
        | false => rw [hok] at h; exact h.elim
        | true =>
        rw [hok] at h
        have hC : T.C g cs fun rs az => bif kr.isEmpty || (flats rs && flats az) then K (afterCall S dst (T.M g) xs kf ko rs az) else False := h
        obtain ⟨hn, hdj⟩ := okK_spec hok
        have hcr := argsC_spec hf _ _ _ _ _ _ _ ha hvs
        have hfpOwn : ∀ b, b ∈ fpOf S.H B ko → Own S.H B b := fun b hb => by
          obtain ⟨k, g, o, n, _, hm, hB⟩ := fpOf_mem hb
          exact ⟨k, g, o, n, hm, hB⟩
        have hfpN : ∀ ks, (∀ k ∈ ko, k ∉ ks) → ∀ b ∈ fpOf S.H B ko, ¬ FK S.H B ks b := fun ks hks b hb h => by
          obtain ⟨k1, g1, o1, n1, hk1, hm1, hB1⟩ := h
          obtain ⟨k, g, o, n, hk, hm, hB⟩ := fpOf_mem hb
          by_cases hg : g = g1
          · have := same_entry hf.gensNodup hm hm1 hg
            simp only [Prod.mk.injEq] at this
            exact hks k hk (this.1 ▸ hk1)
          · exact hf.apart hm hm1 hg hB hB1
        have hen := hT g cs _ hC _ w vs _ hcr (fpOf_nodup hf hn) (fun b hb => ⟨fun h => by
          rcases h with h | h | h
          · exact (hf.sep b (hfpOwn b hb)).1 h
          · exact hfpN kf (fun k hk => (hdj k hk).1) b hb h
          · exact hfpN kr (fun k hk => (hdj k hk).2) b hb h, (hf.sep b (hfpOwn b hb)).2⟩) (fun b hb => by
          rcases hb with h | ⟨k, g, o, n, _, hm, hB⟩ | ⟨k, g, o, n, _, hm, hB⟩
          · exact hf.Flt b h
          · exact (hf.sep b ⟨k, g, o, n, hm, hB⟩).2
          · exact (hf.sep b ⟨k, g, o, n, hm, hB⟩).2)
        have fin : ∀ v w', (∃ rs az F' vr f1 f2, (bif kr.isEmpty || (flats rs && flats az) then K (afterCall S dst (T.M g) xs kf ko rs az) else False) ∧ Left (fun b => F b ∨ FK S.H B kf b ∨ FK S.H B kr b) w vs (fpOf S.H B ko) rs az v w' F' vr f1 f2) → next (a.put dst v) w' := by
          rintro v w' ⟨rs, az, F', vr, f1, f2, h12, hl⟩
          cases hfl : (kr.isEmpty || (flats rs && flats az)) with
          | false => rw [hfl] at h12; exact h12.elim
          | true =>
          rw [hfl] at h12
          have h2 : K (afterCall S dst (T.M g) xs kf ko rs az) := h12
          have h1 : kr = [] ∨ (flats rs = true ∧ flats az = true) := by simpa using hfl
          obtain ⟨F2, B2, ht⟩ := call_Tr hf hN hd ha hvs hn hdj hl h1
          exact hk _ _ ⟨_, F2, B2, h2, ht⟩
        have hex : (execOp a.eval (⟨dst, .call c, ty, pos, after, guard⟩ : Oper)).run P w = (callFunc g vs.toArray).run P w := hrun w
        unfold Oper.wp
        rw [hex]
        unfold Enters at hen
        split at hen
        · rename_i v w' hr
          rw [hr]
          exact fin v w' hen
        · rename_i f' xs' w' hr
          rw [hr]
          simp only [Oper.upon]
          refine hen.mono fun e w'' he => ?_
          cases e with
          | returned v => exact fin v w'' he
          | panicked c => exact he.elim
          | outgrown => exact he.elim
        · rename_i row xs' w' hr
          rw [hr]
          simp only [Oper.upon]
          exact hen.mono fun v w'' he => fin v w'' he
        · exact hen.elim
      · exact h.elim
    · exact h.elim
  · exact h.elim
end
end Go.Fw
namespace Go.Fw
open Go
set_option linter.unusedVariables false
set_option linter.unusedSimpArgs false
mutual
def toDu (P : Program) (H : List (Key × Nat × AO)) : Nat → AV → Option (D × List Key)
  | 0, _ => none
  | n + 1, .d x => some (x, [])
  | n + 1, .nils => some (.sl 0 [], [])
  | n + 1, .ref k g sz off len => match objIn H k with
    | some (g', .row _ z l) => if g' = g ∧ z = sz then some (.sl sz ((l.drop off).take len), [k]) else none
    | _ => none
  | n + 1, .addr k g c => match objIn H k with
    | some (g', .box e l) => if g' = g ∧ c = 0 then match toDlu P H n l with
        | some (xs, ks) => match aggT P e with
          | some true => some (.ptr (.agg xs), k :: ks)
          | some false => match xs with
            | [y] => some (.ptr y, k :: ks)
            | _ => none
          | none => none
        | none => none
      else none
    | _ => none
  | n + 1, .agg l => match toDlu P H n l with
    | some (xs, ks) => some (.agg xs, ks)
    | none => none
  | n + 1, .clo fn f c => if cellsOK f && cellsOK c then match toDlu P H n f, toDlu P H n c with
    | some (fs, k1), some (cs, k2) => some (.clo fn fs cs, k1 ++ k2)
    | _, _ => none
    else none
  | n + 1, _ => none
def toDlu (P : Program) (H : List (Key × Nat × AO)) : Nat → List AV → Option (List D × List Key)
  | 0, _ => none
  | n + 1, [] => some ([], [])
  | n + 1, x :: r => match toDu P H n x, toDlu P H n r with
    | some (y, k1), some (ys, k2) => some (y :: ys, k1 ++ k2)
    | _, _ => none
end
mutual
def toDok (H : List (Key × Nat × AO)) : Nat → AV → Prop
  | n + 1, .ref k g sz off len => match objIn H k with
    | some (_, .row _ _ l) => off + len ≤ l.length
    | _ => True
  | n + 1, .addr k g c => match objIn H k with
    | some (_, .box _ l) => toDlok H n l
    | _ => True
  | n + 1, .agg l => toDlok H n l
  | n + 1, .clo fn f c => toDlok H n f ∧ toDlok H n c
  | _, _ => True
def toDlok (H : List (Key × Nat × AO)) : Nat → List AV → Prop
  | n + 1, x :: r => toDok H n x ∧ toDlok H n r
  | _, _ => True
end
mutual
theorem toDu_eq (P : Program) (H : List (Key × Nat × AO)) : ∀ (n : Nat) (x : AV), toDok H n x → toDu P H n x = toD P H n x
  | 0, x, _ => by simp [toDu, toD]
  | n + 1, .d x, _ => by simp [toDu, toD]
  | n + 1, .nils, _ => by simp [toDu, toD]
  | n + 1, .ref k g sz off len, h => by
    simp only [toDu, toD]
    simp only [toDok] at h
    cases hob : objIn H k with
    | none => rfl
    | some p =>
      obtain ⟨g', o⟩ := p
      rw [hob] at h
      cases o with
      | row e z l => simp only at h; simp only [h, and_true]
      | box e l => rfl
      | iter s p => rfl
  | n + 1, .addr k g c, h => by
    simp only [toDu, toD]
    simp only [toDok] at h
    cases hob : objIn H k with
    | none => rfl
    | some p =>
      obtain ⟨g', o⟩ := p
      rw [hob] at h
      cases o with
      | row e z l => rfl
      | box e l => simp only at h; simp only [toDlu_eq P H n _ h]; rfl
      | iter s p => rfl
  | n + 1, .agg l, h => by
    simp only [toDok] at h
    simp only [toDu, toD, toDlu_eq P H n l h]
    rfl
  | n + 1, .clo fn f c, h => by
    simp only [toDok] at h
    simp only [toDu, toD, toDlu_eq P H n f h.1, toDlu_eq P H n c h.2]
    rfl
  | n + 1, .elt .., _ => by simp [toDu, toD]
  | n + 1, .tup _, _ => by simp [toDu, toD]
  | n + 1, .dead, _ => by simp [toDu, toD]
theorem toDlu_eq (P : Program) (H : List (Key × Nat × AO)) : ∀ (n : Nat) (l : List AV), toDlok H n l → toDlu P H n l = toDl P H n l
  | 0, l, _ => by simp [toDlu, toDl]
  | n + 1, [], _ => by simp [toDlu, toDl]
  | n + 1, x :: r, h => by
    simp only [toDlok] at h
    simp only [toDlu, toDl, toDu_eq P H n x h.1, toDlu_eq P H n r h.2]
    rfl
end
mutual
def extu (H : List (Key × Nat × AO)) : Nat → AV → Option (CV × List Key)
  | 0, _ => none
  | n + 1, .d x => some (.d x, [])
  | n + 1, .nils => some (.nils, [])
  | n + 1, .ref k g sz off len => match objIn H k with
    | some (g', .row e z l) => if g' = g ∧ z = sz then some (.own e z (l.take len), [k]) else none
    | _ => none
  | n + 1, .addr k g c => match objIn H k with
    | some (g', .box e l) => if g' = g ∧ c = 0 then match extsu H n l with
        | some (xs, ks) => some (.box e xs, k :: ks)
        | none => none
      else none
    | _ => none
  | n + 1, .agg l => match extsu H n l with
    | some (xs, ks) => some (.agg xs, ks)
    | none => none
  | n + 1, .dead => some (.gone, [])
  | n + 1, _ => none
def extsu (H : List (Key × Nat × AO)) : Nat → List AV → Option (List CV × List Key)
  | 0, _ => none
  | n + 1, [] => some ([], [])
  | n + 1, x :: r => match extu H n x, extsu H n r with
    | some (y, k1), some (ys, k2) => some (y :: ys, k1 ++ k2)
    | _, _ => none
end
mutual
def extok (H : List (Key × Nat × AO)) : Nat → AV → Prop
  | n + 1, .ref k g sz off len => match objIn H k with
    | some (_, .row _ _ l) => off = 0 ∧ len ≤ l.length
    | _ => True
  | n + 1, .addr k g c => match objIn H k with
    | some (_, .box _ l) => extsok H n l
    | _ => True
  | n + 1, .agg l => extsok H n l
  | _, _ => True
def extsok (H : List (Key × Nat × AO)) : Nat → List AV → Prop
  | n + 1, x :: r => extok H n x ∧ extsok H n r
  | _, _ => True
end
mutual
theorem extu_eq (H : List (Key × Nat × AO)) : ∀ (n : Nat) (x : AV), extok H n x → extu H n x = ext H n x
  | 0, x, _ => by simp [extu, ext]
  | n + 1, .d x, _ => by simp [extu, ext]
  | n + 1, .nils, _ => by simp [extu, ext]
  | n + 1, .ref k g sz off len, h => by
    simp only [extu, ext]
    simp only [extok] at h
    cases hob : objIn H k with
    | none => rfl
    | some p =>
      obtain ⟨g', o⟩ := p
      rw [hob] at h
      cases o with
      | row e z l => simp only at h; simp only [h, and_true]
      | box e l => rfl
      | iter s p => rfl
  | n + 1, .addr k g c, h => by
    simp only [extu, ext]
    simp only [extok] at h
    cases hob : objIn H k with
    | none => rfl
    | some p =>
      obtain ⟨g', o⟩ := p
      rw [hob] at h
      cases o with
      | row e z l => rfl
      | box e l => simp only at h; simp only [extsu_eq H n _ h]; rfl
      | iter s p => rfl
  | n + 1, .agg l, h => by
    simp only [extok] at h
    simp only [extu, ext, extsu_eq H n l h]
    rfl
  | n + 1, .clo fn f c, _ => by simp [extu, ext]
  | n + 1, .elt .., _ => by simp [extu, ext]
  | n + 1, .tup _, _ => by simp [extu, ext]
  | n + 1, .dead, _ => by simp [extu, ext]
theorem extsu_eq (H : List (Key × Nat × AO)) : ∀ (n : Nat) (l : List AV), extsok H n l → extsu H n l = exts H n l
  | 0, l, _ => by simp [extsu, exts]
  | n + 1, [], _ => by simp [extsu, exts]
  | n + 1, x :: r, h => by
    simp only [extsok] at h
    simp only [extsu, exts, extu_eq H n x h.1, extsu_eq H n r h.2]
    rfl
end
 
def frzAu (H : List (Key × Nat × AO)) (ks : List Key) : AV → AV
  | .ref k g sz off len => if k ∈ ks then match objIn H k with
      | some (g', .row _ z l) => if g' = g ∧ z = sz then .d (.sl sz ((l.drop off).take len)) else .dead
      | _ => .dead
    else .ref k g sz off len
  | x => x
def frzEu (H : List (Key × Nat × AO)) (ks : List Key) : List (Nat × AV) → List (Nat × AV)
  | [] => []
  | (t, v) :: r => (t, frzAu H ks v) :: frzEu H ks r
def frzok1 (H : List (Key × Nat × AO)) (ks : List Key) : AV → Prop
  | .ref k g sz off len => if k ∈ ks then match objIn H k with
      | some (g', .row _ z l) => if g' = g ∧ z = sz then off + len ≤ l.length else True
      | _ => True
    else True
  | x => True
def frzokE (H : List (Key × Nat × AO)) (ks : List Key) : List (Nat × AV) → Prop
  | [] => True
  | (t, v) :: r => frzok1 H ks v ∧ frzokE H ks r
def frzok (S : St) (ks : List Key) : Prop := match ks with
  | [] => True
  | ks => frzokE S.H ks S.E
def freezeU (S : St) (ks : List Key) : St := match ks with
  | [] => S
  | ks => match S with
    | ⟨E, H, c⟩ => ⟨frzEu H ks E, H.filter fun x => !(decide (x.1 ∈ ks)), c⟩
theorem frzAu_eq {H : List (Key × Nat × AO)} {ks : List Key} {v : AV} (h : frzok1 H ks v) : frzAu H ks v = frzAV H ks v := by
  cases v <;> try rfl
  case ref k g sz off len =>
    simp only [frzAu, frzAV]
    simp only [frzok1] at h
    by_cases hk : k ∈ ks
    · rw [if_pos hk] at h
      rw [if_pos hk, if_pos hk]
      cases hob : objIn H k with
      | none => rfl
      | some p =>
        obtain ⟨g', o⟩ := p
        rw [hob] at h
        cases o with
        | row e z l =>
          simp only at h ⊢
          by_cases hc : g' = g ∧ z = sz
          · rw [if_pos hc] at h
            rw [if_pos hc, if_pos ⟨hc.1, hc.2, h⟩]
          · rw [if_neg hc, if_neg (fun h' => hc ⟨h'.1, h'.2.1⟩)]
        | box e l => rfl
        | iter s p => rfl
    · rw [if_neg hk, if_neg hk]
theorem frzEu_eq {H : List (Key × Nat × AO)} {ks : List Key} : ∀ {E : List (Nat × AV)}, frzokE H ks E → frzEu H ks E = E.map fun p => (p.1, frzAV H ks p.2)
  | [], _ => rfl
  | (t, v) :: r, h => by
    simp only [frzEu, List.map_cons, frzAu_eq h.1, frzEu_eq h.2]
theorem freezeU_eq {S : St} {ks : List Key} (h : frzok S ks) : freezeU S ks = S.freeze ks := by
  cases ks with
  | nil => rfl
  | cons k r =>
    cases S with
    | mk E H c =>
      have h' : frzokE H (k :: r) E := h
      simp only [freezeU, St.freeze, frzEu_eq h']
 
mutual
def toDokK (H : List (Key × Nat × AO)) : Nat → AV → Prop → Prop
  | n + 1, .ref k g sz off len, K => (match objIn H k with
    | some (_, .row _ _ l) => off + len ≤ l.length ∧ K
    | _ => K)
  | n + 1, .addr k g c, K => (match objIn H k with
    | some (_, .box _ l) => toDlokK H n l K
    | _ => K)
  | n + 1, .agg l, K => toDlokK H n l K
  | n + 1, .clo fn f c, K => toDlokK H n f (toDlokK H n c K)
  | _, _, K => K
def toDlokK (H : List (Key × Nat × AO)) : Nat → List AV → Prop → Prop
  | n + 1, x :: r, K => toDokK H n x (toDlokK H n r K)
  | _, _, K => K
end
mutual
theorem toDokK_imp (H : List (Key × Nat × AO)) : ∀ (n : Nat) (x : AV) (K : Prop), toDokK H n x K → toDok H n x ∧ K
  | 0, x, K, h => by cases x <;> exact ⟨trivial, h⟩
  | n + 1, .d x, K, h => ⟨trivial, h⟩
  | n + 1, .nils, K, h => ⟨trivial, h⟩
  | n + 1, .ref k g sz off len, K, h => by
    simp only [toDokK] at h
    simp only [toDok]
    cases hob : objIn H k with
    | none => rw [hob] at h; exact ⟨trivial, h⟩
    | some p =>
      obtain ⟨g', o⟩ := p
      rw [hob] at h
      cases o with
      | row e z l => exact h
      | box e l => exact ⟨trivial, h⟩
      | iter s p => exact ⟨trivial, h⟩
  | n + 1, .addr k g c, K, h => by
    simp only [toDokK] at h
    simp only [toDok]
    cases hob : objIn H k with
    | none => rw [hob] at h; exact ⟨trivial, h⟩
    | some p =>
      obtain ⟨g', o⟩ := p
      rw [hob] at h
      cases o with
      | row e z l => exact ⟨trivial, h⟩
      | box e l => exact toDlokK_imp H n l K h
      | iter s p => exact ⟨trivial, h⟩
  | n + 1, .agg l, K, h => by
    simp only [toDokK] at h
    simp only [toDok]
    exact toDlokK_imp H n l K h
  | n + 1, .clo fn f c, K, h => by
    simp only [toDokK] at h
    simp only [toDok]
    obtain ⟨h1, h2⟩ := toDlokK_imp H n f _ h
    obtain ⟨h3, h4⟩ := toDlokK_imp H n c K h2
    exact ⟨⟨h1, h3⟩, h4⟩
  | n + 1, .elt .., K, h => ⟨trivial, h⟩
  | n + 1, .tup _, K, h => ⟨trivial, h⟩
  | n + 1, .dead, K, h => ⟨trivial, h⟩
theorem toDlokK_imp (H : List (Key × Nat × AO)) : ∀ (n : Nat) (l : List AV) (K : Prop), toDlokK H n l K → toDlok H n l ∧ K
  | 0, l, K, h => by cases l <;> exact ⟨trivial, h⟩
  | n + 1, [], K, h => ⟨trivial, h⟩
  | n + 1, x :: r, K, h => by
    simp only [toDlokK] at h
    obtain ⟨h1, h2⟩ := toDokK_imp H n x _ h
    obtain ⟨h3, h4⟩ := toDlokK_imp H n r K h2
    exact ⟨by simp only [toDlok]; exact ⟨h1, h3⟩, h4⟩
end
mutual
def extokK (H : List (Key × Nat × AO)) : Nat → AV → Prop → Prop
  | n + 1, .ref k g sz off len, K => (match objIn H k with
    | some (_, .row _ _ l) => (off = 0 ∧ len ≤ l.length) ∧ K
    | _ => K)
  | n + 1, .addr k g c, K => (match objIn H k with
    | some (_, .box _ l) => extsokK H n l K
    | _ => K)
  | n + 1, .agg l, K => extsokK H n l K
  | _, _, K => K
def extsokK (H : List (Key × Nat × AO)) : Nat → List AV → Prop → Prop
  | n + 1, x :: r, K => extokK H n x (extsokK H n r K)
  | _, _, K => K
end
mutual
theorem extokK_imp (H : List (Key × Nat × AO)) : ∀ (n : Nat) (x : AV) (K : Prop), extokK H n x K → extok H n x ∧ K
  | 0, x, K, h => by cases x <;> exact ⟨trivial, h⟩
  | n + 1, .d x, K, h => ⟨trivial, h⟩
  | n + 1, .nils, K, h => ⟨trivial, h⟩
  | n + 1, .ref k g sz off len, K, h => by
    simp only [extokK] at h
    simp only [extok]
    cases hob : objIn H k with
    | none => rw [hob] at h; exact ⟨trivial, h⟩
    | some p =>
      obtain ⟨g', o⟩ := p
      rw [hob] at h
      cases o with
      | row e z l => exact h
      | box e l => exact ⟨trivial, h⟩
      | iter s p => exact ⟨trivial, h⟩
  | n + 1, .addr k g c, K, h => by
    simp only [extokK] at h
    simp only [extok]
    cases hob : objIn H k with
    | none => rw [hob] at h; exact ⟨trivial, h⟩
    | some p =>
      obtain ⟨g', o⟩ := p
      rw [hob] at h
      cases o with
      | row e z l => exact ⟨trivial, h⟩
      | box e l => exact extsokK_imp H n l K h
      | iter s p => exact ⟨trivial, h⟩
  | n + 1, .agg l, K, h => by
    simp only [extokK] at h
    simp only [extok]
    exact extsokK_imp H n l K h
  | n + 1, .clo fn f c, K, h => ⟨trivial, h⟩
  | n + 1, .elt .., K, h => ⟨trivial, h⟩
  | n + 1, .tup _, K, h => ⟨trivial, h⟩
  | n + 1, .dead, K, h => ⟨trivial, h⟩
theorem extsokK_imp (H : List (Key × Nat × AO)) : ∀ (n : Nat) (l : List AV) (K : Prop), extsokK H n l K → extsok H n l ∧ K
  | 0, l, K, h => by cases l <;> exact ⟨trivial, h⟩
  | n + 1, [], K, h => ⟨trivial, h⟩
  | n + 1, x :: r, K, h => by
    simp only [extsokK] at h
    obtain ⟨h1, h2⟩ := extokK_imp H n x _ h
    obtain ⟨h3, h4⟩ := extsokK_imp H n r K h2
    exact ⟨by simp only [extsok]; exact ⟨h1, h3⟩, h4⟩
end
def frzok1K (H : List (Key × Nat × AO)) (ks : List Key) : AV → Prop → Prop
  | .ref k g sz off len, K => if k ∈ ks then (match objIn H k with
      | some (g', .row _ z l) => if g' = g ∧ z = sz then off + len ≤ l.length ∧ K else K
      | _ => K)
    else K
  | x, K => K
def frzokEK (H : List (Key × Nat × AO)) (ks : List Key) : List (Nat × AV) → Prop → Prop
  | [], K => K
  | (t, v) :: r, K => frzok1K H ks v (frzokEK H ks r K)
def frzokK (S : St) (ks : List Key) (K : Prop) : Prop := match ks with
  | [] => K
  | ks => frzokEK S.H ks S.E K
theorem frzok1K_imp {H : List (Key × Nat × AO)} {ks : List Key} {v : AV} {K : Prop} (h : frzok1K H ks v K) : frzok1 H ks v ∧ K := by
  cases v <;> try exact ⟨trivial, h⟩
  case ref k g sz off len =>
    simp only [frzok1K] at h
    simp only [frzok1]
    by_cases hk : k ∈ ks
    · rw [if_pos hk] at h ⊢
      cases hob : objIn H k with
      | none => rw [hob] at h; exact ⟨trivial, h⟩
      | some p =>
        obtain ⟨g', o⟩ := p
        rw [hob] at h
        cases o with
        | row e z l =>
          simp only at h ⊢
          by_cases hc : g' = g ∧ z = sz
          · rw [if_pos hc] at h ⊢; exact h
          · rw [if_neg hc] at h ⊢; exact ⟨trivial, h⟩
        | box e l => exact ⟨trivial, h⟩
        | iter s p => exact ⟨trivial, h⟩
    · rw [if_neg hk] at h ⊢
      exact ⟨trivial, h⟩
theorem frzokEK_imp {H : List (Key × Nat × AO)} {ks : List Key} : ∀ {E : List (Nat × AV)} {K : Prop}, frzokEK H ks E K → frzokE H ks E ∧ K
  | [], K, h => ⟨trivial, h⟩
  | (t, v) :: r, K, h => by
    obtain ⟨h1, h2⟩ := frzok1K_imp h
    obtain ⟨h3, h4⟩ := frzokEK_imp h2
    exact ⟨⟨h1, h3⟩, h4⟩
theorem frzokK_imp {S : St} {ks : List Key} {K : Prop} (h : frzokK S ks K) : frzok S ks ∧ K := by
  cases ks with
  | nil => exact ⟨trivial, h⟩
  | cons k r => exact frzokEK_imp h
 
def apBu (H : List (Key × Nat × AO)) (e sz : Nat) : AV → Option (List D × Option Key)
  | .nils => some ([], none)
  | .ref k g z off len => match objIn H k with
    | some (g', .row e' z' l) => if g' = g ∧ z' = sz ∧ z = sz ∧ e' = e then some (l, some k) else none
    | _ => none
  | _ => none
def apBok (H : List (Key × Nat × AO)) : AV → Prop
  | .ref k g z off len => match objIn H k with
    | some (_, .row _ _ l) => off = 0 ∧ len = l.length
    | _ => True
  | _ => True
def apNu (P : Program) (H : List (Key × Nat × AO)) (e sz : Nat) : AV → Option (List D)
  | .nils => some []
  | .d (.sl z l) => if z = sz then some l else none
  | .ref k g z off len => match objIn H k with
    | some (g', .row _ z' l) => if g' = g ∧ z' = sz ∧ z = sz then some ((l.drop off).take len) else none
    | _ => none
  | .d (.str s) => if sz = 1 then some (s.data.toList.map byteD) else none
  | _ => none
def apNok (H : List (Key × Nat × AO)) : AV → Prop
  | .ref k g z off len => match objIn H k with
    | some (_, .row _ _ l) => off + len ≤ l.length
    | _ => True
  | _ => True
theorem apBu_eq {H : List (Key × Nat × AO)} {e sz : Nat} {x : AV} (h : apBok H x) : apBu H e sz x = apBase H e sz x := by
  cases x <;> try rfl
  case ref k g z off len =>
    simp only [apBu, apBase]
    simp only [apBok] at h
    cases hob : objIn H k with
    | none => rfl
    | some p =>
      obtain ⟨g', o⟩ := p
      rw [hob] at h
      cases o with
      | row e z l => simp only at h; simp only [h, true_and]
      | box e l => rfl
      | iter s p => rfl
theorem apNu_eq {P : Program} {H : List (Key × Nat × AO)} {e sz : Nat} {x : AV} (h : apNok H x) : apNu P H e sz x = apNew P H e sz x := by
  cases x <;> try rfl
  case d x => cases x <;> rfl
  case ref k g z off len =>
    simp only [apNu, apNew]
    simp only [apNok] at h
    cases hob : objIn H k with
    | none => rfl
    | some p =>
      obtain ⟨g', o⟩ := p
      rw [hob] at h
      cases o with
      | row e z l => simp only at h; simp only [h, and_true]
      | box e l => rfl
      | iter s p => rfl
def apBokK (H : List (Key × Nat × AO)) (x : AV) (K : Prop) : Prop := match x with
  | .ref k g z off len => match objIn H k with
    | some (_, .row _ _ l) => (off = 0 ∧ len = l.length) ∧ K
    | _ => K
  | _ => K
def apNokK (H : List (Key × Nat × AO)) (x : AV) (K : Prop) : Prop := match x with
  | .ref k g z off len => match objIn H k with
    | some (_, .row _ _ l) => off + len ≤ l.length ∧ K
    | _ => K
  | _ => K
theorem apBokK_imp {H : List (Key × Nat × AO)} {x : AV} {K : Prop} (h : apBokK H x K) : apBok H x ∧ K := by
  cases x <;> try exact ⟨trivial, h⟩
  case ref k g sz off len =>
    simp only [apBokK] at h
    simp only [apBok]
    cases hob : objIn H k with
    | none => rw [hob] at h; exact ⟨trivial, h⟩
    | some p =>
      obtain ⟨g', o⟩ := p
      rw [hob] at h
      cases o with
      | row e z l => exact h
      | box e l => exact ⟨trivial, h⟩
      | iter s p => exact ⟨trivial, h⟩
theorem apNokK_imp {H : List (Key × Nat × AO)} {x : AV} {K : Prop} (h : apNokK H x K) : apNok H x ∧ K := by
  cases x <;> try exact ⟨trivial, h⟩
  case ref k g sz off len =>
    simp only [apNokK] at h
    simp only [apNok]
    cases hob : objIn H k with
    | none => rw [hob] at h; exact ⟨trivial, h⟩
    | some p =>
      obtain ⟨g', o⟩ := p
      rw [hob] at h
      cases o with
      | row e z l => exact h
      | box e l => exact ⟨trivial, h⟩
      | iter s p => exact ⟨trivial, h⟩
def strOrSl (x : Shape) (K : Prop) : Prop := match x with
  | .slice => K
  | .str => K
  | _ => False
theorem strOrSl_imp {x : Shape} {K : Prop} (h : strOrSl x K) : (x = .slice ∨ x = .str) ∧ K := by
  cases x <;> first | exact ⟨.inl rfl, h⟩ | exact ⟨.inr rfl, h⟩ | exact h.elim
def apU (P : Program) (ats : Array TypeId) (x y : AV) (d : Nat) (S : St) (K : St → Prop) : Prop := match ats.toList with
  | [t, t'] => match elemI P t with
    | some (e, sz, _) => (zeroI P e).map List.length = some sz ∧ strOrSl (shapeT P t') (Nat.ble 1 (P.bytesOf e) = true ∧ apBokK S.H x (apNokK S.H y (
        match apBu S.H e sz x, apNu P S.H e sz y with
        | some (l, k), some ys => (l.length + ys.length) * P.bytesOf e ≤ 140737488355328 ∧
            ∀ r, l ++ ys = r → K { E := putIn S.E d (.ref [d] S.c sz 0 r.length), H := ([d], S.c, .row e sz r) :: dropKey [d] (rmKey k S.H), c := S.c + 1 }
        | _, _ => False)))
    | none => False
  | _ => False
theorem apU_imp {P : Program} {ats : Array TypeId} {x y : AV} {d : Nat} {S : St} {K : St → Prop} (h : apU P ats x y d S K) : appendV P ats x y d S K := by
  unfold apU at h
  unfold appendV
  split at h
  · rename_i t t' hats
    simp only [hats]
    split at h
    · rename_i e sz b hei
      simp only [hei]
      obtain ⟨h1, h⟩ := h
      obtain ⟨h2, h3, h⟩ := strOrSl_imp h
      obtain ⟨h4, h⟩ := apBokK_imp h
      obtain ⟨h5, h6⟩ := apNokK_imp h
      rw [apBu_eq h4, apNu_eq h5] at h6
      refine ⟨h1, h2, Nat.le_of_ble_eq_true h3, ?_⟩
      split at h6
      · rename_i l k ys h7 h8
        have h9 := h6.2 _ rfl
        simp only [List.length_append] at h9
        simp only [h7, h8]
        exact ⟨h6.1, h9⟩
      · exact h6.elim
    · exact h.elim
  · exact h.elim
def storeU (P : Program) (nv : Nat) (t : TypeId) (p x : AV) (S : St) (K : St → Prop) : Prop := match p with
  | .elt k g z j o => match varI P t with
    | some (sz, b) => match objIn S.H k with
      | some (g', .row e z' l) => g' = g ∧ z' = z ∧ j < l.length ∧ toDokK S.H 9 x (match toDu P S.H 9 x with
          | some (y, []) => y.isAgg = b ∧ y.ncells = sz ∧
              ((o = 0 ∧ z = sz ∧ ∀ r, l.set j y = r → K { S with H := setO S.H k (.row e z r) }) ∨
               (∀ u, l.getD j default = u → match u with
                | .agg fs => o + sz ≤ fs.length ∧ ∀ r, l.set j (.agg (dset fs o y.cells)) = r → K { S with H := setO S.H k (.row e z r) }
                | _ => False))
          | _ => False)
      | _ => False
    | none => False
  | p => storeV P nv t p x S K
theorem storeU_imp {P : Program} {nv : Nat} {t : TypeId} {p x : AV} {S : St} {K : St → Prop} (h : storeU P nv t p x S K) : storeV P nv t p x S K := by
  cases p <;> try exact h
  case elt k g z j o =>
    simp only [storeU] at h
    unfold storeV
    cases hv : varI P t with
    | none => rw [hv] at h; exact h.elim
    | some q =>
      obtain ⟨sz, b⟩ := q
      rw [hv] at h
      simp only at h ⊢
      cases hob : objIn S.H k with
      | none => rw [hob] at h; exact h.elim
      | some p =>
        obtain ⟨g', o'⟩ := p
        rw [hob] at h
        cases o' with
        | row e z' l =>
          simp only at h ⊢
          obtain ⟨h1, h2, h3, h4⟩ := h
          obtain ⟨h4, h5⟩ := toDokK_imp _ _ _ _ h4
          rw [toDu_eq P S.H 9 x h4] at h5
          refine ⟨h1, h2, h3, ?_⟩
          split at h5
          · rename_i y hy
            simp only [hy]
            obtain ⟨a1, a2, a3⟩ := h5
            refine ⟨a1, a2, ?_⟩
            rcases a3 with ⟨b1, b2, b3⟩ | b3
            · exact .inl ⟨b1, b2, b3 _ rfl⟩
            · right
              have b4 := b3 _ rfl
              split at b4
              · rename_i fs hfs
                simp only [hfs]
                exact ⟨b4.1, b4.2 _ rfl⟩
              · exact b4.elim
          · exact h5.elim
        | box e l => exact h.elim
        | iter s p => exact h.elim
def effU (P : Program) (nv : Nat) (o : Oper) (S : St) (K : St → Prop) : Prop := match o.op with
  | .buildSlice t len parts => match o.dst, elemI P t with
    | some d, some (e, sz, b) => (zeroI P e).isSome = true ∧ seqParts 0 (parts.toList.map (·.1)) = true ∧ len = parts.size ∧ len * sz ≤ 16777216 ∧ toDlokK S.H 9 (parts.toList.map fun p => S.ev p.2) (
        match toDlu P S.H 9 (parts.toList.map fun p => S.ev p.2) with
        | some (xs, ks) => frzokK S ks (elemsP b sz xs ∧ K ((freezeU S ks).newObj d (.row e sz xs) (.ref [d] S.c sz 0 len)))
        | none => False)
    | _, _ => False
  | .store t p x => o.dst = none ∧ storeU P nv t (S.ev p) (S.ev x) S K
  | .call c => match c.callee, o.dst with
    | .builtin .append, some d => match c.args.toList with
      | [x, y] => apU P c.argTypes (S.ev x) (S.ev y) d S K
      | _ => False
    | _, _ => False
  | _ => effV P nv o S K
theorem effU_imp {P : Program} {nv : Nat} {o : Oper} {S : St} {K : St → Prop} (h : effU P nv o S K) : effV P nv o S K := by
  unfold effU at h
  split at h
  · rename_i t len parts hop
    unfold effV
    simp only [hop]
    split at h
    · rename_i d e sz b hd hei
      simp only [hd, hei]
      obtain ⟨h1, h2, h3, h4, h5⟩ := h
      obtain ⟨h5, h6⟩ := toDlokK_imp _ _ _ _ h5
      rw [toDlu_eq P S.H 9 _ h5] at h6
      refine ⟨h1, h2, h3, h4, ?_⟩
      split at h6
      · rename_i xs ks hxs
        obtain ⟨k1, k2, k3⟩ := frzokK_imp h6
        rw [freezeU_eq k1] at k3
        simp only [hxs]
        exact ⟨k2, k3⟩
      · exact h6.elim
    · exact h.elim
  · rename_i t p x hop
    unfold effV
    simp only [hop]
    exact ⟨h.1, storeU_imp h.2⟩
  · rename_i c hop
    unfold effV
    simp only [hop]
    split at h
    · rename_i d hc hd
      simp only [hc, hd]
      split at h
      · rename_i x y hxy
        simp only [hxy]
        exact apU_imp h
      · exact h.elim
    · exact h.elim
  · exact h
 
def argsU (P : Program) (H : List (Key × Nat × AO)) : List Mode → List AV → Option (List CV × List Key × List Key × List Key)
  | _, [] => some ([], [], [], [])
  | ms, x :: r => match argsU P H ms.tail r with
    | some (cs, kf, kr, ko) => match ms.headD .frz with
      | .own => match extu H 9 x with
        | some (c, ks) => some (c :: cs, kf, kr, ks ++ ko)
        | none => none
      | .ro => match toDu P H 9 x with
        | some (y, ks) => some (.d y :: cs, kf, ks ++ kr, ko)
        | none => none
      | .frz => match toDu P H 9 x with
        | some (y, ks) => some (.d y :: cs, ks ++ kf, kr, ko)
        | none => none
    | none => none
def argsok (H : List (Key × Nat × AO)) : List Mode → List AV → Prop
  | _, [] => True
  | ms, x :: r => (match ms.headD .frz with
      | .own => extok H 9 x
      | _ => toDok H 9 x) ∧ argsok H ms.tail r
def argsokK (H : List (Key × Nat × AO)) : List Mode → List AV → Prop → Prop
  | _, [], K => K
  | ms, x :: r, K => match ms.headD .frz with
      | .own => extokK H 9 x (argsokK H ms.tail r K)
      | .ro => toDokK H 9 x (argsokK H ms.tail r K)
      | .frz => toDokK H 9 x (argsokK H ms.tail r K)
theorem argsokK_imp (H : List (Key × Nat × AO)) : ∀ (ms : List Mode) (xs : List AV) (K : Prop), argsokK H ms xs K → argsok H ms xs ∧ K
  | _, [], K, h => ⟨trivial, h⟩
  | ms, x :: r, K, h => by
    simp only [argsokK] at h
    simp only [argsok]
    cases hm : ms.headD .frz with
    | own =>
      rw [hm] at h
      obtain ⟨h1, h2⟩ := extokK_imp H 9 x _ h
      obtain ⟨h3, h4⟩ := argsokK_imp H ms.tail r K h2
      exact ⟨⟨h1, h3⟩, h4⟩
    | ro =>
      rw [hm] at h
      obtain ⟨h1, h2⟩ := toDokK_imp H 9 x _ h
      obtain ⟨h3, h4⟩ := argsokK_imp H ms.tail r K h2
      exact ⟨⟨h1, h3⟩, h4⟩
    | frz =>
      rw [hm] at h
      obtain ⟨h1, h2⟩ := toDokK_imp H 9 x _ h
      obtain ⟨h3, h4⟩ := argsokK_imp H ms.tail r K h2
      exact ⟨⟨h1, h3⟩, h4⟩
theorem argsU_eq (P : Program) (H : List (Key × Nat × AO)) : ∀ (ms : List Mode) (xs : List AV), argsok H ms xs → argsU P H ms xs = argsC P H ms xs
  | _, [], _ => rfl
  | ms, x :: r, h => by
    simp only [argsok] at h
    simp only [argsU, argsC, argsU_eq P H ms.tail r h.2]
    cases argsC P H ms.tail r with
    | none => rfl
    | some q =>
      obtain ⟨cs, kf, kr, ko⟩ := q
      cases hm : ms.headD .frz with
      | own => rw [hm] at h; simp only [extu_eq H 9 x h.1]; rfl
      | ro => rw [hm] at h; simp only [toDu_eq P H 9 x h.1]; rfl
      | frz => rw [hm] at h; simp only [toDu_eq P H 9 x h.1]; rfl
def afterU (S : St) (dst : Option Nat) (ms : List Mode) (xs : List AV) (kf ko : List Key) (rs az : List CV) : St :=
  St.put ⟨(freezeU S kf).E, (resO dst S.c rs).2.1 ++ ((reown (resO dst S.c rs).2.2 ms xs az).1 ++ dropO dst (rmKeys ko (freezeU S kf).H)), (reown (resO dst S.c rs).2.2 ms xs az).2⟩ dst (resO dst S.c rs).1
def callU (P : Program) (T : Tab) (o : Oper) (S : St) (K : St → Prop) : Prop := match o.op with
  | .call c => match calleeV S c with
    | some (g, xs) => argsokK S.H (T.M g) xs (match argsU P S.H (T.M g) xs with
      | some (cs, kf, kr, ko) => frzokK S kf (bif okK ko kf kr then T.C g cs fun rs az => bif kr.isEmpty || (flats rs && flats az) then K (afterU S o.dst (T.M g) xs kf ko rs az) else False
          else False)
      | none => False)
    | none => False
  | _ => False
theorem callU_imp {P : Program} {T : Tab} {o : Oper} {S : St} {K : St → Prop} (h : callU P T o S K) : callV P T o S K := by
  unfold callU at h
  unfold callV
  split at h
  · rename_i c hop
    split at h
    · rename_i g xs hc
      obtain ⟨h1, h2⟩ := argsokK_imp _ _ _ _ h
      rw [argsU_eq P S.H _ _ h1] at h2
      simp only [hop, hc]
      split at h2
      · rename_i cs kf kr ko ha
        simp only [ha]
        obtain ⟨k1, k2⟩ := frzokK_imp h2
        have e : ∀ rs az, afterU S o.dst (T.M g) xs kf ko rs az = afterCall S o.dst (T.M g) xs kf ko rs az := fun rs az => by
          unfold afterU afterCall
          rw [freezeU_eq k1]
        simp only [e] at k2
        exact k2
      · exact h2.elim
    · exact h.elim
  · exact h.elim
end Go.Fw
namespace Go.Fw
open Go
set_option linter.unusedVariables false
set_option linter.unusedSimpArgs false
 
inductive Kd where
  | pu | rd | ef
def isCallV (o : Oper) : Bool := match o.op with
  | .call c => match c.callee with
    | .value _ => true
    | _ => false
  | _ => false
def isDsX (o : Oper) : Bool := isDs o || isCallV o
def opV (P : Program) (T : Tab) (nv : Nat) (k : Kd) (o : Oper) (S : St) (K : St → Prop) : Prop := match k with
  | .pu => valV P o.op S fun av => K (S.put o.dst av)
  | .rd => readV P o.op S fun av => K (S.put o.dst av)
  | .ef => bif isCallV o then callU P T o S K else effU P nv o S K
 
def stepV (P : Program) (T : Tab) (nv : Nat) (all : List Oper) (k : Kd) (o : Oper) (S : St) (K : St → Prop) : Prop := match o.guard with
  | none => opV P T nv k o S K
  | some (g, want) => match (all[g]?).bind (·.dst) with
    | some t => match getIn S.E t with
      | .d (.bool b) => bif want then (b = true → opV P T nv k o (S.put (some t) (.d (.bool true))) K) ∧ (b = false → K ((S.put (some t) (.d (.bool false))).put o.dst (.tup [])))
          else (b = false → opV P T nv k o (S.put (some t) (.d (.bool false))) K) ∧ (b = true → K ((S.put (some t) (.d (.bool true))).put o.dst (.tup [])))
      | .tup [] => K (S.put o.dst (.tup []))
      | _ => False
    | none => False
section
variable {P : Program} {F : Nat → Prop} {B : Blk} {w w' : World} {S : St} {a : Act} {N nv : Nat} {K : St → Prop} {T : Tab}
theorem Tr.put (hf : FR F B w S a) (hN : a.tmps.size = N) {dst : Option Tmp} (hd : dstOK N dst = true) {av : AV} {v : Value} (hv : VR w F B S.c av v) : Tr N F B w S F B w (S.put dst av) (a.put dst v) :=
  ⟨hf.put hN hd hv, by rw [Act.put_size]; exact hN, fun _ h => h, fun _ _ _ => rfl, fun b hb => by
    rcases hb with h | h
    · exact .inl h
    · refine .inr (.inl ?_)
      cases dst <;> exact h, rfl, rfl, rfl, Nat.le_refl _, fun _ _ => rfl⟩
 
theorem opV_wp (hT : T.Sound P) (hf : FR F B w S a) (hN : a.tmps.size = N) {k : Kd} {o : Oper} (hd : dstOK N o.dst = true) (h : opV P T nv k o S K) {Q : Exit → Act → World → Prop} {next : Act → World → Prop}
    (hk : ∀ a' w', (isDsX o = false → Ext w w') → (∃ S' F' B', K S' ∧ Tr N F B w S F' B' w' S' a') → next a' w') : o.wp P a w next Q := by
  cases k with
  | pu =>
    obtain ⟨v, av, h1, h2, h3⟩ := valV_run (K := fun av => K (S.put o.dst av)) hf o h
    unfold Oper.wp
    rw [h1 w]
    exact hk _ _ (fun _ => Ext.refl w) ⟨_, F, B, h3, Tr.put hf hN hd h2⟩
  | rd =>
    obtain ⟨v, av, h1, h2, h3⟩ := readV_run (K := fun av => K (S.put o.dst av)) hf o h
    unfold Oper.wp
    rw [h1 w (Ext.refl w)]
    exact hk _ _ (fun _ => Ext.refl w) ⟨_, F, B, h3, Tr.put hf hN hd h2⟩
  | ef =>
    unfold opV at h
    cases hc : isCallV o with
    | true =>
      simp only [hc, cond_true] at h
      exact callV_run hT hf hN o hd (callU_imp h) fun a' w' he => hk a' w' (fun hds => by simp [isDsX, hc] at hds) he
    | false =>
      simp only [hc, cond_false] at h
      obtain ⟨r, w', v, h1, h2, h3, S', F', B', h4, h5⟩ := effV_run hf hN o hd (effU_imp h)
      unfold Oper.wp
      rw [h1]
      have hx : isDsX o = false → Ext w w' := fun hds => h3 (by simpa [isDsX, hc] using hds)
      rcases h2 with rfl | ⟨rfl, rfl⟩
      · exact hk _ _ hx ⟨S', F', B', h4, h5⟩
      · exact hk _ _ hx ⟨S', F', B', h4, h5⟩
 
theorem opV_yields (hf : FR F B w S a) (hN : a.tmps.size = N) {k : Kd} {o : Oper} (hd : dstOK N o.dst = true) (h : opV P T nv k o S K) (hk : k ≠ .ef) :
    ∃ v, (∀ W, Ext w W → (execOp a.eval o).run P W = .ok (.value v) W) ∧ (k = .pu → ∀ W, (execOp a.eval o).run P W = .ok (.value v) W) ∧ ∃ S', K S' ∧ Tr N F B w S F B w S' (a.put o.dst v) := by
  cases k with
  | pu =>
    obtain ⟨v, av, h1, h2, h3⟩ := valV_run (K := fun av => K (S.put o.dst av)) hf o h
    exact ⟨v, fun W _ => h1 W, fun _ => h1, _, h3, Tr.put hf hN hd h2⟩
  | rd =>
    obtain ⟨v, av, h1, h2, h3⟩ := readV_run (K := fun av => K (S.put o.dst av)) hf o h
    exact ⟨v, h1, (fun h => nomatch h), _, h3, Tr.put hf hN hd h2⟩
  | ef => exact absurd rfl hk
 
theorem FR.know (hf : FR F B w S a) {t : Nat} {b b' : Bool} (h : getIn S.E t = .d (.bool b)) (hb : b = b') : FR F B w (S.put (some t) (.d (.bool b'))) a := by
  refine ⟨fun s => ?_, hf.objs, hf.sep, hf.inj, hf.Flt, hf.defers, by first | exact hf.pin | (cases S; exact hf.pin)⟩
  simp only [St.put, getIn_putIn]
  split
  · rename_i hs
    have := hf.slots s
    rw [hs, h, hb] at this
    rw [hs]
    exact this
  · exact hf.slots s
theorem Tr.know (hf : FR F B w S a) (hN : a.tmps.size = N) {t : Nat} {b b' : Bool} (h : getIn S.E t = .d (.bool b)) (hb : b = b') : Tr N F B w S F B w (S.put (some t) (.d (.bool b'))) a :=
  ⟨hf.know h hb, hN, fun _ h => h, fun _ _ _ => rfl, fun b hb => by
    rcases hb with h | h
    · exact .inl h
    · exact .inr (.inl h), rfl, rfl, rfl, Nat.le_refl _, fun _ _ => rfl⟩
theorem undef_VR {c : Nat} : VR w F B c (.tup []) undef := by
  simp only [VR]
  exact ⟨#[], rfl, by simp [VRl]⟩
theorem yielded_eq {ops : Array Oper} {g t : Nat} (h : (ops[g]?).bind (·.dst) = some t) (hf : FR F B w S a) :
    (∀ b, getIn S.E t = .d (.bool b) → yielded ops a.tmps g = some b) ∧ (getIn S.E t = .tup [] → yielded ops a.tmps g = none) := by
  have hs := hf.slots t
  have hg : ∀ v, a.tmps.getD t undef = v → v ≠ undef → a.tmps[t]? = some v := fun v hv hne => by
    rw [Array.getD_eq_getD_getElem?] at hv
    cases ht : a.tmps[t]? with
    | none => rw [ht] at hv; exact absurd hv.symm hne
    | some u => rw [ht] at hv; simp at hv; rw [hv]
  refine ⟨fun b hb => ?_, fun hb => ?_⟩
  · rw [hb] at hs
    simp only [VR, DRv, DRc, List.cons.injEq, and_true] at hs
    have := hg _ hs (by simp [undef])
    simp only [yielded, h, Option.bind_some, this]
  · rw [hb] at hs
    simp only [VR] at hs
    obtain ⟨vs, hv, hl⟩ := hs
    simp only [VRl] at hl
    simp only [yielded, h, Option.bind_some]
    cases ht : a.tmps[t]? with
    | none => rfl
    | some u =>
      rw [Array.getD_eq_getD_getElem?, ht] at hv
      simp only [Option.getD_some] at hv
      subst hv
      rfl
theorem stepV_wp (hT : T.Sound P) (hf : FR F B w S a) (hN : a.tmps.size = N) {k : Kd} {o : Oper} {all : List Oper} {i : Nat} (ho : all.toArray[i]? = some o) (hd : dstOK N o.dst = true) (h : stepV P T nv all k o S K) {Q : Exit → Act → World → Prop} {next : Act → World → Prop}
    (hk : ∀ a' w', (isDsX o = false → Ext w w') → (∃ S' F' B', K S' ∧ Tr N F B w S F' B' w' S' a') → next a' w') : wpOp P all.toArray Q i next a w := by
  unfold wpOp
  simp only [ho]
  unfold stepV at h
  split at h
  · rename_i hg
    have : Region.wanted o (yielded all.toArray a.tmps) = true := by simp [Region.wanted, hg]
    rw [if_pos this]
    exact .inl (opV_wp hT hf hN hd h hk)
  · rename_i g want hg
    split at h
    · rename_i t ht
      have ht' : (all.toArray[g]?).bind (·.dst) = some t := by simpa using ht
      obtain ⟨y1, y2⟩ := yielded_eq ht' hf
      split at h
      · rename_i b hb
        have h : (b = want → opV P T nv k o (S.put (some t) (.d (.bool want))) K) ∧ (b = !want → K ((S.put (some t) (.d (.bool !want))).put o.dst (.tup []))) := by
          cases want <;> exact h
        have hy := y1 b hb
        by_cases hbw : b = want
        · have : Region.wanted o (yielded all.toArray a.tmps) = true := by simp [Region.wanted, hg, hy, hbw]
          rw [if_pos this]
          have htr := Tr.know hf hN hb hbw
          refine .inl (opV_wp hT htr.fr hN hd (h.1 hbw) fun a' w' hx he => hk a' w' hx ?_)
          obtain ⟨S', F', B', k1, k2⟩ := he
          exact ⟨S', F', B', k1, htr.trans k2⟩
        · have : Region.wanted o (yielded all.toArray a.tmps) = false := by
            simp only [Region.wanted, hg, hy]
            simpa using hbw
          rw [this]
          have hb' : b = !want := by cases b <;> cases want <;> simp_all
          have htr := Tr.know hf hN hb hb'
          simp only [Bool.false_eq_true, if_false]
          exact hk _ _ (fun _ => Ext.refl w) ⟨_, F, B, h.2 hb', htr.trans (Tr.put htr.fr hN hd undef_VR)⟩
      · rename_i hb
        have hy := y2 hb
        have : Region.wanted o (yielded all.toArray a.tmps) = false := by
          simp only [Region.wanted, hg, hy]
          rfl
        rw [this]
        simp only [Bool.false_eq_true, if_false]
        exact hk _ _ (fun _ => Ext.refl w) ⟨_, F, B, h, Tr.put hf hN hd undef_VR⟩
      · exact h.elim
    · exact h.elim
theorem stepV_yields (hf : FR F B w S a) (hN : a.tmps.size = N) {k : Kd} {o : Oper} {all : List Oper} {i : Nat} (ho : all.toArray[i]? = some o) (hd : dstOK N o.dst = true) (h : stepV P T nv all k o S K) (hk : k ≠ .ef) :
    ∃ v, YieldsIf P all.toArray (Ext w) o v a ∧ (k = .pu → Yields P all.toArray o v a) ∧ ∃ S', K S' ∧ Tr N F B w S F B w S' (a.put o.dst v) := by
  unfold stepV at h
  split at h
  · rename_i hg
    have hw : Region.wanted o (yielded all.toArray a.tmps) = true := by simp [Region.wanted, hg]
    obtain ⟨v, h1, h2, h3⟩ := opV_yields hf hN hd h hk
    exact ⟨v, .inl ⟨hw, h1⟩, fun e => .inl ⟨hw, h2 e⟩, h3⟩
  · rename_i g want hg
    split at h
    · rename_i t ht
      have ht' : (all.toArray[g]?).bind (·.dst) = some t := by simpa using ht
      obtain ⟨y1, y2⟩ := yielded_eq ht' hf
      split at h
      · rename_i b hb
        have h : (b = want → opV P T nv k o (S.put (some t) (.d (.bool want))) K) ∧ (b = !want → K ((S.put (some t) (.d (.bool !want))).put o.dst (.tup []))) := by
          cases want <;> exact h
        have hy := y1 b hb
        by_cases hbw : b = want
        · have hw : Region.wanted o (yielded all.toArray a.tmps) = true := by simp [Region.wanted, hg, hy, hbw]
          have htr := Tr.know hf hN hb hbw
          obtain ⟨v, h1, h2, S', h3, h4⟩ := opV_yields htr.fr hN hd (h.1 hbw) hk
          exact ⟨v, .inl ⟨hw, h1⟩, fun e => .inl ⟨hw, h2 e⟩, S', h3, htr.trans h4⟩
        · have hw : Region.wanted o (yielded all.toArray a.tmps) = false := by
            simp only [Region.wanted, hg, hy]
            simpa using hbw
          have hb' : b = !want := by cases b <;> cases want <;> simp_all
          have htr := Tr.know hf hN hb hb'
          exact ⟨undef, .inr ⟨hw, rfl⟩, fun _ => .inr ⟨hw, rfl⟩, _, h.2 hb', htr.trans (Tr.put htr.fr hN hd undef_VR)⟩
      · rename_i hb
        have hy := y2 hb
        have hw : Region.wanted o (yielded all.toArray a.tmps) = false := by
          simp only [Region.wanted, hg, hy]
          rfl
        exact ⟨undef, .inr ⟨hw, rfl⟩, fun _ => .inr ⟨hw, rfl⟩, _, h, Tr.put hf hN hd undef_VR⟩
      · exact h.elim
    · exact h.elim
end
 
def kdT (P : Program) (o : Oper) : Kd := match o.op with
  | .load .. => .rd
  | .alloc .. | .box .. | .buildSlice .. | .makeSlice .. | .store .. | .assign .. | .range .. | .next .. => .ef
  | .call c => match c.callee with
    | .builtin .append => .ef
    | .builtin _ => .pu
    | _ => .ef
  | .convert src dst _ => match shapeT P src, shapeT P dst with
    | .slice, .str => .rd
    | .str, .slice => .ef
    | _, _ => .pu
  | _ => .pu
 
def regT (P : Program) (T : Tab) (nv : Nat) (all : List Oper) : List Oper → St → (St → Prop) → Prop
  | [], S, K => K S
  | o :: r, S, K => stepV P T nv all (kdT P o) o S fun S' => regT P T nv all r S' K
section
variable {P : Program} {F : Nat → Prop} {B : Blk} {w w' : World} {S : St} {a : Act} {N nv : Nat} {K : St → Prop} {T : Tab}
theorem regT_wp (hT : T.Sound P) {all : List Oper} (hd : all.all (fun o => dstOK N o.dst) = true) {Q : Exit → Act → World → Prop} : ∀ (r : List Oper) (i : Nat), all.drop i = r → ∀ {F B w S a}, FR F B w S a → a.tmps.size = N → regT P T nv all r S K →
    (∀ a' w', (∃ S' F' B', K S' ∧ Tr N F B w S F' B' w' S' a') → Q .normal a' w') → wpOps P all.toArray Q (List.range' i r.length) a w
  | [], i, hi, F, B, w, S, a, hf, hN, h, hQ => by
    simp only [List.length_nil, List.range'_zero, wpOps]
    exact hQ a w ⟨S, F, B, h, Tr.refl hf hN⟩
  | o :: r, i, hi, F, B, w, S, a, hf, hN, h, hQ => by
    have ho : all[i]? = some o := by
      have := congrArg (fun l => l[0]?) hi
      simpa using this
    have hr : all.drop (i + 1) = r := by
      have := congrArg List.tail hi
      simpa [List.tail_drop] using this
    have hdo : dstOK N o.dst = true := (List.all_eq_true.1 hd) o (List.mem_of_getElem? ho)
    simp only [List.length_cons, List.range'_succ, wpOps_cons]
    refine stepV_wp hT hf hN (by simpa using ho) hdo h fun a' w' _ he => ?_
    obtain ⟨S', F', B', k1, k2⟩ := he
    exact regT_wp hT hd r (i + 1) hr k2.fr k2.n k1 fun a2 w2 he2 => by
      obtain ⟨S2, F2, B2, q1, q2⟩ := he2
      exact hQ a2 w2 ⟨S2, F2, B2, q1, k2.trans q2⟩
theorem Awp_regT (hT : T.Sound P) {id : Nat} {l : List Oper} (hd : l.all (fun o => dstOK N o.dst) = true) {Q : Exit → St → Prop} (h : regT P T nv l l S (Q .normal)) : Awp P N (.region id l.toArray false) Q S := by
  intro F B w a hf hn
  refine wp_region ?_
  have e : List.range l.toArray.size = List.range' 0 l.length := by simp [List.range_eq_range']
  rw [e]
  exact regT_wp hT hd l 0 rfl hf hn h fun a' w' ⟨S', F', B', q, t⟩ => ⟨S', F', B', q, t⟩
end
end Go.Fw
namespace Go.Fw
open Go
set_option linter.unusedVariables false
set_option linter.unusedSimpArgs false
section
variable {P : Program} {ops : Array Oper} {Q : Exit → Act → World → Prop} {md : Region.Mode}
def dsAt (ops : Array Oper) (i : Nat) : Bool := match ops[i]? with
  | some o => isDsX o
  | none => false
 
def wpAnyX (P : Program) (md : Region.Mode) (ops : Array Oper) (Q : Exit → Act → World → Prop) : Nat → Array Bool → Act → World → Prop
  | 0, listed, a, w => Region.ready md ops listed = [] ∧ Q .normal a w
  | fuel + 1, listed, a, w =>
    (Region.ready md ops listed = [] → Q .normal a w) ∧
    ∀ i ∈ Region.ready md ops listed, wpOp P ops Q i (fun a' w' => (dsAt ops i = false → Ext w w') ∧ wpAnyX P md ops Q fuel (listed.setIfInBounds i true) a' w') a w
theorem wpAny_of_X : ∀ (fuel : Nat) (listed : Array Bool) (a : Act) (w : World), wpAnyX P md ops Q fuel listed a w → wpAny P md ops Q fuel listed a w
  | 0, _, _, _, h => h
  | fuel + 1, _, _, _, h => ⟨h.1, fun i hi => wpOp_mono (fun a' w' h' => wpAny_of_X fuel _ a' w' h'.2) (h.2 i hi)⟩
theorem wpAnyX_first {S : World → Prop} {i : Nat} {oi : Oper} {v : Value} (hi : ops[i]? = some oi) (hsel : ∀ (j : Nat) (o : Oper) cs b, ops[j]? = some o → o.op ≠ .select cs b)
    (hQ : ∀ c a w, ¬ Q (.panic c) a w) :
    ∀ (fuel : Nat) (listed : Array Bool) (a : Act) (w : World),
      (∀ j oj, ops[j]? = some oj → j ≠ i → listed.getD j true = false → (∀ e ∈ oj.after, Region.binds md e = true → e.on ≠ i) → oi.apart ops oj = true ∧ ∀ w w', S w → (dsAt ops j = false → Ext w w') → S w') →
      i ∈ Region.ready md ops listed → YieldsIf P ops S oi v a → S w →
      wpAnyX P md ops Q fuel (listed.setIfInBounds i true) (a.put oi.dst v) w → wpAnyX P md ops Q (fuel + 1) listed a w := by
  intro fuel
  induction fuel with
  | zero =>
    intro listed a w _ hr hy hS H
    refine ⟨fun h => (by rw [h] at hr; cases hr), fun j hj => ?_⟩
    by_cases hji : j = i
    · subst hji; exact hy.wpOp hi hS ⟨fun _ => Ext.refl w, H⟩
    · have := ready_mono hj hji
      rw [H.1] at this
      cases this
  | succ fuel ih =>
    intro listed a w hfree hr hy hS H
    refine ⟨fun h => (by rw [h] at hr; cases hr), fun j hj => ?_⟩
    by_cases hji : j = i
    · subst hji; exact hy.wpOp hi hS ⟨fun _ => Ext.refl w, H⟩
    · have h1 := H.2 j (ready_mono hj hji)
      obtain ⟨hjun, oj, hoj, hall⟩ := mem_ready.1 hj
      have hnot : ∀ e ∈ oj.after, Region.binds md e = true → e.on ≠ i := fun e he hb heq => by
        have h1 := hall e he hb
        have h0 := (mem_ready.1 hr).1
        rw [heq] at h1
        rcases Nat.lt_or_ge i listed.size with h' | h'
        · simp [h'] at h0 h1; rw [h0] at h1; cases h1
        · simp [Array.getElem?_eq_none h'] at h1
      have hfj := hfree j oj hoj hji hjun hnot
      have h2 := wpOp_putIf hoj hfj.1 (fun cs b => hsel i oi cs b hi) (fun cs b => hsel j oj cs b hoj) (fun c a w h => absurd h (hQ c _ w)) hy h1
      have hfree' : ∀ k ok, ops[k]? = some ok → k ≠ i → (listed.setIfInBounds j true).getD k true = false →
          (∀ e ∈ ok.after, Region.binds md e = true → e.on ≠ i) → oi.apart ops ok = true ∧ ∀ w w', S w → (dsAt ops k = false → Ext w w') → S w' := fun k ok hk hki hun hno => by
        refine hfree k ok hk hki ?_ hno
        by_cases hjk : j = k
        · subst hjk; exact hjun
        · rw [getD_set_ne true hjk] at hun; exact hun
      refine wpOp_mono (fun a' w' h3 => ⟨h3.2.1, ih (listed.setIfInBounds j true) a' w' hfree' (ready_mono hr (Ne.symm hji)) h3.1 (hfj.2 w w' hS h3.2.1) ?_⟩) h2
      rw [Array.setIfInBounds_comm _ _ hji]
      exact h3.2.2
theorem wpAnyX_one {fuel : Nat} {listed : Array Bool} {a : Act} {w : World} {i : Nat} (hr : Region.ready md ops listed = [i])
    (h : wpOp P ops Q i (fun a' w' => (dsAt ops i = false → Ext w w') ∧ wpAnyX P md ops Q fuel (listed.setIfInBounds i true) a' w') a w) : wpAnyX P md ops Q (fuel + 1) listed a w :=
  ⟨fun h0 => (by rw [hr] at h0; cases h0), fun j hj => by rw [hr] at hj; simp at hj; subst hj; exact h⟩
theorem wpAnyX_two {fuel : Nat} {listed : Array Bool} {a : Act} {w : World} {i j : Nat} (hr : Region.ready md ops listed = [i, j])
    (h : wpOp P ops Q i (fun a' w' => (dsAt ops i = false → Ext w w') ∧ wpAnyX P md ops Q fuel (listed.setIfInBounds i true) a' w') a w)
    (h' : wpOp P ops Q j (fun a' w' => (dsAt ops j = false → Ext w w') ∧ wpAnyX P md ops Q fuel (listed.setIfInBounds j true) a' w') a w) : wpAnyX P md ops Q (fuel + 1) listed a w :=
  ⟨fun h0 => (by rw [hr] at h0; cases h0), fun k hk => by
    rw [hr] at hk
    simp at hk
    rcases hk with rfl | rfl
    · exact h
    · exact h'⟩
theorem wpAnyX_done {listed : Array Bool} {a : Act} {w : World} (hr : Region.ready md ops listed = []) (h : Q .normal a w) : ∀ fuel, wpAnyX P md ops Q fuel listed a w
  | 0 => ⟨hr, h⟩
  | _ + 1 => ⟨fun _ => h, by rw [hr]; simp⟩
end
 
inductive Plan where
  | done
  | take (i : Nat) (k : Kd) (p : Plan)
  | one (i : Nat) (p : Plan)
  | two (i : Nat) (p : Plan) (j : Nat) (q : Plan)
def Kd.isPu : Kd → Bool
  | .pu => true
  | _ => false
def Kd.isEf : Kd → Bool
  | .ef => true
  | _ => false
 
def waits (ops : Array Oper) (listed : Array Bool) (i : Nat) : Bool := (List.range ops.size).all fun j =>
  j == i || listed.getD j true || !dsAt ops j || (match ops[j]? with
    | some oj => oj.after.any fun e => Region.binds .any e && e.on == i
    | none => true)
 
def planB (ops : Array Oper) : Nat → Array Bool → Plan → Bool
  | _, listed, .done => (Region.ready .any ops listed).isEmpty
  | 0, _, _ => false
  | n + 1, listed, .take i k p => (Region.ready .any ops listed).contains i && Region.free .any ops listed i && !k.isEf && (k.isPu || waits ops listed i) && planB ops n (listed.setIfInBounds i true) p
  | n + 1, listed, .one i p => (Region.ready .any ops listed == [i]) && planB ops n (listed.setIfInBounds i true) p
  | n + 1, listed, .two i p j q => (Region.ready .any ops listed == [i, j]) && planB ops n (listed.setIfInBounds i true) p && planB ops n (listed.setIfInBounds j true) q
def planOK (l : List Oper) (p : Plan) : Bool := Region.noSelect l.toArray && planB l.toArray l.length (Array.replicate l.length false) p
def regD (P : Program) (T : Tab) (nv : Nat) (all : List Oper) : Plan → St → (St → Prop) → Prop
  | .done, S, K => K S
  | .take i k p, S, K => match all[i]? with
    | some o => stepV P T nv all k o S fun S' => regD P T nv all p S' K
    | none => False
  | .one i p, S, K => match all[i]? with
    | some o => stepV P T nv all (kdT P o) o S fun S' => regD P T nv all p S' K
    | none => False
  | .two i p j q, S, K => (match all[i]? with
    | some o => stepV P T nv all (kdT P o) o S fun S' => regD P T nv all p S' K
    | none => False) ∧ match all[j]? with
    | some o => stepV P T nv all (kdT P o) o S fun S' => regD P T nv all q S' K
    | none => False
section
variable {P : Program} {F : Nat → Prop} {B : Blk} {w w' : World} {S : St} {a : Act} {N nv : Nat} {K : St → Prop} {T : Tab}
theorem waits_spec {ops : Array Oper} {listed : Array Bool} {i : Nat} (h : waits ops listed i = true) {j : Nat} {oj : Oper} (hj : ops[j]? = some oj) (hji : j ≠ i) (hl : listed.getD j true = false) (hn : ∀ e ∈ oj.after, Region.binds .any e = true → e.on ≠ i) : dsAt ops j = false := by
  have hlt : j < ops.size := (Array.getElem?_eq_some_iff.1 hj).1
  have := (List.all_eq_true.1 h) j (List.mem_range.2 hlt)
  simp only [Bool.or_eq_true, beq_iff_eq, hji, false_or, hl, Bool.false_eq_true, hj, Bool.not_eq_true'] at this
  rcases this with h1 | h1
  · exact h1
  · exfalso
    obtain ⟨k, hk, he⟩ := Array.any_eq_true.1 h1
    simp only [Bool.and_eq_true, beq_iff_eq] at he
    exact hn _ (Array.getElem_mem hk) he.1 he.2
theorem regD_wp (hT : T.Sound P) {all : List Oper} (hd : all.all (fun o => dstOK N o.dst) = true) (hs : Region.noSelect all.toArray = true) {Q : Exit → Act → World → Prop} (hQ : ∀ c a w, ¬ Q (.panic c) a w) :
    ∀ (p : Plan) (n : Nat) (listed : Array Bool), planB all.toArray n listed p = true → ∀ {F B w S a}, FR F B w S a → a.tmps.size = N → regD P T nv all p S K →
    (∀ a' w', (∃ S' F' B', K S' ∧ Tr N F B w S F' B' w' S' a') → Q .normal a' w') → wpAnyX P .any all.toArray Q n listed a w
  | .done, n, listed, hp, F, B, w, S, a, hf, hN, h, hK => by
    have hr : Region.ready .any all.toArray listed = [] := by
      cases n <;> simpa [planB] using hp
    exact wpAnyX_done hr (hK a w ⟨S, F, B, h, Tr.refl hf hN⟩) n
  | .take i k p, 0, listed, hp, F, B, w, S, a, hf, hN, h, hK => by simp [planB] at hp
  | .one i p, 0, listed, hp, F, B, w, S, a, hf, hN, h, hK => by simp [planB] at hp
  | .two i p j q, 0, listed, hp, F, B, w, S, a, hf, hN, h, hK => by simp [planB] at hp
  | .take i k p, n + 1, listed, hp, F, B, w, S, a, hf, hN, h, hK => by
    simp only [planB, Bool.and_eq_true, Bool.or_eq_true, Bool.not_eq_true'] at hp
    obtain ⟨⟨⟨⟨h1, h2⟩, h3⟩, h4⟩, h5⟩ := hp
    simp only [regD] at h
    split at h
    · rename_i o ho
      have ho' : all.toArray[i]? = some o := by simpa using ho
      have hdo : dstOK N o.dst = true := (List.all_eq_true.1 hd) o (List.mem_of_getElem? ho)
      have hk : k ≠ .ef := fun e => by subst e; simp [Kd.isEf] at h3
      obtain ⟨v, hy, hyp, S', hS', ht⟩ := stepV_yields hf hN ho' hdo h hk
      have next := regD_wp hT hd hs hQ p n _ h5 ht.fr ht.n hS' fun a2 w2 he2 => by
        obtain ⟨S2, F2, B2, q1, q2⟩ := he2
        exact hK a2 w2 ⟨S2, F2, B2, q1, ht.trans q2⟩
      have hfree := Region.free_spec ho' h2
      have hready : i ∈ Region.ready .any all.toArray listed := by simpa using h1
      cases k with
      | ef => exact absurd rfl hk
      | pu => exact wpAnyX_first (S := fun _ => True) ho' (Region.noSelect_spec hs) hQ n listed a w (fun j oj hj hji hl hn => ⟨hfree j oj hj hji hl hn, fun _ _ _ _ => trivial⟩) hready ((hyp rfl).yieldsIf) trivial next
      | rd =>
        have hw : waits all.toArray listed i = true := by simpa [Kd.isPu] using h4
        exact wpAnyX_first (S := Ext w) ho' (Region.noSelect_spec hs) hQ n listed a w (fun j oj hj hji hl hn => ⟨hfree j oj hj hji hl hn, fun w1 w2 hw1 hx => fun b hb => by
          rw [hx (waits_spec hw hj hji hl hn) b (Nat.lt_of_lt_of_le hb hw1.size), hw1 b hb]⟩) hready hy (Ext.refl w) next
    · exact h.elim
  | .one i p, n + 1, listed, hp, F, B, w, S, a, hf, hN, h, hK => by
    simp only [planB, Bool.and_eq_true, beq_iff_eq] at hp
    simp only [regD] at h
    split at h
    · rename_i o ho
      have ho' : all.toArray[i]? = some o := by simpa using ho
      have hdo : dstOK N o.dst = true := (List.all_eq_true.1 hd) o (List.mem_of_getElem? ho)
      refine wpAnyX_one hp.1 (stepV_wp hT hf hN ho' hdo h fun a' w' hx he => ⟨fun hds => hx (by simpa [dsAt, ho] using hds), ?_⟩)
      obtain ⟨S', F', B', k1, k2⟩ := he
      exact regD_wp hT hd hs hQ p n _ hp.2 k2.fr k2.n k1 fun a2 w2 he2 => by
        obtain ⟨S2, F2, B2, q1, q2⟩ := he2
        exact hK a2 w2 ⟨S2, F2, B2, q1, k2.trans q2⟩
    · exact h.elim
  | .two i p j q, n + 1, listed, hp, F, B, w, S, a, hf, hN, h, hK => by
    simp only [planB, Bool.and_eq_true, beq_iff_eq] at hp
    simp only [regD] at h
    obtain ⟨h, h'⟩ := h
    split at h
    · rename_i o ho
      split at h'
      · rename_i o' hoj
        have ho1 : all.toArray[i]? = some o := by simpa using ho
        have ho2 : all.toArray[j]? = some o' := by simpa using hoj
        have hdo : dstOK N o.dst = true := (List.all_eq_true.1 hd) o (List.mem_of_getElem? ho)
        have hdo' : dstOK N o'.dst = true := (List.all_eq_true.1 hd) o' (List.mem_of_getElem? hoj)
        refine wpAnyX_two hp.1.1 (stepV_wp hT hf hN ho1 hdo h fun a' w' hx he => ⟨fun hds => hx (by simpa [dsAt, ho] using hds), ?_⟩)
          (stepV_wp hT hf hN ho2 hdo' h' fun a' w' hx he => ⟨fun hds => hx (by simpa [dsAt, hoj] using hds), ?_⟩)
        · obtain ⟨S', F', B', k1, k2⟩ := he
          exact regD_wp hT hd hs hQ p n _ hp.1.2 k2.fr k2.n k1 fun a2 w2 he2 => by
            obtain ⟨S2, F2, B2, q1, q2⟩ := he2
            exact hK a2 w2 ⟨S2, F2, B2, q1, k2.trans q2⟩
        · obtain ⟨S', F', B', k1, k2⟩ := he
          exact regD_wp hT hd hs hQ q n _ hp.2 k2.fr k2.n k1 fun a2 w2 he2 => by
            obtain ⟨S2, F2, B2, q1, q2⟩ := he2
            exact hK a2 w2 ⟨S2, F2, B2, q1, k2.trans q2⟩
      · exact h'.elim
    · exact h.elim
theorem FR.drawn (hf : FR F B w S a) : FR F B { w with drawn := w.drawn + 1 } S a := by
  refine hf.world (w' := { w with drawn := w.drawn + 1 }) (fun _ _ => rfl) (fun _ h => h) (fun b hb => (hf.sep b hb).1) hf.Flt (Nat.le_refl _)
theorem Awp_regD (hm : P.follows .mixedOrders = true) (hT : T.Sound P) {id : Nat} {l : List Oper} (p : Plan) (hd : l.all (fun o => dstOK N o.dst) = true) (hp : planOK l p = true) {Q : Exit → St → Prop} (h : regD P T nv l p S (Q .normal)) : Awp P N (.region id l.toArray true) Q S := by
  intro F B w a hf hn
  simp only [planOK, Bool.and_eq_true] at hp
  have key : (Code.region id l.toArray true).wp P (fun e a' w' => e = .normal ∧ ∃ S' F' B', Q .normal S' ∧ Tr N F B w S F' B' w' S' a') a w := by
    refine wp_region_any hm (wpAny_of_X _ _ _ _ ?_)
    have hsz : l.toArray.size = l.length := by simp
    rw [hsz]
    refine regD_wp hT hd hp.1 (fun c a w h => by cases h.1) p l.length _ hp.2 hf.drawn hn h fun a' w' he => ⟨rfl, ?_⟩
    obtain ⟨S', F', B', k1, k2⟩ := he
    exact ⟨S', F', B', k1, k2.fr, k2.n, k2.sub, k2.keep, k2.new, k2.os, k2.tape, k2.output, k2.size, k2.old⟩
  exact wp_mono key fun e a' w' ⟨h1, S', F', B', q, t⟩ => ⟨S', F', B', h1 ▸ q, t⟩
end
end Go.Fw
namespace Go.Fw
open Go
set_option linter.unusedVariables false
set_option linter.unusedSimpArgs false
def seqQ (next : St → Prop) (Q : Exit → St → Prop) : Exit → St → Prop
  | .normal, S => next S
  | e, S => Q e S
def blkQ (id : Nat) (Q : Exit → St → Prop) : Exit → St → Prop
  | .exit id', S => if id' = id then Q .normal S else Q (.exit id') S
  | e, S => Q e S
section
variable {P : Program} {N nv : Nat} {Q : Exit → St → Prop} {S : St} {T : Tab}
theorem Awp.seq {x y : Code} (h : Awp P N x (seqQ (Awp P N y Q) Q) S) : Awp P N (.seq x y) Q S := by
  intro F B w a hf hn
  refine wp_seq (wp_mono (h F B w a hf hn) fun e a1 w1 ⟨S1, F1, B1, q, t⟩ => ?_)
  cases e with
  | normal => exact wp_mono (q F1 B1 w1 a1 t.fr t.n) fun e2 a2 w2 ⟨S2, F2, B2, q2, t2⟩ => ⟨S2, F2, B2, q2, t.trans t2⟩
  | _ => exact ⟨S1, F1, B1, q, t⟩
theorem Awp.block {id : Nat} {c : Code} (h : Awp P N c (blkQ id Q) S) : Awp P N (.block id c) Q S := by
  intro F B w a hf hn
  refine wp_block (wp_mono (h F B w a hf hn) fun e a1 w1 ⟨S1, F1, B1, q, t⟩ => ?_)
  cases e with
  | exit id' =>
    simp only [blkQ] at q
    simp only [Exit.inBlock]
    split
    · rename_i hid; rw [if_pos hid] at q; exact ⟨S1, F1, B1, q, t⟩
    · rename_i hid; rw [if_neg hid] at q; exact ⟨S1, F1, B1, q, t⟩
  | _ => exact ⟨S1, F1, B1, q, t⟩
theorem Awp.skip (h : Q .normal S) : Awp P N .skip Q S := fun F B w a hf hn => wp_skip ⟨S, F, B, h, Tr.refl hf hn⟩
theorem Awp.label {l : Nat} (h : Q .normal S) : Awp P N (.label l) Q S := fun F B w a hf hn => wp_label ⟨S, F, B, h, Tr.refl hf hn⟩
theorem Awp.exit {id : Nat} (h : Q (.exit id) S) : Awp P N (.exit id) Q S := fun F B w a hf hn => wp_exit ⟨S, F, B, h, Tr.refl hf hn⟩
theorem Awp.ret (h : Q .ret S) : Awp P N .ret Q S := fun F B w a hf hn => wp_ret ⟨S, F, B, h, Tr.refl hf hn⟩
theorem Awp.cond {c : Operand} {x y : Code} {b : Bool} (hc : S.ev c = .d (.bool b)) (h1 : b = true → Awp P N x Q S) (h2 : b = false → Awp P N y Q S) : Awp P N (.cond c x y) Q S := by
  intro F B w a hf hn
  have hv : a.eval c = .bool b := val_of_scalar (x := .bool b) rfl (by rw [← hc]; exact ev_VR hf c)
  exact wp_cond_split hv (fun h => h1 h F B w a hf hn) (fun h => h2 h F B w a hf hn)
 
 
def rnG (H : List (Key × Nat × AO)) : List (Key × Nat × AO) → Nat → Nat
  | [], _ => 0
  | (k, g', _) :: r, g => if g' = g then (match objIn H k with
      | some (g0, _) => g0
      | none => 0)
    else rnG H r g
mutual
def rnAV (ρ : Nat → Nat) : AV → AV
  | .ref k g sz off len => .ref k (ρ g) sz off len
  | .elt k g sz j o => .elt k (ρ g) sz j o
  | .addr k g c => .addr k (ρ g) c
  | .agg l => .agg (rnAVs ρ l)
  | .tup l => .tup (rnAVs ρ l)
  | .clo fn f c => .clo fn (rnAVs ρ f) (rnAVs ρ c)
  | x => x
def rnAVs (ρ : Nat → Nat) : List AV → List AV
  | [] => []
  | x :: r => rnAV ρ x :: rnAVs ρ r
end
mutual
def okG (c : Nat) : AV → Bool
  | .ref _ g _ _ _ => decide (g < c)
  | .elt _ g _ _ _ => decide (g < c)
  | .addr _ g _ => decide (g < c)
  | .agg l => okGs c l
  | .tup l => okGs c l
  | .clo _ f cp => okGs c f && okGs c cp
  | _ => true
def okGs (c : Nat) : List AV → Bool
  | [] => true
  | x :: r => okG c x && okGs c r
end
def rnAO (ρ : Nat → Nat) : AO → AO
  | .box e l => .box e (rnAVs ρ l)
  | o => o
def okAO (c : Nat) : AO → Bool
  | .box _ l => okGs c l
  | _ => true
mutual
theorem VR_rn {F : Nat → Prop} {B : Blk} {w : World} {c c' : Nat} (ρ : Nat → Nat) : ∀ (x : AV) (v : Value), okG c' x = true → VR w F B c (rnAV ρ x) v → VR w F (fun g => B (ρ g)) c' x v
  | .d x, v, _, h => by simpa only [rnAV, VR] using h
  | .nils, v, _, h => by simpa only [rnAV, VR] using h
  | .ref k g sz off len, v, ho, h => by
    simp only [okG, decide_eq_true_eq] at ho
    simp only [rnAV, VR] at h ⊢
    exact ⟨ho, h.2⟩
  | .elt k g sz j o, v, ho, h => by
    simp only [okG, decide_eq_true_eq] at ho
    simp only [rnAV, VR] at h ⊢
    exact ⟨ho, h.2⟩
  | .addr k g o, v, ho, h => by
    simp only [okG, decide_eq_true_eq] at ho
    simp only [rnAV, VR] at h ⊢
    exact ⟨ho, h.2⟩
  | .agg l, v, ho, h => by
    simp only [okG] at ho
    simp only [rnAV, VR] at h ⊢
    obtain ⟨cs, e, h0, h1⟩ := h
    exact ⟨cs, e, by rw [← h0]; exact (cells_rn ρ l).symm, VRl_rn ρ l _ ho h1⟩
  | .tup l, v, ho, h => by
    simp only [okG] at ho
    simp only [rnAV, VR] at h ⊢
    obtain ⟨vs, e, h1⟩ := h
    exact ⟨vs, e, VRl_rn ρ l _ ho h1⟩
  | .clo fn f cp, v, ho, h => by
    simp only [okG, Bool.and_eq_true] at ho
    simp only [rnAV, VR] at h ⊢
    obtain ⟨fv, cv, e, h1, h2⟩ := h
    exact ⟨fv, cv, e, VRl_rn ρ f _ ho.1 h1, VRl_rn ρ cp _ ho.2 h2⟩
  | .dead, v, _, h => by simp [VR]
theorem VRl_rn {F : Nat → Prop} {B : Blk} {w : World} {c c' : Nat} (ρ : Nat → Nat) : ∀ (l : List AV) (vs : List Value), okGs c' l = true → VRl w F B c (rnAVs ρ l) vs → VRl w F (fun g => B (ρ g)) c' l vs
  | [], vs, _, h => by simpa only [rnAVs, VRl] using h
  | x :: r, vs, ho, h => by
    simp only [okGs, Bool.and_eq_true] at ho
    simp only [rnAVs, VRl] at h ⊢
    obtain ⟨v, vs', e, h1, h2⟩ := h
    exact ⟨v, vs', e, VR_rn ρ x v ho.1 h1, VRl_rn ρ r vs' ho.2 h2⟩
theorem cell_rn (ρ : Nat → Nat) : ∀ x : AV, (rnAV ρ x).cell = x.cell
  | .d x => rfl
  | .nils => rfl
  | .ref .. => rfl
  | .elt .. => rfl
  | .addr .. => rfl
  | .agg _ => rfl
  | .tup _ => rfl
  | .clo .. => rfl
  | .dead => rfl
theorem cells_rn (ρ : Nat → Nat) : ∀ l : List AV, cellsOK (rnAVs ρ l) = cellsOK l
  | [] => rfl
  | x :: r => by simp only [rnAVs, cellsOK, cell_rn ρ x, cells_rn ρ r]
end
def rho (S S' : St) (g : Nat) : Nat := if g < 16 then g else rnG S.H S'.H g
 
structure Forget (S S' : St) : Prop where
  E : ∀ p ∈ S'.E, getIn S.E p.1 = rnAV (rho S S') p.2 ∧ okG S'.c p.2 = true
  H : ∀ x ∈ S'.H, (x.1, rho S S' x.2.1, rnAO (rho S S') x.2.2) ∈ S.H ∧ x.2.1 < S'.c ∧ okAO S'.c x.2.2 = true
  nodup : (S'.H.map fun x => rho S S' x.2.1).Nodup
  pin : 16 ≤ S'.c
theorem getIn_mem : ∀ (E : List (Nat × AV)) (t : Nat), getIn E t = .dead ∨ ∃ p ∈ E, p.1 = t ∧ p.2 = getIn E t
  | [], t => .inl rfl
  | (k, v) :: r, t => by
    simp only [getIn]
    split
    · rename_i h; exact .inr ⟨(k, v), by simp, h, rfl⟩
    · rcases getIn_mem r t with h | ⟨p, hp, h1, h2⟩
      · exact .inl h
      · exact .inr ⟨p, by simp [hp], h1, h2⟩
theorem FR.forget {F : Nat → Prop} {B : Blk} {w : World} {a : Act} {S S' : St} (hf : FR F B w S a) (h : Forget S S') : FR F (fun g => B (rho S S' g)) w S' a := by
  refine ⟨fun t => ?_, fun k g o hm => ?_, fun b hb => ?_, ?_, hf.Flt, hf.defers, h.pin⟩
  · rcases getIn_mem S'.E t with h1 | ⟨p, hp, h5, h6⟩
    · rw [h1]; simp [VR]
    · obtain ⟨e1, e2⟩ := h.E p hp
      have hs := hf.slots t
      rw [← h5, e1] at hs
      rw [← h6, ← h5]
      exact VR_rn _ _ _ e2 hs
  · obtain ⟨h1, h2, h3⟩ := h.H _ hm
    have ho := (hf.objs _ _ _ h1).2
    refine ⟨h2, ?_⟩
    cases o with
    | row e sz l => simpa only [rnAO, OR] using ho
    | iter s p => simpa only [rnAO, OR] using ho
    | box e l =>
      simp only [rnAO, OR] at ho ⊢
      obtain ⟨b, n, cs, fr, k1, k2, k3, k4, k5⟩ := ho
      exact ⟨b, n, cs, fr, k1, k2, k3, by rw [← k4]; exact (cells_rn _ l).symm, VRl_rn _ l _ h3 k5⟩
  · obtain ⟨k, g, o, n, hm, hB⟩ := hb
    exact hf.sep b ⟨_, _, _, n, (h.H _ hm).1, hB⟩
  · have := h.nodup
    rw [List.pairwise_map]
    have hn := List.pairwise_map.1 (show (S'.H.map fun x => rho S S' x.2.1).Pairwise (· ≠ ·) from this)
    refine List.Pairwise.imp_of_mem (fun {x y} hx hy hne => ?_) hn
    exact ⟨fun e => hne (by rw [e]), fun b n n' e => hf.apart (h.H _ hx).1 (h.H _ hy).1 hne e⟩
theorem own_forget {B : Blk} {S S' : St} (h : Forget S S') {b : Nat} (ho : Own S'.H (fun g => B (rho S S' g)) b) : Own S.H B b := by
  obtain ⟨k, g, o, n, hm, hB⟩ := ho
  exact ⟨_, _, _, n, (h.H _ hm).1, hB⟩
theorem Tr.forget {F : Nat → Prop} {B : Blk} {w : World} {a : Act} {S S' : St} (hf : FR F B w S a) (hn : a.tmps.size = N) (h : Forget S S') : Tr N F B w S F (fun g => B (rho S S' g)) w S' a :=
  ⟨hf.forget h, hn, fun _ h => h, fun _ _ _ => rfl, fun b hb => hb.elim .inl fun hb => .inr (.inl (own_forget h hb)), rfl, rfl, rfl, Nat.le_refl _, fun g hg => by simp only [rho, if_pos hg]⟩
theorem Awp.forget {c : Code} {S' : St} (hS : Forget S S') (h : Awp P N c Q S') : Awp P N c Q S := fun F B w a hf hn =>
  wp_mono (h F _ w a (hf.forget hS) hn) fun e a' w' ⟨S2, F2, B2, q, t⟩ => ⟨S2, F2, B2, q, (Tr.forget hf hn hS).trans t⟩
 
theorem Awp.conseq {c : Code} {Q' : Exit → St → Prop} (hq : ∀ e S, Q e S → ∃ S', Forget S S' ∧ Q' e S') (h : Awp P N c Q S) : Awp P N c Q' S := fun F B w a hf hn =>
  wp_mono (h F B w a hf hn) fun e a' w' ⟨S2, F2, B2, q, t⟩ => by
    obtain ⟨S3, h3, q3⟩ := hq e S2 q
    exact ⟨S3, F2, _, q3, t.trans (Tr.forget t.fr t.n h3)⟩
 
theorem Awp.loop {c : Code} {ι : Type} (I : ι → St) (μ : ι → Nat) (round : ∀ i, Awp P N c (seqQ (fun S' => ∃ j, μ j < μ i ∧ Forget S' (I j)) Q) (I i)) {i : ι} (h : Forget S (I i)) : Awp P N (.loop c) Q S := by
  intro F B w a hf hn
  have key : ∀ n j Fj Bj wj aj, μ j < n → Tr N F B w S Fj Bj wj (I j) aj → Code.rounds P c (fun e a' w' => ∃ S' F' B', Q e S' ∧ Tr N F B w S F' B' w' S' a') n aj wj := by
    intro n
    induction n with
    | zero => intro j Fj Bj wj aj hj; exact absurd hj (Nat.not_lt_zero _)
    | succ n ih =>
      intro j Fj Bj wj aj hj t
      rw [rounds_succ]
      refine wp_mono (round j Fj Bj wj aj t.fr t.n) fun e a1 w1 ⟨S1, F1, B1, q, t1⟩ => ?_
      cases e with
      | normal =>
        obtain ⟨j', hlt, hfg⟩ := q
        exact ih j' F1 _ w1 a1 (by omega) (t.trans (t1.trans (Tr.forget t1.fr t1.n hfg)))
      | _ => exact ⟨S1, F1, B1, q, t.trans t1⟩
  exact wp_loop_rounds _ (key (μ i + 1) i F _ w a (Nat.lt_succ_self _) (Tr.forget hf hn h))
end
 
def vc (P : Program) (T : Tab) (N nv : Nat) (pl : Nat → Plan) : Code → (Exit → St → Prop) → St → Prop
  | .skip, Q, S => Q .normal S
  | .label _, Q, S => Q .normal S
  | .seq x y, Q, S => vc P T N nv pl x (seqQ (vc P T N nv pl y Q) Q) S
  | .cond c x y, Q, S => match S.ev c with
    | .d (.bool b) => (b = true → vc P T N nv pl x Q S) ∧ (b = false → vc P T N nv pl y Q S)
    | _ => False
  | .block id c, Q, S => vc P T N nv pl c (blkQ id Q) S
  | .exit id, Q, S => Q (.exit id) S
  | .ret, Q, S => Q .ret S
  | .region id ops draw, Q, S => bif draw then regD P T nv ops.toList (pl id) S (Q .normal) else regT P T nv ops.toList ops.toList S (Q .normal)
  | c, Q, S => Awp P N c Q S
 
def codeOK (N : Nat) (pl : Nat → Plan) : Code → Bool
  | .seq x y => codeOK N pl x && codeOK N pl y
  | .cond _ x y => codeOK N pl x && codeOK N pl y
  | .block _ c => codeOK N pl c
  | .region id ops draw => ops.toList.all (fun o => dstOK N o.dst) && (!draw || planOK ops.toList (pl id))
  | _ => true
theorem vc_sound {P : Program} {T : Tab} {N nv : Nat} {pl : Nat → Plan} (hm : P.follows .mixedOrders = true) (hT : T.Sound P) : ∀ (c : Code) (Q : Exit → St → Prop) (S : St), codeOK N pl c = true → vc P T N nv pl c Q S → Awp P N c Q S
  | .skip, Q, S, hc, h => Awp.skip h
  | .label _, Q, S, hc, h => Awp.label h
  | .seq x y, Q, S, hc, h => by
    simp only [codeOK, Bool.and_eq_true] at hc
    refine Awp.seq ((vc_sound hm hT x _ S hc.1 h).mono fun e S' q => ?_)
    cases e with
    | normal => exact vc_sound hm hT y Q S' hc.2 q
    | _ => exact q
  | .cond c x y, Q, S, hc, h => by
    simp only [codeOK, Bool.and_eq_true] at hc
    simp only [vc] at h
    split at h
    · rename_i b hb
      exact Awp.cond hb (fun e => vc_sound hm hT x Q S hc.1 (h.1 e)) (fun e => vc_sound hm hT y Q S hc.2 (h.2 e))
    · exact h.elim
  | .block id c, Q, S, hc, h => Awp.block (vc_sound hm hT c _ S hc h)
  | .exit id, Q, S, hc, h => Awp.exit h
  | .ret, Q, S, hc, h => Awp.ret h
  | .region id ops draw, Q, S, hc, h => by
    simp only [codeOK, Bool.and_eq_true, Bool.or_eq_true, Bool.not_eq_true'] at hc
    have e : ops = ops.toList.toArray := by simp
    cases draw with
    | true =>
      have hp := hc.2.resolve_left (by simp)
      rw [e]
      exact Awp_regD hm hT (pl id) hc.1 hp h
    | false =>
      rw [e]
      exact Awp_regT hT hc.1 h
  | .loop c, Q, S, hc, h => h
  | .goto l, Q, S, hc, h => h
  | .rangeFunc .., Q, S, hc, h => h
  | .scope _, Q, S, hc, h => h
  | .refuse _, Q, S, hc, h => h
end Go.Fw
namespace Go.Fw
open Go
set_option linter.unusedVariables false
set_option linter.unusedSimpArgs false
def slotsFrom (i : Nat) : List AV → List (Nat × AV)
  | [] => []
  | x :: r => (i, x) :: slotsFrom (i + 1) r
 
def entry (args : List CV) : St := ⟨slotsFrom 0 (interns [] 0 0 args).1, (interns [] 0 0 args).2.1, 16⟩
def retAVs (P : Program) (S : St) : List ResultVar → (List AV → Prop) → Prop
  | [], K => K []
  | .tmp t :: r, K => retAVs P S r fun l => K (getIn S.E t :: l)
  | .cell a t :: r, K => loadV P t S (getIn S.E a) fun av => retAVs P S r fun l => K (av :: l)
 
def backs (H : List (Key × Nat × AO)) : List Bool → List AV → Option (List CV × List Key)
  | _, [] => some ([], [])
  | bs, x :: xs => match backs H bs.tail xs with
    | some (cs, ks) => bif bs.headD false then match ext H 9 x with
        | some (c, k1) => some (c :: cs, k1 ++ ks)
        | none => none
      else some (.gone :: cs, ks)
    | none => none
def retV (P : Program) (res : List ResultVar) (rm : List Mode) (am : List Bool) (args : List CV) (S : St) (R : List CV → List CV → Prop) : Prop :=
  retAVs P S res fun rvs => match argsC P S.H rm rvs, backs S.H am (interns [] 0 0 args).1 with
    | some (rs, kf, [], ko), some (az, ka) => bif okK (ko ++ ka) kf [] then R rs az else False
    | _, _ => False
def backsU (H : List (Key × Nat × AO)) : List Bool → List AV → Option (List CV × List Key)
  | _, [] => some ([], [])
  | bs, x :: xs => match backsU H bs.tail xs with
    | some (cs, ks) => bif bs.headD false then match extu H 9 x with
        | some (c, k1) => some (c :: cs, k1 ++ ks)
        | none => none
      else some (.gone :: cs, ks)
    | none => none
def backsok (H : List (Key × Nat × AO)) : List Bool → List AV → Prop
  | _, [] => True
  | bs, x :: xs => (bif bs.headD false then extok H 9 x else True) ∧ backsok H bs.tail xs
def backsokK (H : List (Key × Nat × AO)) : List Bool → List AV → Prop → Prop
  | _, [], K => K
  | bs, x :: xs, K => bif bs.headD false then extokK H 9 x (backsokK H bs.tail xs K) else backsokK H bs.tail xs K
theorem backsokK_imp (H : List (Key × Nat × AO)) : ∀ (bs : List Bool) (xs : List AV) (K : Prop), backsokK H bs xs K → backsok H bs xs ∧ K
  | _, [], K, h => ⟨trivial, h⟩
  | bs, x :: r, K, h => by
    simp only [backsokK] at h
    simp only [backsok]
    cases hm : bs.headD false with
    | true =>
      rw [hm] at h
      obtain ⟨h1, h2⟩ := extokK_imp H 9 x _ h
      obtain ⟨h3, h4⟩ := backsokK_imp H bs.tail r K h2
      exact ⟨⟨h1, h3⟩, h4⟩
    | false =>
      rw [hm] at h
      obtain ⟨h3, h4⟩ := backsokK_imp H bs.tail r K h
      exact ⟨⟨trivial, h3⟩, h4⟩
theorem backsU_eq (H : List (Key × Nat × AO)) : ∀ (bs : List Bool) (xs : List AV), backsok H bs xs → backsU H bs xs = backs H bs xs
  | _, [], _ => rfl
  | bs, x :: r, h => by
    simp only [backsok] at h
    simp only [backsU, backs, backsU_eq H bs.tail r h.2]
    cases backs H bs.tail r with
    | none => rfl
    | some q =>
      obtain ⟨cs, ks⟩ := q
      cases hm : bs.headD false with
      | true => rw [hm] at h; simp only [extu_eq H 9 x h.1]
      | false => rfl
def retU (P : Program) (res : List ResultVar) (rm : List Mode) (am : List Bool) (args : List CV) (S : St) (R : List CV → List CV → Prop) : Prop :=
  retAVs P S res fun rvs => argsokK S.H rm rvs (backsokK S.H am (interns [] 0 0 args).1 (match argsU P S.H rm rvs, backsU S.H am (interns [] 0 0 args).1 with
    | some (rs, kf, [], ko), some (az, ka) => bif okK (ko ++ ka) kf [] then R rs az else False
    | _, _ => False))
theorem loadV_mono {P : Program} {t : TypeId} {S : St} {x : AV} {K K' : AV → Prop} (hk : ∀ a, K a → K' a) (h : loadV P t S x K) : loadV P t S x K' := by
  unfold loadV at h ⊢
  split at h
  · split at h
    · exact ⟨h.1, h.2.1, hk _ h.2.2⟩
    · split at h
      · exact ⟨h.1, h.2.1, hk _ h.2.2⟩
      · exact h.elim
    · split at h
      · refine ⟨h.1, h.2.1, h.2.2.1, fun y hy => ?_⟩
        rcases h.2.2.2 y hy with h4 | h4
        · exact .inl ⟨h4.1, h4.2.1, h4.2.2.1, h4.2.2.2.1, hk _ h4.2.2.2.2⟩
        · right
          split at h4
          · exact ⟨h4.1, hk _ h4.2⟩
          · exact h4.elim
      · exact h.elim
    · exact h.elim
  · exact h.elim
theorem retAVs_mono {P : Program} {S : St} : ∀ (res : List ResultVar) {K K' : List AV → Prop}, (∀ l, K l → K' l) → retAVs P S res K → retAVs P S res K'
  | [], K, K', hk, h => hk _ h
  | .tmp t :: r, K, K', hk, h => retAVs_mono r (fun l => hk _) h
  | .cell a t :: r, K, K', hk, h => loadV_mono (fun av => retAVs_mono r fun l => hk _) h
theorem retU_imp {P : Program} {res : List ResultVar} {rm : List Mode} {am : List Bool} {args : List CV} {S : St} {R : List CV → List CV → Prop} (h : retU P res rm am args S R) : retV P res rm am args S R := by
  refine retAVs_mono res (fun rvs hr => ?_) h
  obtain ⟨h1, hr⟩ := argsokK_imp _ _ _ _ hr
  obtain ⟨h2, h3⟩ := backsokK_imp _ _ _ _ hr
  rw [argsU_eq P S.H _ _ h1, backsU_eq S.H _ _ h2] at h3
  exact h3
section
variable {P : Program} {F : Nat → Prop} {B : Blk} {w w' : World} {S : St} {a : Act} {N nv : Nat}
theorem getIn_slotsFrom : ∀ (l : List AV) (i t : Nat), getIn (slotsFrom i l) t = if i ≤ t then l.getD (t - i) .dead else .dead
  | [], i, t => by simp [slotsFrom, getIn]
  | x :: r, i, t => by
    simp only [slotsFrom, getIn]
    by_cases h : i = t
    · subst h; simp
    · rw [if_neg h, getIn_slotsFrom r (i + 1) t]
      by_cases h2 : i ≤ t
      · rw [if_pos h2, if_pos (by omega)]
        have : t - i = (t - (i + 1)) + 1 := by omega
        rw [this]
        simp
      · rw [if_neg h2, if_neg (by omega)]
theorem entry_FR {args : List CV} {vs : List Value} {fp : List Nat} (h : CRl w F args vs fp) (hn : fp.Nodup) (hs : ∀ b ∈ fp, ¬ F b ∧ b < w.heap.size) (hF : ∀ b, F b → b < w.heap.size) (m : Nat) (h16 : (interns [] 0 0 args).2.2 ≤ 16) :
    ∃ B, FR F B w (entry args) { tmps := vs.toArray ++ Array.replicate m undef, defers := [] } ∧ (∀ b, Own (entry args).H B b → b ∈ fp) ∧ VRl w F B (entry args).c (interns [] 0 0 args).1 vs := by
  obtain ⟨B, hL, hv, _⟩ := interns_spec args [] 0 0 vs fp (fun _ => none) h hn
  have hv' : VRl w F B 16 (interns [] 0 0 args).1 vs := VRl.mono (fun _ _ => rfl) (fun _ h => h) (fun _ _ => rfl) h16 _ _ hv
  refine ⟨B, ⟨fun t => ?_, fun k g o hm => ⟨Nat.lt_of_lt_of_le (hL.objs _ hm).2.1 h16, (hL.objs _ hm).2.2.lift (fun _ _ => rfl) h16 (hL.objs _ hm).2.1⟩, fun b hb => ?_, hL.inj, hF, rfl, Nat.le_refl _⟩, fun b hb => ?_, hv'⟩
  · show VR w F B _ (getIn (slotsFrom 0 _) t) _
    rw [getIn_slotsFrom, if_pos (Nat.zero_le _), Nat.sub_zero]
    by_cases ht : t < (interns [] 0 0 args).1.length
    · obtain ⟨v, h1, h2⟩ := hv'.get t ht
      have hlt : t < vs.length := by rw [hv.length]; exact ht
      have e : ({ tmps := vs.toArray ++ Array.replicate m undef, defers := [] } : Act).tmps.getD t undef = v := by
        show (vs.toArray ++ Array.replicate m undef).getD t undef = v
        rw [Array.getD_eq_getD_getElem?, Array.getElem?_append_left (by simpa using hlt)]
        simp [h1]
      rw [e]
      exact h2
    · have : (interns [] 0 0 args).1.getD t .dead = .dead := by
        simp [List.getD_eq_getElem?_getD, List.getElem?_eq_none (Nat.not_lt.1 ht)]
      rw [this]
      simp [VR]
  · obtain ⟨k, g, o, n, hm, hB⟩ := hb
    exact hs b (hL.blk _ hm b n hB)
  · obtain ⟨k, g, o, n, hm, hB⟩ := hb
    exact hL.blk _ hm b n hB
theorem asAddr_load {t : TypeId} {u v : Value} (h : (Instr.loadAt t u).run P w = .ok v w) : (do loadVar t (← asAddr u) : Sem Value).run P w = .ok v w := by
  unfold Instr.loadAt at h
  cases u <;> simp [Instr.sureAddr, asAddr] at h ⊢
  rename_i o
  cases o <;> simp at h ⊢
  exact h
theorem retAVs_run (hf : FR F B w S a) : ∀ (res : List ResultVar) (K : List AV → Prop), retAVs P S res K →
    ∃ vr rvs, (res.mapM (m := Sem) (fun
      | .tmp t => pure (a.tmps.getD t undef)
      | .cell ad t => do loadVar t (← asAddr (a.tmps.getD ad undef)) : ResultVar → Sem Value)).run P w = .ok vr w ∧ VRl w F B S.c rvs vr ∧ K rvs
  | [], K, h => ⟨[], [], by simp, by simp [VRl], h⟩
  | .tmp t :: r, K, h => by
    obtain ⟨vr, rvs, h1, h2, h3⟩ := retAVs_run hf r _ h
    refine ⟨a.tmps.getD t undef :: vr, getIn S.E t :: rvs, ?_, ?_, h3⟩
    · simp only [List.mapM_cons, Sem.run_bind, Sem.run_pure, Result.andThen_ok, h1]
    · simp only [VRl]
      exact ⟨_, _, rfl, hf.slots t, h2⟩
  | .cell ad t :: r, K, h => by
    obtain ⟨v, av, h1, h2, h3⟩ := loadV_run hf (hf.slots ad) h
    obtain ⟨vr, rvs, k1, k2, k3⟩ := retAVs_run hf r _ h3
    refine ⟨v :: vr, av :: rvs, ?_, ?_, k3⟩
    · have := asAddr_load (h1 w (Ext.refl w))
      simp only [Sem.run_bind] at this
      simp only [List.mapM_cons, Sem.run_bind, this, Sem.run_pure, Result.andThen_ok, k1]
    · simp only [VRl]
      exact ⟨_, _, rfl, h2, k2⟩
theorem backs_spec (hf : FR F B w S a) : ∀ (bs : List Bool) (xs : List AV) (cs : List CV) (ks : List Key) (vs : List Value), backs S.H bs xs = some (cs, ks) → VRl w F B S.c xs vs → CRl w F cs vs (fpOf S.H B ks)
  | bs, [], cs, ks, vs, h, hv => by
    simp only [backs, Option.some.injEq, Prod.mk.injEq] at h
    obtain ⟨rfl, rfl⟩ := h
    simp only [VRl] at hv
    simp only [CRl]
    exact ⟨hv, rfl⟩
  | bs, x :: r, cs, ks, vs, h, hv => by
    simp only [backs] at h
    simp only [VRl] at hv
    obtain ⟨v, vs', rfl, hv1, hv2⟩ := hv
    split at h
    · rename_i cs0 ks0 h0
      have ih := backs_spec hf bs.tail r cs0 ks0 vs' h0 hv2
      cases hb : bs.headD false with
      | true =>
        simp only [hb, cond_true] at h
        split at h
        · rename_i c k1 hx
          simp only [Option.some.injEq, Prod.mk.injEq] at h
          obtain ⟨rfl, rfl⟩ := h
          simp only [CRl]
          exact ⟨v, vs', _, _, rfl, (ext_spec hf 9 x c k1 v hx hv1).1, ih, fpOf_append _ _⟩
        · cases h
      | false =>
        simp only [hb, cond_false, Option.some.injEq, Prod.mk.injEq] at h
        obtain ⟨rfl, rfl⟩ := h
        simp only [CRl]
        exact ⟨v, vs', [], _, rfl, by simp [CR], ih, rfl⟩
    · cases h
theorem results_run {fn : Func} {tmps : Array Value} {vr : List Value} (h : (fn.results.toList.mapM (m := Sem) (fun
      | .tmp t => pure (tmps.getD t undef)
      | .cell ad t => do loadVar t (← asAddr (tmps.getD ad undef)) : ResultVar → Sem Value)).run P w = .ok vr w) : ∃ v, (results fn tmps).run P w = .ok v w ∧ Rv v vr := by
  have h' : (fn.results.mapM (m := Sem) (fun
      | .tmp t => pure (tmps.getD t undef)
      | .cell ad t => do loadVar t (← asAddr (tmps.getD ad undef)) : ResultVar → Sem Value)).run P w = .ok vr.toArray w := by
    rw [Array.mapM_eq_mapM_toList, map_eq_pure_bind]
    simp only [Sem.run_bind, h, Result.andThen_ok, Sem.run_pure]
  refine ⟨if h : vr.toArray.size = 1 then vr.toArray[0] else .tuple vr.toArray, ?_, ?_⟩
  · unfold results
    simp only [Sem.run_bind, Sem.run_pure]
    exact congrArg (fun r => Result.andThen r fun (a : Array Value) w' => Result.ok (if h : a.size = 1 then a[0] else Value.tuple a) w') h'
  · match vr with
    | [] => simp [Rv]
    | [x] => simp [Rv]
    | x :: y :: r => simp [Rv]
 
theorem Con_of_code {g : FuncId} {fn : Func} {c : Code} {args : List CV} {R : List CV → List CV → Prop} (hfn : P.funcs[g]? = some fn) (hname : (fn.name == "runtime.NumGoroutine") = false) (hb : fn.body = some c)
    (hlen : args.length ≤ fn.ntmps) (h16 : (interns [] 0 0 args).2.2 ≤ 16) (rm : List Mode) (am : List Bool) (h : Awp P fn.ntmps c (fun e S => (e = .normal ∨ e = .ret) ∧ retV P fn.results.toList rm am args S R) (entry args)) : Con P g args R := by
  intro F w vs fp hcr hn hs hF
  have hvl : vs.length = args.length := by
    have : ∀ {l : List CV} {vs : List Value} {fp : List Nat}, CRl w F l vs fp → vs.length = l.length := by
      intro l
      induction l with
      | nil => intro vs fp h; simp only [CRl] at h; simp [h.1]
      | cons x r ih => intro vs fp h; simp only [CRl] at h; obtain ⟨v, vs', f1, f2, rfl, _, h2, _⟩ := h; simp [ih h2]
    exact this hcr
  have hrun : (callFunc g vs.toArray).run P w = .ok (.enter g vs.toArray) w := by
    unfold callFunc
    have hprog : (program : Sem Program).run P w = .ok P w := rfl
    simp only [Sem.run_bind, hprog, Result.andThen_ok, hfn, hname, Bool.false_eq_true, if_false, hb, Option.isNone_some, Sem.run_pure]
  unfold Enters
  rw [hrun]
  obtain ⟨B, hfr, hown, hvr⟩ := entry_FR hcr hn hs hF (fn.ntmps - args.length) h16
  have hsz : (vs.toArray ++ Array.replicate (fn.ntmps - args.length) undef).size = fn.ntmps := by simp; omega
  refine calls_of_wp hfn hb ?_
  have e0 : fn.ntmps - vs.toArray.size = fn.ntmps - args.length := by simp [hvl]
  rw [e0]
  refine wp_mono (h F B w _ hfr hsz) fun e a' w' ⟨S', F', B', ⟨he, q⟩, t⟩ => ?_
  have key : a'.defers = [] ∧ ∃ v, (results fn a'.tmps).run P w' = .ok v w' ∧ ∃ rs az F' vr f1 f2, R rs az ∧ Left F w vs fp rs az v w' F' vr f1 f2 := by
    refine ⟨t.fr.defers, ?_⟩
    obtain ⟨vr, rvs, h1, h2, h3⟩ := retAVs_run t.fr fn.results.toList _ q
    obtain ⟨v, hv1, hv2⟩ := results_run h1
    refine ⟨v, hv1, ?_⟩
    split at h3
    · rename_i rs kf ko az ka hrs has
      cases hok : okK (ko ++ ka) kf [] with
      | false => rw [hok] at h3; exact h3.elim
      | true =>
      rw [hok] at h3
      have hR : R rs az := h3
      obtain ⟨hnd, hdj'⟩ := okK_spec hok
      have hdj : ∀ k ∈ ko ++ ka, k ∉ kf := fun k hk => (hdj' k hk).1
      have hcr1 := argsC_spec t.fr _ _ _ _ _ _ _ hrs h2
      have hvr' : VRl w' F' B' S'.c (interns [] 0 0 args).1 vs := VRl.mono (fun b hb => t.keep b (hF b hb) fun ho => (hs b (hown b ho)).1 hb) t.sub t.old t.fr.pin _ _ hvr
      have hcr2 := backs_spec t.fr _ _ _ _ _ has hvr'
      have hfz := t.fr.freeze kf
      have hnew : ∀ b, F' b ∨ Own S'.H B' b → F b ∨ b ∈ fp ∨ w.heap.size ≤ b := fun b hb => by
        rcases t.new b hb with h | h | h
        · exact .inl h
        · exact .inr (.inl (hown b h))
        · exact .inr (.inr h)
      have hfo : ∀ ks b, FK S'.H B' ks b → Own S'.H B' b := fun ks b hb => by
        obtain ⟨k, g, o, n, _, hm, hB⟩ := hb
        exact ⟨k, g, o, n, hm, hB⟩
      have hfpo : ∀ b ∈ fpOf S'.H B' ko ++ fpOf S'.H B' ka, FK S'.H B' (ko ++ ka) b := fun b hb => by
        rw [← fpOf_append] at hb
        exact fpOf_mem hb
      refine ⟨rs, az, fun b => F' b ∨ FK S'.H B' kf b, vr, fpOf S'.H B' ko, fpOf S'.H B' ka, hR, hv2, ?_, ?_, ?_, fun b hb => ⟨fun hF' => ?_, (t.fr.sep b (hfo _ b (hfpo b hb))).2⟩, fun b hb => ?_, fun b hb => .inl (t.sub b hb), fun b hb hnb => t.keep b hb fun ho => hnb (hown b ho), fun b hb => ?_, t.os, t.tape, t.output, t.size⟩
      · refine CRl.mono (fun b hb => ?_) _ _ _ hcr1
        rcases hb with h | h | ⟨_, _, _, _, h, _⟩
        · exact .inl h
        · exact .inr h
        · cases h
      · exact CRl.mono (fun b hb => .inl hb) _ _ _ hcr2
      · rw [← fpOf_append]
        exact fpOf_nodup t.fr hnd
      · have hfk := hfpo b hb
        rcases hF' with h | ⟨k1, g1, o1, n1, hk1, hm1, hB1⟩
        · exact (t.fr.sep b (hfo _ b hfk)).1 h
        · obtain ⟨k, g, o, n, hk, hm, hB⟩ := hfk
          by_cases hg : g = g1
          · have := same_entry t.fr.gensNodup hm hm1 hg
            simp only [Prod.mk.injEq] at this
            exact hdj k hk (this.1 ▸ hk1)
          · exact t.fr.apart hm hm1 hg hB hB1
      · rcases hb with h | h
        · exact t.fr.Flt b h
        · exact (t.fr.sep b (hfo _ b h)).2
      · rcases hb with (h | h) | h
        · exact hnew b (.inl h)
        · exact hnew b (.inr (hfo _ b h))
        · exact hnew b (.inr (hfo _ b (hfpo b h)))
    · exact h3.elim
  rcases he with rfl | rfl
  · exact key
  · exact key
end
end Go.Fw
namespace Go.Fw
open Go
set_option linter.unusedVariables false
set_option linter.unusedSimpArgs false
 
structure Has (P : Program) (g : FuncId) (args : List CV) (R : List CV → List CV → Prop) : Prop where
  con : Con P g args R
structure Loops (P : Program) (N : Nat) (c : Code) (Q : Exit → St → Prop) (S : St) : Prop where
  awp : Awp P N c Q S
theorem Has.mono {P : Program} {g : FuncId} {args : List CV} {R R' : List CV → List CV → Prop} (h : Has P g args R) (hr : ∀ rs bs, R rs bs → R' rs bs) : Has P g args R' := ⟨h.con.mono hr⟩
theorem wrap_u8_nat (n : Nat) : IntKind.u8.wrap (n : Int) = ((UInt8.ofNat n).toNat : Int) := by
  simp [IntKind.wrap, IntKind.bits, IntKind.signed]
theorem wrap_i64_u8 (b : UInt8) : IntKind.i64.wrap (b.toNat : Int) = (b.toNat : Int) := wrap_id (by omega) (by have := b.toNat_lt; omega)
theorem byteD_mk (b : UInt8) : D.int .u8 (b.toNat : Int) = byteD b := rfl
theorem take_bytes (s : ByteArray) : List.take s.size (List.map byteD s.data.toList) = List.map byteD s.data.toList := List.take_of_length_le (by simp)
theorem min_nn (a b : Nat) : min (a : Int) (b : Int) = ((min a b : Nat) : Int) := by omega
theorem max_nn (a b : Nat) : max (a : Int) (b : Int) = ((max a b : Nat) : Int) := by omega
theorem min_ln (a b : Nat) : min (no_index (OfNat.ofNat a) : Int) (b : Int) = ((min a b : Nat) : Int) := min_nn a b
theorem min_nl (a b : Nat) : min (a : Int) (no_index (OfNat.ofNat b) : Int) = ((min a b : Nat) : Int) := min_nn a b
theorem max_ln (a b : Nat) : max (no_index (OfNat.ofNat a) : Int) (b : Int) = ((max a b : Nat) : Int) := max_nn a b
theorem max_nl (a b : Nat) : max (a : Int) (no_index (OfNat.ofNat b) : Int) = ((max a b : Nat) : Int) := max_nn a b
theorem map_snoc {α : Type} (f : α → D) (l : List α) (x : α) : List.map f l ++ [f x] = List.map f (l ++ [x]) := by simp
theorem set_map {α : Type} (f : α → D) (l : List α) (i : Nat) (x : α) : (List.map f l).set i (f x) = List.map f (l.set i x) := by rw [List.map_set]
theorem map_app {α : Type} (f : α → D) (l m : List α) : List.map f l ++ List.map f m = List.map f (l ++ m) := by simp
theorem toNat_pred (i : Nat) : ((i : Int) - 1).toNat = i - 1 := by omega
theorem toNat_succ (i : Nat) : ((i : Int) + 1).toNat = i + 1 := by omega
theorem toNat_addn (i j : Nat) : ((i : Int) + (j : Int)).toNat = i + j := by omega
theorem toNat_subn (i j : Nat) : ((i : Int) - (j : Int)).toNat = i - j := by omega
theorem rb {a b : Bool} (h : a = b) : [CV.d (D.bool a)] = [CV.d (D.bool b)] := by rw [h]
theorem ri {k : IntKind} {a b : Int} (h : a = b) : [CV.d (D.int k a)] = [CV.d (D.int k b)] := by rw [h]
 
def tab (P : Program) (M : FuncId → List Mode) : Tab := ⟨M, Has P⟩
theorem tab_sound (P : Program) (M : FuncId → List Mode) : (tab P M).Sound P := fun _ _ _ h => h.con
 
def FitE (S S' : St) : List (Nat × AV) → Prop
  | [] => True
  | p :: r => (getIn S.E p.1 = rnAV (rho S S') p.2 ∧ okG S'.c p.2 = true) ∧ FitE S S' r
def FitH (S S' : St) : List (Key × Nat × AO) → Prop
  | [] => True
  | x :: r => (objIn S.H x.1 = some (rho S S' x.2.1, rnAO (rho S S') x.2.2) ∧ Nat.blt x.2.1 S'.c = true ∧ okAO S'.c x.2.2 = true) ∧ FitH S S' r
theorem FitE.all {S S' : St} : ∀ {l : List (Nat × AV)}, FitE S S' l → ∀ p ∈ l, getIn S.E p.1 = rnAV (rho S S') p.2 ∧ okG S'.c p.2 = true
  | [], _, p, hp => by simp at hp
  | q :: r, h, p, hp => by
    rcases List.mem_cons.1 hp with rfl | hp
    · exact h.1
    · exact h.2.all p hp
theorem FitH.all {S S' : St} : ∀ {l : List (Key × Nat × AO)}, FitH S S' l → ∀ x ∈ l, (x.1, rho S S' x.2.1, rnAO (rho S S') x.2.2) ∈ S.H ∧ x.2.1 < S'.c ∧ okAO S'.c x.2.2 = true
  | [], _, p, hp => by simp at hp
  | q :: r, h, p, hp => by
    rcases List.mem_cons.1 hp with rfl | hp
    · exact ⟨mem_of_objIn h.1.1, Nat.le_of_ble_eq_true h.1.2.1, h.1.2.2⟩
    · exact h.2.all p hp
 
def nodupB : List Nat → Bool
  | [] => true
  | n :: r => r.all (fun m => !(Nat.beq n m)) && nodupB r
theorem nodupB_spec : ∀ {l : List Nat}, nodupB l = true → l.Nodup
  | [], _ => List.nodup_nil
  | n :: r, h => by
    simp only [nodupB, Bool.and_eq_true, List.all_eq_true, Bool.not_eq_true'] at h
    refine List.nodup_cons.2 ⟨fun hm => ?_, nodupB_spec h.2⟩
    have := h.1 n hm
    simp [Nat.beq_refl] at this
theorem Forget.mk' {S S' : St} (hE : FitE S S' S'.E) (hH : FitH S S' S'.H) (hn : nodupB (S'.H.map fun x => rho S S' x.2.1) = true) (hc : Nat.ble 16 S'.c = true) : Forget S S' := ⟨hE.all, hH.all, nodupB_spec hn, Nat.le_of_ble_eq_true hc⟩
section
variable {P : Program} {N : Nat} {Q : Exit → St → Prop} {S : St} {c : Code}
theorem Awp.len {t sz : Nat} {l : List D} (ht : getIn S.E t = .d (.sl sz l)) (h : l.length ≤ maxLen → Awp P N c Q S) : Awp P N c Q S := by
  intro F B w a hf hn
  have hs := hf.slots t
  rw [ht] at hs
  simp only [VR, DRv, DRc] at hs
  obtain ⟨A, cc, _, h1, h2, _⟩ := hs
  exact h (by omega) F B w a hf hn
theorem getD_map {α : Type} [Inhabited α] (f : α → D) : ∀ {l : List α} {i : Nat}, i < l.length → (l.map f).getD i default = f (l.getD i default)
  | [], _, h => absurd h (Nat.not_lt_zero _)
  | x :: r, 0, _ => rfl
  | x :: r, i + 1, h => by simpa using getD_map f (l := r) (i := i) (by simpa using h)
theorem Awp.lenRow {k : Key} {g e sz : Nat} {l : List D} (ht : objIn S.H k = some (g, .row e sz l)) (h : l.length ≤ maxLen → Awp P N c Q S) : Awp P N c Q S := by
  intro F B w a hf hn
  have hs := hf.objsIn ht
  refine h ?_ F B w a hf hn
  simp only [OR] at hs
  split at hs
  · subst hs; simp
  · obtain ⟨cs, fr, _, _, _, _, h1, h2, _⟩ := hs
    omega
theorem Has.len {g : FuncId} {args : List CV} {R : List CV → List CV → Prop} {i sz : Nat} {l : List D} (hi : args[i]? = some (.d (.sl sz l))) (h : l.length ≤ maxLen → Has P g args R) : Has P g args R := by
  constructor
  intro F w vs fp hc hn hs hF
  have key : ∀ {az : List CV} {i : Nat} {vs : List Value} {fp : List Nat}, az[i]? = some (.d (.sl sz l)) → CRl w F az vs fp → l.length ≤ maxLen := by
    intro az
    induction az with
    | nil => intro i vs fp h; simp at h
    | cons x r ih =>
      intro i vs fp h hc
      simp only [CRl] at hc
      obtain ⟨v, vs', f1, f2, rfl, h1, h2, rfl⟩ := hc
      cases i with
      | zero =>
        simp at h
        subst h
        simp only [CR, DRv, DRc] at h1
        obtain ⟨⟨A, cc, _, h3, h4, _⟩, _⟩ := h1
        omega
      | succ i => exact ih (by simpa using h) h2
  exact (h (key hi hc)).con F w vs fp hc hn hs hF
end
end Go.Fw
namespace Go.Fw
open Go
set_option linter.unusedVariables false
set_option linter.unusedSimpArgs false
def forceN (n : Nat) (K : Nat → Prop) : Prop := match n with
  | 0 => K 0
  | 1 => K 1
  | 2 => K 2
  | 3 => K 3
  | 4 => K 4
  | 5 => K 5
  | 6 => K 6
  | 7 => K 7
  | 8 => K 8
  | 9 => K 9
  | 10 => K 10
  | 11 => K 11
  | 12 => K 12
  | 13 => K 13
  | 14 => K 14
  | 15 => K 15
  | 16 => K 16
  | 17 => K 17
  | 18 => K 18
  | 19 => K 19
  | 20 => K 20
  | 21 => K 21
  | 22 => K 22
  | 23 => K 23
  | 24 => K 24
  | 25 => K 25
  | 26 => K 26
  | 27 => K 27
  | 28 => K 28
  | 29 => K 29
  | 30 => K 30
  | 31 => K 31
  | 32 => K 32
  | 33 => K 33
  | 34 => K 34
  | 35 => K 35
  | 36 => K 36
  | 37 => K 37
  | 38 => K 38
  | 39 => K 39
  | 40 => K 40
  | 41 => K 41
  | 42 => K 42
  | 43 => K 43
  | 44 => K 44
  | 45 => K 45
  | 46 => K 46
  | 47 => K 47
  | 48 => K 48
  | 49 => K 49
  | 50 => K 50
  | 51 => K 51
  | 52 => K 52
  | 53 => K 53
  | 54 => K 54
  | 55 => K 55
  | 56 => K 56
  | 57 => K 57
  | 58 => K 58
  | 59 => K 59
  | 60 => K 60
  | 61 => K 61
  | 62 => K 62
  | 63 => K 63
  | n => K n
theorem forceN_eq (n : Nat) (K : Nat → Prop) : forceN n K = K n := by unfold forceN; split <;> rfl
def forceK : List Nat → (List Nat → Prop) → Prop
  | [], K => K []
  | n :: r, K => forceK r fun r' => K (n :: r')
theorem forceK_eq : ∀ (l : List Nat) (K : List Nat → Prop), forceK l K = K l
  | [], _ => rfl
  | n :: r, K => by rw [forceK, forceK_eq r]
mutual
def AV.force : AV → (AV → Prop) → Prop
  | .d x, K => K (.d x)
  | .nils, K => K .nils
  | .ref k g sz off len, K => forceK k fun k => forceN g fun g => forceN sz fun sz => K (.ref k g sz off len)
  | .elt k g sz j o, K => forceK k fun k => forceN g fun g => forceN sz fun sz => forceN o fun o => K (.elt k g sz j o)
  | .addr k g c, K => forceK k fun k => forceN g fun g => forceN c fun c => K (.addr k g c)
  | .agg l, K => forces l fun l => K (.agg l)
  | .tup l, K => forces l fun l => K (.tup l)
  | .clo fn f c, K => forces f fun f => forces c fun c => K (.clo fn f c)
  | .dead, K => K .dead
def forces : List AV → (List AV → Prop) → Prop
  | [], K => K []
  | x :: r, K => x.force fun x => forces r fun r => K (x :: r)
end
mutual
theorem AV.force_eq : ∀ (x : AV) (K : AV → Prop), x.force K = K x
  | .d x, K => rfl
  | .nils, K => rfl
  | .ref k g sz off len, K => by simp only [AV.force, forceK_eq, forceN_eq]
  | .elt k g sz j o, K => by simp only [AV.force, forceK_eq, forceN_eq]
  | .addr k g c, K => by simp only [AV.force, forceK_eq, forceN_eq]
  | .agg l, K => by simp only [AV.force, forces_eq l]
  | .tup l, K => by simp only [AV.force, forces_eq l]
  | .clo fn f c, K => by simp only [AV.force, forces_eq f, forces_eq c]
  | .dead, K => rfl
theorem forces_eq : ∀ (l : List AV) (K : List AV → Prop), forces l K = K l
  | [], _ => rfl
  | x :: r, K => by simp only [forces, AV.force_eq x, forces_eq r]
end
def AO.force : AO → (AO → Prop) → Prop
  | .row e sz l, K => forceN sz fun sz => K (.row e sz l)
  | .box e l, K => forces l fun l => K (.box e l)
  | .iter s p, K => K (.iter s p)
theorem AO.force_eq (o : AO) (K : AO → Prop) : o.force K = K o := by cases o <;> simp only [AO.force, forceN_eq, forces_eq]
def forceE : List (Nat × AV) → (List (Nat × AV) → Prop) → Prop
  | [], K => K []
  | (k, v) :: r, K => v.force fun v => forceN k fun k => forceE r fun r => K ((k, v) :: r)
theorem forceE_eq : ∀ (l : List (Nat × AV)) (K : List (Nat × AV) → Prop), forceE l K = K l
  | [], _ => rfl
  | (k, v) :: r, K => by simp only [forceE, AV.force_eq, forceN_eq, forceE_eq r]
def forceH : List (Key × Nat × AO) → (List (Key × Nat × AO) → Prop) → Prop
  | [], K => K []
  | (k, g, o) :: r, K => forceK k fun k => forceN g fun g => o.force fun o => forceH r fun r => K ((k, g, o) :: r)
theorem forceH_eq : ∀ (l : List (Key × Nat × AO)) (K : List (Key × Nat × AO) → Prop), forceH l K = K l
  | [], _ => rfl
  | (k, g, o) :: r, K => by simp only [forceH, AO.force_eq, forceK_eq, forceN_eq, forceH_eq r]
def forceS : St → (St → Prop) → Prop
  | ⟨E, H, c⟩, K => forceE E fun E => forceH H fun H => forceN c fun c => K ⟨E, H, c⟩
theorem forceS_eq (S : St) (K : St → Prop) : forceS S K = K S := by cases S; simp only [forceS, forceE_eq, forceH_eq, forceN_eq]
def runT (P : Program) (T : Tab) (nv : Nat) (all : List Oper) : List Oper → St → (St → Prop) → Prop
  | [], S, K => K S
  | o :: r, S, K => stepV P T nv all (kdT P o) o S fun S' => forceS S' fun S' => runT P T nv all r S' K
theorem runT_eq (P : Program) (T : Tab) (nv : Nat) (all : List Oper) : ∀ (r : List Oper) (S : St) (K : St → Prop), runT P T nv all r S K = regT P T nv all r S K
  | [], _, _ => rfl
  | o :: r, S, K => by
    simp only [runT, regT]
    congr 1
    funext S'
    rw [forceS_eq, runT_eq P T nv all r]
def runD (P : Program) (T : Tab) (nv : Nat) (all : List Oper) : Plan → St → (St → Prop) → Prop
  | .done, S, K => K S
  | .take i k p, S, K => match all[i]? with
    | some o => stepV P T nv all k o S fun S' => forceS S' fun S' => runD P T nv all p S' K
    | none => False
  | .one i p, S, K => match all[i]? with
    | some o => stepV P T nv all (kdT P o) o S fun S' => forceS S' fun S' => runD P T nv all p S' K
    | none => False
  | .two i p j q, S, K => (match all[i]? with
    | some o => stepV P T nv all (kdT P o) o S fun S' => forceS S' fun S' => runD P T nv all p S' K
    | none => False) ∧ match all[j]? with
    | some o => stepV P T nv all (kdT P o) o S fun S' => forceS S' fun S' => runD P T nv all q S' K
    | none => False
theorem runD_eq (P : Program) (T : Tab) (nv : Nat) (all : List Oper) : ∀ (p : Plan) (S : St) (K : St → Prop), runD P T nv all p S K = regD P T nv all p S K
  | .done, _, _ => rfl
  | .take i k p, S, K => by simp only [runD, regD, forceS_eq, runD_eq P T nv all p]; rfl
  | .one i p, S, K => by simp only [runD, regD, forceS_eq, runD_eq P T nv all p]; rfl
  | .two i p j q, S, K => by simp only [runD, regD, forceS_eq, runD_eq P T nv all p, runD_eq P T nv all q]; rfl
 
def mark (pl : Nat → Plan) (n : Nat) : Bool := match pl n with
  | .done => false
  | _ => true
def firstReg : Code → Nat
  | .region id _ _ => id
  | .seq x _ => firstReg x
  | .block _ c => firstReg c
  | _ => 999999
structure Cuts (P : Program) (N : Nat) (c : Code) (Q : Exit → St → Prop) (S : St) : Prop where
  awp : Awp P N c Q S
structure Joins (P : Program) (N : Nat) (c : Code) (Q : Exit → St → Prop) (S : St) : Prop where
  awp : Awp P N c Q S
def run (P : Program) (T : Tab) (N nv : Nat) (pl : Nat → Plan) : Code → (Exit → St → Prop) → St → Prop
  | .skip, Q, S => Q .normal S
  | .label _, Q, S => Q .normal S
  | .seq x y, Q, S => bif mark pl (firstReg y + 2000000) then Joins P N (.seq x y) Q S else run P T N nv pl x (seqQ (run P T N nv pl y Q) Q) S
  | .cond c x y, Q, S => match S.ev c with
    | .d (.bool b) => (b = true → run P T N nv pl x Q S) ∧ (b = false → run P T N nv pl y Q S)
    | _ => False
  | .block id c, Q, S => run P T N nv pl c (blkQ id Q) S
  | .exit id, Q, S => Q (.exit id) S
  | .ret, Q, S => Q .ret S
  | .region id ops draw, Q, S => bif mark pl (id + 1000000) then Cuts P N (.region id ops draw) Q S else bif draw then runD P T nv ops.toList (pl id) S (Q .normal) else runT P T nv ops.toList ops.toList S (Q .normal)
  | c, Q, S => Loops P N c Q S
theorem run_sound {P : Program} {T : Tab} {N nv : Nat} {pl : Nat → Plan} (hm : P.follows .mixedOrders = true) (hT : T.Sound P) : ∀ (c : Code) (Q : Exit → St → Prop) (S : St), codeOK N pl c = true → run P T N nv pl c Q S → Awp P N c Q S
  | .skip, Q, S, hc, h => Awp.skip h
  | .label _, Q, S, hc, h => Awp.label h
  | .seq x y, Q, S, hc, h => by
    simp only [codeOK, Bool.and_eq_true] at hc
    simp only [run] at h
    cases hj : mark pl (firstReg y + 2000000) with
    | true => rw [hj] at h; exact h.awp
    | false =>
      rw [hj] at h
      refine Awp.seq ((run_sound hm hT x _ S hc.1 h).mono fun e S' q => ?_)
      cases e with
      | normal => exact run_sound hm hT y Q S' hc.2 q
      | _ => exact q
  | .cond c x y, Q, S, hc, h => by
    simp only [codeOK, Bool.and_eq_true] at hc
    simp only [run] at h
    split at h
    · rename_i b hb
      exact Awp.cond hb (fun e => run_sound hm hT x Q S hc.1 (h.1 e)) (fun e => run_sound hm hT y Q S hc.2 (h.2 e))
    · exact h.elim
  | .block id c, Q, S, hc, h => Awp.block (run_sound hm hT c _ S hc h)
  | .exit id, Q, S, hc, h => Awp.exit h
  | .ret, Q, S, hc, h => Awp.ret h
  | .region id ops draw, Q, S, hc, h => by
    simp only [run] at h
    cases hj : mark pl (id + 1000000) with
    | true => rw [hj] at h; exact h.awp
    | false =>
      rw [hj] at h
      refine vc_sound (nv := nv) hm hT _ Q S hc ?_
      simp only [vc]
      simp only [cond_false, runT_eq, runD_eq] at h
      exact h
  | .loop c, Q, S, hc, h => h.awp
  | .goto l, Q, S, hc, h => h.awp
  | .rangeFunc .., Q, S, hc, h => h.awp
  | .scope _, Q, S, hc, h => h.awp
  | .refuse _, Q, S, hc, h => h.awp
 
theorem Has_of_run {P : Program} {M : FuncId → List Mode} {g : FuncId} {fn : Func} {args : List CV} {R : List CV → List CV → Prop} (hm : P.follows .mixedOrders = true) (hfn : P.funcs[g]? = some fn) (nv : Nat) (pl : Nat → Plan) (rm : List Mode) (am : List Bool)
    (hok : ((!(fn.name == "runtime.NumGoroutine")) && fn.body.isSome && decide (args.length ≤ fn.ntmps) && codeOK fn.ntmps pl (fn.body.getD .skip)) = true) (h16 : (interns [] 0 0 args).2.2 ≤ 16)
    (h : run P (tab P M) fn.ntmps nv pl (fn.body.getD .skip) (fun e S => (e = .normal ∨ e = .ret) ∧ retU P fn.results.toList rm am args S R) (entry args)) : Has P g args R := by
  simp only [Bool.and_eq_true, Bool.not_eq_true', decide_eq_true_eq] at hok
  obtain ⟨⟨⟨h1, h2⟩, h3⟩, h4⟩ := hok
  obtain ⟨c, hc⟩ := Option.isSome_iff_exists.1 h2
  rw [hc] at h h4
  exact ⟨Con_of_code hfn h1 hc h3 h16 rm am (Awp.mono (Q := fun e S => (e = .normal ∨ e = .ret) ∧ retU P fn.results.toList rm am args S R) (fun e S q => ⟨q.1, retU_imp q.2⟩) (run_sound hm (tab_sound P M) c _ _ h4 h))⟩
 
theorem Loops.by {P : Program} {M : FuncId → List Mode} {N : Nat} (nv : Nat) (pl : Nat → Plan) (hm : P.follows .mixedOrders = true) {c : Code} {Q : Exit → St → Prop} {S : St} (hok : codeOK N pl c = true) {ι : Type} (I : ι → St) (Inv : ι → Prop) (μ : ι → Nat)
    (round : ∀ i, Inv i → run P (tab P M) N nv pl c (seqQ (fun S' => ∃ j, (Inv j ∧ μ j < μ i) ∧ Forget S' (I j)) Q) (I i)) (i : ι) (hi : Inv i) (h : Forget S (I i)) : Loops P N (.loop c) Q S :=
  ⟨Awp.loop (ι := Subtype Inv) (fun i => I i.1) (fun i => μ i.1) (fun i => (run_sound hm (tab_sound P M) c _ _ hok (round i.1 i.2)).mono fun e S' q => by
    cases e with
    | normal =>
      obtain ⟨j, ⟨h1, h2⟩, h3⟩ := q
      exact ⟨⟨j, h1⟩, h2, h3⟩
    | _ => exact q) (i := ⟨i, hi⟩) h⟩
theorem Awp.conseqN {P : Program} {N : Nat} {c : Code} {Q Q' : Exit → St → Prop} {S : St} (hq : ∀ S, Q .normal S → ∃ S', Forget S S' ∧ Q' .normal S') (ho : ∀ e S, e ≠ .normal → Q e S → Q' e S) (h : Awp P N c Q S) : Awp P N c Q' S := fun F B w a hf hn =>
  wp_mono (h F B w a hf hn) fun e a' w' ⟨S2, F2, B2, q, t⟩ => by
    by_cases he : e = .normal
    · subst he
      obtain ⟨S3, h3, q3⟩ := hq S2 q
      exact ⟨S3, F2, _, q3, t.trans (Tr.forget t.fr t.n h3)⟩
    · exact ⟨S2, F2, B2, ho e S2 he q, t⟩
 
theorem Cuts.by {P : Program} {M : FuncId → List Mode} {N : Nat} (nv : Nat) (pl : Nat → Plan) (hm : P.follows .mixedOrders = true) {id : Nat} {ops : Array Oper} {draw : Bool} {Q : Exit → St → Prop} {S : St} (hok : codeOK N pl (.region id ops draw) = true) {ι : Type} (I : ι → St) (Inv : ι → Prop)
    (h : bif draw then runD P (tab P M) nv ops.toList (pl id) S (fun S' => ∃ i, Inv i ∧ Forget S' (I i)) else runT P (tab P M) nv ops.toList ops.toList S (fun S' => ∃ i, Inv i ∧ Forget S' (I i))) (next : ∀ i, Inv i → Q .normal (I i)) : Cuts P N (.region id ops draw) Q S := by
  refine ⟨Awp.conseqN (Q := seqQ (fun S' => ∃ i, Inv i ∧ Forget S' (I i)) (fun _ _ => False)) (fun S' q => ?_) (fun e S' he q => ?_) (vc_sound (nv := nv) hm (tab_sound P M) _ _ S hok ?_)⟩
  · obtain ⟨i, hi, hf⟩ := q
    exact ⟨I i, hf, next i hi⟩
  · cases e <;> first | exact absurd rfl he | exact q.elim
  · simp only [vc]
    simp only [runT_eq, runD_eq] at h
    exact h
 
theorem Joins.by {P : Program} {M : FuncId → List Mode} {N : Nat} (nv : Nat) (pl : Nat → Plan) (hm : P.follows .mixedOrders = true) {x y : Code} {Q : Exit → St → Prop} {S : St} (hx : codeOK N pl x = true) (hy : codeOK N pl y = true) {ι : Type} (I : ι → St) (Inv : ι → Prop)
    (h : run P (tab P M) N nv pl x (seqQ (fun S' => ∃ i, Inv i ∧ Forget S' (I i)) Q) S) (next : ∀ i, Inv i → run P (tab P M) N nv pl y Q (I i)) : Joins P N (.seq x y) Q S := by
  refine ⟨Awp.seq ((Awp.conseqN (Q := seqQ (fun S' => ∃ i, Inv i ∧ Forget S' (I i)) Q) (Q' := seqQ (fun S' => ∃ i, Inv i ∧ S' = I i) Q) (fun S' q => ?_) (fun e S' he q => ?_) (run_sound hm (tab_sound P M) x _ S hx h)).mono fun e S' q => ?_)⟩
  · obtain ⟨i, hi, hf⟩ := q
    exact ⟨I i, hf, i, hi, rfl⟩
  · cases e <;> first | exact absurd rfl he | exact q
  · cases e with
    | normal =>
      obtain ⟨i, hi, rfl⟩ := q
      exact run_sound hm (tab_sound P M) y Q _ hy (next i hi)
    | _ => exact q
end Go.Fw
namespace Go.Fw
open Go
set_option linter.unusedVariables false
set_option linter.unusedSimpArgs false
 
inductive HasT (P : Program) : TypeId → D → Prop
  | bool {t : TypeId} (b : Bool) : P.underlying t = some .bool → HasT P t (.bool b)
  | int {t : TypeId} {k : IntKind} (n : Int) : P.underlying t = some (.int k) → (Lit.int k n).wf = true → HasT P t (.int k n)
  | str {t : TypeId} (s : ByteArray) : P.underlying t = some .string → s.size ≤ maxLen → HasT P t (.str s)
  | sl {t e : TypeId} (l : List D) : P.underlying t = some (.slice e) → l.length ≤ maxLen → (∀ x, x ∈ l → HasT P e x) → HasT P t (.sl (P.cellsOf e) l)
  | agg {t : TypeId} {fs : Array Field} (l : List D) : P.underlying t = some (.struct fs) → l.length = fs.size → (∀ (i : Nat) (f : Field) (x : D), fs[i]? = some f → l[i]? = some x → HasT P f.type x) → HasT P t (.agg l)
 
def locT (P : Program) (L : List TypeId) (t : TypeId) : Bool := match P.underlying t with
  | some .bool | some (.int _) | some .string => true
  | some (.slice e) => L.contains e && decide (0 < P.cellsOf e)
  | some (.struct fs) => ((List.range fs.size).all fun i => match fs[i]? with
      | some f => f.offset == i && P.cellsOf f.type == 1 && L.contains f.type && aggT P f.type == some false
      | none => false) && P.cellsOf t == fs.size
  | _ => false
section
variable {P : Program} {w : World} {H : Type} {enc : TypeId × Value → H}
theorem cells?_spec {a : Addr} {n : Nat} {cs : List Value} (h : w.cells? 0 a n = some cs) : cs.length = n ∧ Cells w a cs := by
  unfold World.cells? at h
  rw [if_pos (Nat.zero_le _)] at h
  have h1 : cs.length = n := by simpa using mapM_some_length h
  refine ⟨h1, fun i v hv => ?_⟩
  have hi : i < n := by
    have := (List.getElem?_eq_some_iff.1 hv).1
    omega
  have := mapM_some_get h i i (by simp [hi])
  rw [hv] at this
  exact this
theorem block_of_cell {a : Addr} {v : Value} (h : w.cell? a = some v) : a.block < w.heap.size := by
  unfold World.cell? at h
  split at h
  · rename_i hh
    exact (Array.getElem?_eq_some_iff.1 hh).1
  · cases h
theorem isAgg_of_hasT {t : TypeId} {x : D} (h : HasT P t x) (ha : aggT P t = some false) : x.isAgg = false := by
  cases h with
  | agg l hu => simp [aggT, hu] at ha
  | _ => rfl
 
theorem rows_of {sz : Nat} {a : Addr} (h0 : 0 < sz) {E : D → Prop} : ∀ (n i : Nat), (∀ j, i ≤ j → j < i + n → ∃ x cs, E x ∧ cs.length = sz ∧ Cells w (a.add (j * sz)) cs ∧ DRc w (fun b => b < w.heap.size) x cs) →
    ∃ l cs, l.length = n ∧ (∀ x ∈ l, E x) ∧ Cells w (a.add (i * sz)) cs ∧ DRr w (fun b => b < w.heap.size) sz l cs
  | 0, i, h => ⟨[], [], rfl, by simp, fun j v hv => by simp at hv, by simp [DRr]⟩
  | n + 1, i, h => by
    obtain ⟨x, c1, hE, hl, hc, hd⟩ := h i (Nat.le_refl _) (by omega)
    obtain ⟨l, c2, h1, h2, h3, h4⟩ := rows_of h0 n (i + 1) (fun j hj hj' => h j (by omega) (by omega))
    refine ⟨x :: l, c1 ++ c2, by simp [h1], fun y hy => ?_, fun j v hv => ?_, ?_⟩
    · rcases List.mem_cons.1 hy with rfl | hy
      · exact hE
      · exact h2 y hy
    · by_cases hj : j < c1.length
      · rw [List.getElem?_append_left hj] at hv
        exact hc j v hv
      · rw [List.getElem?_append_right (by omega)] at hv
        have := h3 (j - c1.length) v hv
        rw [add_add] at this ⊢
        have e : (i + 1) * sz + (j - c1.length) = i * sz + j := by rw [Nat.add_mul, Nat.one_mul]; omega
        rwa [e] at this
    · simp only [DRr]
      exact ⟨c1, c2, rfl, hl, hd, h4⟩
theorem fields_of : ∀ (cs : List Value) (k : Nat) (fs : List Field), (∀ (i : Nat) (v : Value), cs[i]? = some v → ∃ (f : Field) (x : D), fs[i]? = some f ∧ HasT P f.type x ∧ x.isAgg = false ∧ DRc w (fun b => b < w.heap.size) x [v]) →
    ∃ l, l.length = cs.length ∧ (∀ (i : Nat) (f : Field) (x : D), fs[i]? = some f → l[i]? = some x → HasT P f.type x) ∧ DRl w (fun b => b < w.heap.size) l cs
  | [], k, fs, h => ⟨[], rfl, by simp, by simp [DRl]⟩
  | v :: cs, k, [], h => by
    obtain ⟨f, x, h1, _⟩ := h 0 v rfl
    simp at h1
  | v :: cs, k, f :: fs, h => by
    obtain ⟨f', x, h1, h2, h3, h4⟩ := h 0 v rfl
    simp at h1
    subst h1
    obtain ⟨l, k1, k2, k3⟩ := fields_of cs k fs (fun i v hv => by simpa using h (i + 1) v (by simpa using hv))
    refine ⟨x :: l, by simp [k1], fun i g y hg hy => ?_, ?_⟩
    · cases i with
      | zero => simp at hg hy; subst hg; subst hy; exact h2
      | succ i => exact k2 i g y (by simpa using hg) (by simpa using hy)
    · simp only [DRl]
      exact ⟨v, cs, rfl, h3, h4, k3⟩
theorem trod_open {L : List TypeId} (hL : L.all (locT P L) = true) : ∀ (fuel : Nat) (t : TypeId) (cs : List Value) (d : DataW H) (ps : List MemPlace), t ∈ L → DataW.trod enc P w 0 (fun _ => true) true fuel t cs = some (d, ps) →
    ∃ x, HasT P t x ∧ DRc w (fun b => b < w.heap.size) x cs
  | 0, t, cs, d, ps, ht, h => by simp [DataW.trod] at h
  | fuel + 1, t, cs, d, ps, ht, h => by
    have hloc := List.all_eq_true.1 hL t ht
    unfold locT at hloc
    split at hloc
    · rename_i hu
      obtain ⟨b, rfl, _⟩ := DataW.trod_bool hu h
      exact ⟨.bool b, .bool b hu, by simp [DRc]⟩
    · rename_i k hu
      obtain ⟨n, rfl, _, hw⟩ := DataW.trod_int hu h
      exact ⟨.int k n, .int n hu hw, by simp [DRc]⟩
    · rename_i hu
      obtain ⟨s, rfl, _, hs⟩ := DataW.trod_string hu h
      exact ⟨.str s, .str s hu hs, by simp [DRc]⟩
    · rename_i e hu
      simp only [Bool.and_eq_true, List.contains_eq_mem, decide_eq_true_eq] at hloc
      obtain ⟨heL, h0⟩ := hloc
      rcases DataW.trod_slice hu h with ⟨rfl, _⟩ | ⟨a, len, cap, elems, rest, n, hfu, rfl, _, _, hlc, hcm, hel, helems, _⟩
      · refine ⟨.sl (P.cellsOf e) [], .sl [] hu (Nat.zero_le _) (by simp), ?_⟩
        simp only [DRc]
        exact ⟨none, 0, rfl, Nat.le_refl _, Nat.zero_le _, .inl trivial⟩
      · cases hfu
        obtain ⟨l, cs, h1, h2, h3, h4⟩ := rows_of (w := w) (a := a) (sz := P.cellsOf e) h0 (E := HasT P e) len 0 (fun j _ hj => by
          have hj' : j < len := by omega
          have he := helems j hj'
          cases hc : w.cells? 0 (a.add (j * P.cellsOf e)) (P.cellsOf e) with
          | none =>
            rw [hc] at he
            simp only [Option.bind_none] at he
            have := List.getElem?_eq_none_iff.1 he.symm
            omega
          | some c1 =>
            rw [hc] at he
            simp only [Option.bind_some] at he
            obtain ⟨g1, g2⟩ := cells?_spec hc
            have hlt : j < elems.length := by omega
            rw [List.getElem?_eq_getElem hlt] at he
            obtain ⟨x, k1, k2⟩ := trod_open hL fuel e c1 _ _ heL he
            exact ⟨x, c1, k1, g1, g2, k2⟩)
        refine ⟨.sl (P.cellsOf e) l, .sl l hu (by omega) h2, ?_⟩
        simp only [DRc]
        refine ⟨some a, cap, by rw [h1], by omega, hcm, ?_⟩
        rcases Nat.eq_zero_or_pos len with hz | hz
        · exact .inl (List.eq_nil_of_length_eq_zero (by omega))
        · refine .inr ⟨a, cs, rfl, ?_, ?_, h4⟩
          · have hcl : cs.length = l.length * P.cellsOf e := h4.length
            have hpos : 0 < cs.length := by rw [hcl, h1]; exact Nat.mul_pos hz h0
            have := h3 0 cs[0] (by simp [hpos])
            have hb := block_of_cell this
            simpa [add_block] using hb
          · have e0 : a.add (0 * P.cellsOf e) = a := by simp [Addr.add]
            rwa [e0] at h3
    · rename_i fs hu
      simp only [Bool.and_eq_true, List.all_eq_true, List.mem_range, beq_iff_eq] at hloc
      obtain ⟨hfs, hsz⟩ := hloc
      obtain ⟨xs, n, hfu, _, hlen, hxl, hx⟩ := DataW.trod_struct hu h
      cases hfu
      obtain ⟨l, h1, h2, h3⟩ := fields_of (P := P) (w := w) cs 0 fs.toList (fun i v hv => by
        have hi : i < fs.size := by
          have := (List.getElem?_eq_some_iff.1 hv).1
          omega
        have hf := hfs i hi
        have e : fs[i]? = some fs[i] := Array.getElem?_eq_getElem hi
        rw [e] at hf
        simp only [Bool.and_eq_true, beq_iff_eq, List.contains_eq_mem, decide_eq_true_eq] at hf
        obtain ⟨⟨⟨ho, hc⟩, hm⟩, ha⟩ := hf
        have hxi := hx i fs[i] e
        rw [ho, hc] at hxi
        have hd : (cs.drop i).take 1 = [v] := by
          have hil := (List.getElem?_eq_some_iff.1 hv)
          obtain ⟨g1, g2⟩ := hil
          rw [List.drop_eq_getElem_cons g1, g2]
          simp
        rw [hd] at hxi
        have hlt : i < xs.length := by omega
        rw [List.getElem?_eq_getElem hlt] at hxi
        obtain ⟨x, k1, k2⟩ := trod_open hL fuel fs[i].type [v] _ _ hm hxi
        exact ⟨fs[i], x, by simp [hi], k1, isAgg_of_hasT k1 ha, k2⟩)
      refine ⟨.agg l, .agg l hu (by omega) (fun i f x hf hx => h2 i f x (by simpa using hf) hx), ?_⟩
      simp only [DRc]
      exact h3
    · cases hloc
end
end Go.Fw
namespace Go.Fw
open Go Go.ChangeShapes Go.WideShapes Go.ChangeAt Go.RowKit
open Go.ChangeMaps (open_string shut_string)
set_option linter.unusedVariables false
set_option linter.unusedSimpArgs false
def HasTs (P : Program) : List TypeId → List D → Prop
  | [], [] => True
  | t :: ts, x :: xs => HasT P t x ∧ HasTs P ts xs
  | _, _ => False
section
variable {P : Program} {w : World} {H : Type} {enc : TypeId × Value → H}
theorem DRv_open {t : TypeId} {x : D} {v : Value} {F : Nat → Prop} {r : Reach} {b0 : Nat} (h : HasT P t x) (hv : Value.okWide P w r b0 t v) (hd : DRc w F x v.cells.toList) : DRv w F x v := by
  cases h with
  | bool b hu =>
    obtain ⟨b', rfl⟩ := okWide_bool hu hv
    simpa [DRv, Value.cells] using hd
  | int n hu hw =>
    obtain ⟨n', rfl⟩ := okWide_int hu hv
    simpa [DRv, Value.cells] using hd
  | str s hu hs =>
    obtain ⟨s', rfl⟩ := okWide_string hu hv
    simpa [DRv, Value.cells] using hd
  | sl l hu hm he =>
    obtain ⟨a, n, c, rfl⟩ := okWide_slice hu hv
    simpa only [DRv, Value.cells] using hd
  | agg l hu hl he =>
    simp only [Value.okWide, hu] at hv
    obtain ⟨cs, rfl, _⟩ := hv
    simp only [DRv]
    simp only [DRc, Value.cells] at hd
    exact ⟨cs, rfl, hd⟩
theorem open_all {L : List TypeId} (hL : L.all (locT P L) = true) {r : Reach} {b0 : Nat} : ∀ (ts : List TypeId) (vs : List Value) (ds : List (DataW H)) (ps : List MemPlace), ts.all (fun t => L.contains t) = true → DataW.TrodAll enc P w 0 (fun _ => true) true ts vs ds ps →
    (∀ (j : Nat) t v, ts[j]? = some t → vs[j]? = some v → Value.okWide P w r b0 t v) → ∃ xs, HasTs P ts xs ∧ CRl w (fun b => b < w.heap.size) (xs.map CV.d) vs []
  | [], vs, ds, ps, hs, h, hv => by
    obtain ⟨rfl, rfl, rfl⟩ := trodAll_nil h
    exact ⟨[], trivial, by simp [CRl]⟩
  | t :: ts, vs, ds, ps, hs, h, hv => by
    obtain ⟨v, vs', d, ds', p, q, rfl, rfl, rfl, h1, h2⟩ := trodAll_cons h
    simp only [List.all_cons, Bool.and_eq_true, List.contains_eq_mem, decide_eq_true_eq] at hs
    obtain ⟨fuel, hf⟩ := h1
    obtain ⟨x, k1, k2⟩ := trod_open hL fuel t _ _ _ hs.1 hf
    obtain ⟨xs, k3, k4⟩ := open_all hL ts vs' ds' q (by simpa using hs.2) h2 (fun j t' v' ht hv' => hv (j + 1) t' v' (by simpa using ht) (by simpa using hv'))
    refine ⟨x :: xs, ⟨k1, k3⟩, ?_⟩
    simp only [List.map_cons, CRl, CR]
    exact ⟨v, vs', [], [], rfl, ⟨DRv_open k1 (hv 0 t v rfl rfl) k2, rfl⟩, k4, rfl⟩
theorem trodAll_stays (hl : laidOutB P = true) {W W' : World} (hb : Below W.heap.size W W') : ∀ (ts : List TypeId) (vs : List Value) (ds : List (DataW H)) (ps : List MemPlace), ts.all (fun t => P.readableRec t && decide (t < P.types.size)) = true → DataW.TrodAll enc P W 0 (fun _ => true) true ts vs ds ps →
    DataW.TrodAll enc P W' 0 (fun b => decide (b < W.heap.size)) true ts vs ds ps
  | [], vs, ds, ps, hs, h => by
    obtain ⟨rfl, rfl, rfl⟩ := trodAll_nil h
    exact rfl
  | t :: ts, vs, ds, ps, hs, h => by
    obtain ⟨v, vs', d, ds', p, q, rfl, rfl, rfl, h1, h2⟩ := trodAll_cons h
    simp only [List.all_cons, Bool.and_eq_true, decide_eq_true_eq] at hs
    have hlt : ∀ x ∈ p, x.block < W.heap.size := by
      obtain ⟨m, hm⟩ := h1
      exact DataW.trod_lt m _ _ _ hm
    exact trodAll_cons_mk (Below.trod hl hs.1.1 hs.1.2 h1 hb hlt) (trodAll_stays hl hb ts vs' ds' q (by simpa using hs.2) h2)
theorem calls_of_has {g : FuncId} {fn : Func} {args : List CV} {R : List CV → List CV → Prop} (hfn : P.funcs[g]? = some fn) (hname : (fn.name == "runtime.NumGoroutine") = false) (hb : fn.body.isSome = true) (h : Has P g args R) {W : World} {vs : List Value}
    (hc : CRl W (fun b => b < W.heap.size) args vs []) : Calls P g vs.toArray W fun
      | .returned v, W' => ∃ rs bs F' vr f1 f2, R rs bs ∧ Fw.Left (fun b => b < W.heap.size) W vs [] rs bs v W' F' vr f1 f2
      | _, _ => False := by
  have := h.con (fun b => b < W.heap.size) W vs [] hc List.nodup_nil (fun b hb => by simp at hb) (fun b hb => hb)
  have hrun : (callFunc g vs.toArray).run P W = .ok (.enter g vs.toArray) W := by
    unfold callFunc
    have hprog : (program : Sem Program).run P W = .ok P W := rfl
    obtain ⟨c, hc'⟩ := Option.isSome_iff_exists.1 hb
    simp only [Sem.run_bind, hprog, Result.andThen_ok, hfn, hname, Bool.false_eq_true, if_false, hc', Option.isNone_some, Sem.run_pure]
  unfold Enters at this
  rw [hrun] at this
  exact this
 
theorem law_calls {L : List TypeId} (hL : L.all (locT P L) = true) (hl : laidOutB P = true) {g : FuncId} {fn : Func} (hfn : P.funcs[g]? = some fn) (hname : (fn.name == "runtime.NumGoroutine") = false) (hb : fn.body.isSome = true)
    (hin : fn.params.toList.all (fun t => L.contains t) = true) (hrec : fn.params.toList.all (fun t => P.readableRec t && decide (t < P.types.size)) = true)
    (hlaw : ∀ xs, HasTs P fn.params.toList xs → Has P g (xs.map CV.d) (fun rs _ => rs = [.d (.bool true)])) {W : World} {base : Nat} {args : Array Value} {ds : List (DataW H)} {p : List MemPlace}
    (hval : ∀ (j : Nat) t v, fn.params[j]? = some t → args[j]? = some v → Value.okWide P W .any base t v) (hA : DataW.TrodAll enc P W 0 (fun _ => true) true fn.params.toList args.toList ds p) :
    Calls P g args W fun e W' => e = .returned (.bool true) ∧ Below W.heap.size W W' ∧ DataW.TrodAll enc P W' 0 (fun b => decide (b < W.heap.size)) true fn.params.toList args.toList ds p := by
  obtain ⟨xs, h1, h2⟩ := open_all hL _ _ _ _ hin hA (fun j t v ht hv => hval j t v (by simpa using ht) (by simpa using hv))
  have hc := calls_of_has hfn hname hb (hlaw xs h1) h2
  have e : args.toList.toArray = args := by simp
  rw [e] at hc
  refine hc.mono fun en W' he => ?_
  cases en with
  | returned v =>
    obtain ⟨rs, bs, F', vr, f1, f2, rfl, hl'⟩ := he
    have hr := hl'.rs
    simp only [CRl, CR, DRv, DRc] at hr
    obtain ⟨v', vs', g1, g2, rfl, ⟨hv, _⟩, ⟨rfl, _⟩, _⟩ := hr
    have hv' := hl'.res
    simp only [Rv] at hv'
    simp only [List.cons.injEq, and_true] at hv
    subst hv
    subst hv'
    have bel : Below W.heap.size W W' := ⟨hl'.os, hl'.tape, hl'.output, hl'.size, fun k hk => hl'.keep k hk (by simp)⟩
    exact ⟨rfl, bel, trodAll_stays hl bel _ _ _ _ hrec hA⟩
  | panicked c => exact he.elim
  | outgrown => exact he.elim
end
end Go.Fw
namespace Go.Fw
open Go
set_option linter.unusedVariables false
theorem HasT.asStr {P : Program} {t : TypeId} {x : D} (hu : P.underlying t = some .string) (h : HasT P t x) : ∃ s : ByteArray, x = .str s ∧ s.size ≤ maxLen := by
  cases h with
  | str s _ hs => exact ⟨s, rfl, hs⟩
  | bool b h1 => rw [hu] at h1; cases h1
  | int n h1 _ => rw [hu] at h1; cases h1
  | sl l h1 _ _ => rw [hu] at h1; cases h1
  | agg l h1 _ _ => rw [hu] at h1; cases h1
theorem HasT.asInt {P : Program} {t : TypeId} {x : D} {k : IntKind} (hu : P.underlying t = some (.int k)) (h : HasT P t x) : ∃ n : Int, x = .int k n ∧ (Lit.int k n).wf = true := by
  cases h with
  | str s h1 _ => rw [hu] at h1; cases h1
  | bool b h1 => rw [hu] at h1; cases h1
  | int n h1 hw => rw [hu] at h1; cases h1; exact ⟨n, rfl, hw⟩
  | sl l h1 _ _ => rw [hu] at h1; cases h1
  | agg l h1 _ _ => rw [hu] at h1; cases h1
theorem HasT.asBool {P : Program} {t : TypeId} {x : D} (hu : P.underlying t = some .bool) (h : HasT P t x) : ∃ b : Bool, x = .bool b := by
  cases h with
  | str s h1 _ => rw [hu] at h1; cases h1
  | bool b h1 => exact ⟨b, rfl⟩
  | int n h1 hw => rw [hu] at h1; cases h1
  | sl l h1 _ _ => rw [hu] at h1; cases h1
  | agg l h1 _ _ => rw [hu] at h1; cases h1
theorem HasT.asSl {P : Program} {t e : TypeId} {x : D} (hu : P.underlying t = some (.slice e)) (h : HasT P t x) : ∃ l, x = .sl (P.cellsOf e) l ∧ l.length ≤ maxLen ∧ ∀ y ∈ l, HasT P e y := by
  cases h with
  | str s h1 _ => rw [hu] at h1; cases h1
  | bool b h1 => rw [hu] at h1; cases h1
  | int n h1 hw => rw [hu] at h1; cases h1
  | sl l h1 h2 h3 => rw [hu] at h1; cases h1; exact ⟨l, rfl, h2, h3⟩
  | agg l h1 _ _ => rw [hu] at h1; cases h1
theorem HasT.asAgg {P : Program} {t : TypeId} {fs : Array Field} {x : D} (hu : P.underlying t = some (.struct fs)) (h : HasT P t x) : ∃ l, x = .agg l ∧ l.length = fs.size ∧ ∀ (i : Nat) (f : Field) (y : D), fs[i]? = some f → l[i]? = some y → HasT P f.type y := by
  cases h with
  | str s h1 _ => rw [hu] at h1; cases h1
  | bool b h1 => rw [hu] at h1; cases h1
  | int n h1 hw => rw [hu] at h1; cases h1
  | sl l h1 h2 h3 => rw [hu] at h1; cases h1
  | agg l h1 h2 h3 => rw [hu] at h1; cases h1; exact ⟨l, rfl, h2, h3⟩
 
theorem map_of {α : Type} {f : α → D} {p : α → Prop} : ∀ {l : List D}, (∀ y ∈ l, ∃ a, y = f a ∧ p a) → ∃ az : List α, l = az.map f ∧ ∀ a ∈ az, p a
  | [], _ => ⟨[], rfl, by simp⟩
  | y :: l, h => by
    obtain ⟨a, rfl, ha⟩ := h y (by simp)
    obtain ⟨az, rfl, has⟩ := map_of (l := l) fun z hz => h z (by simp [hz])
    exact ⟨a :: az, rfl, fun b hb => by
      rcases List.mem_cons.1 hb with rfl | hb
      · exact ha
      · exact has b hb⟩
theorem HasT.asStrs {P : Program} {t e : TypeId} {x : D} (hu : P.underlying t = some (.slice e)) (he : P.underlying e = some .string) (hc : P.cellsOf e = 1) (h : HasT P t x) : ∃ l : List ByteArray, x = .sl 1 (l.map D.str) ∧ l.length ≤ maxLen ∧ ∀ s ∈ l, s.size ≤ maxLen := by
  obtain ⟨l, rfl, hl, hy⟩ := h.asSl hu
  obtain ⟨az, rfl, ha⟩ := map_of (f := D.str) (p := fun s => s.size ≤ maxLen) fun y hy' => (hy y hy').asStr he
  exact ⟨az, by rw [hc], by simpa using hl, ha⟩
theorem wf_u8 {n : Int} (h : (Lit.int .u8 n).wf = true) : 0 ≤ n ∧ n < 256 := by
  simp [Lit.wf, IntKind.min, IntKind.max, IntKind.bits, IntKind.signed] at h
  omega
theorem HasT.asBytes {P : Program} {t e : TypeId} {x : D} (hu : P.underlying t = some (.slice e)) (he : P.underlying e = some (.int .u8)) (hc : P.cellsOf e = 1) (h : HasT P t x) : ∃ l : List UInt8, x = .sl 1 (l.map byteD) ∧ l.length ≤ maxLen := by
  obtain ⟨l, rfl, hl, hy⟩ := h.asSl hu
  obtain ⟨az, rfl, _⟩ := map_of (f := byteD) (p := fun _ => True) fun y hy' => by
    obtain ⟨n, rfl, hw⟩ := (hy y hy').asInt he
    obtain ⟨h0, h1⟩ := wf_u8 hw
    refine ⟨UInt8.ofNat n.toNat, ?_, trivial⟩
    have : ((UInt8.ofNat n.toNat).toNat : Int) = n := by
      rw [UInt8.toNat_ofNat_of_lt' (by simp [UInt8.size]; omega)]; omega
    simp only [byteD, this]
  exact ⟨az, by rw [hc], by simpa using hl⟩
theorem one_arg {P : Program} {t : TypeId} {xs : List D} (h : HasTs P [t] xs) : ∃ x, xs = [x] ∧ HasT P t x := by
  cases xs with
  | nil => exact h.elim
  | cons x r => cases r with
    | nil => exact ⟨x, rfl, h.1⟩
    | cons y r => exact h.2.elim
theorem two_args {P : Program} {t u : TypeId} {xs : List D} (h : HasTs P [t, u] xs) : ∃ x y, xs = [x, y] ∧ HasT P t x ∧ HasT P u y := by
  cases xs with
  | nil => exact h.elim
  | cons x r =>
    obtain ⟨y, rfl, h2⟩ := one_arg h.2
    exact ⟨x, y, rfl, h.1, h2⟩
theorem three_args {P : Program} {t u v : TypeId} {xs : List D} (h : HasTs P [t, u, v] xs) : ∃ x y z, xs = [x, y, z] ∧ HasT P t x ∧ HasT P u y ∧ HasT P v z := by
  cases xs with
  | nil => exact h.elim
  | cons x r =>
    obtain ⟨y, z, rfl, h2, h3⟩ := two_args h.2
    exact ⟨x, y, z, rfl, h.1, h2, h3⟩
end Go.Fw
namespace Go.Fw
open Go Go.Proofs
theorem fol : Try.prog.follows .mixedOrders = true := by kernel_rfl
def noPlan : Nat → Plan := fun _ => .done
def M0 : FuncId → List Mode := fun _ => []
end Go.Fw
namespace Go.Fw
open Go
set_option linter.unusedVariables false
theorem less_at : ∀ (i : Nat) (l m : List UInt8), (∀ j, j < i → l.getD j 0 = m.getD j 0) → i < l.length → i < m.length → (l.getD i 0).toNat < (m.getD i 0).toNat → Op.bytesLess l m = true ∧ Op.bytesLess m l = false
  | 0, a :: x, b :: y, _, _, _, h => by
    simp only [List.getD_cons_zero] at h
    have h1 : a < b := UInt8.lt_iff_toNat_lt.2 h
    have h2 : ¬ b < a := fun h2 => by have := UInt8.lt_iff_toNat_lt.1 h2; omega
    have h3 : (b == a) = false := by
      refine beq_eq_false_iff_ne.2 fun e => ?_
      subst e
      omega
    simp [Op.bytesLess, h1, h2, h3]
  | i + 1, a :: x, b :: y, he, hl, hm, h => by
    have e : a = b := by simpa using he 0 (Nat.succ_pos i)
    subst e
    have ih := less_at i x y (fun j hj => by simpa using he (j + 1) (by omega)) (by simpa using hl) (by simpa using hm) (by simpa using h)
    have h2 : ¬ a < a := fun h2 => by have := UInt8.lt_iff_toNat_lt.1 h2; omega
    simp [Op.bytesLess, h2, ih.1, ih.2]
  | _, [], _, _, hl, _, _ => by simp at hl
  | _, _, [], _, _, hm, _ => by simp at hm
theorem less_end : ∀ (l m : List UInt8), (∀ j, j < l.length → l.getD j 0 = m.getD j 0) → l.length ≤ m.length → Op.bytesLess l m = decide (l.length < m.length) ∧ Op.bytesLess m l = false
  | [], [], _, _ => by simp [Op.bytesLess]
  | [], b :: y, _, _ => by simp [Op.bytesLess]
  | a :: x, [], _, h => by simp at h
  | a :: x, b :: y, he, h => by
    have e : a = b := by simpa using he 0 (by simp)
    subst e
    have ih := less_end x y (fun j hj => by simpa using he (j + 1) (by simpa using hj)) (by simpa using h)
    have h2 : ¬ a < a := fun h2 => by have := UInt8.lt_iff_toNat_lt.1 h2; omega
    simp [Op.bytesLess, h2, ih.1, ih.2]
theorem bAt_eq {a b : ByteArray} {j : Nat} (h : bAt a j = bAt b j) : a.data.toList.getD j 0 = b.data.toList.getD j 0 := by
  simp only [bAt] at h
  have := Int.ofNat.inj h
  exact UInt8.toNat_inj.1 this
theorem slt_at {a b : ByteArray} {i : Nat} (he : ∀ j, j < i → bAt a j = bAt b j) (ha : i < a.size) (hb : i < b.size) (h : bAt a i < bAt b i) : slt a b = true ∧ slt b a = false := by
  refine less_at i a.data.toList b.data.toList (fun j hj => bAt_eq (he j hj)) ha hb ?_
  simp only [bAt] at h
  omega
theorem slt_end {a b : ByteArray} (he : ∀ j, j < a.size → bAt a j = bAt b j) (h : a.size ≤ b.size) : slt a b = decide (a.size < b.size) ∧ slt b a = false :=
  less_end a.data.toList b.data.toList (fun j hj => bAt_eq (he j hj)) h
 
def cmpS (a b : ByteArray) : Int := if slt a b then -1 else if slt b a then 1 else 0
theorem cmp_at {a b : ByteArray} {i : Nat} (he : ∀ j, j < i → bAt a j = bAt b j) (ha : i < a.size) (hb : i < b.size) (h : bAt a i < bAt b i) : cmpS a b = -1 ∧ cmpS b a = 1 := by
  obtain ⟨e1, e2⟩ := slt_at he ha hb h
  simp [cmpS, e1, e2]
theorem cmp_end {a b : ByteArray} {i : Nat} (he : ∀ j, j < i → bAt a j = bAt b j) (hi : a.size ≤ i ∨ b.size ≤ i) : cmpS a b = if a.size < b.size then -1 else if b.size < a.size then 1 else 0 := by
  rcases hi with h | h
  · by_cases hab : a.size ≤ b.size
    · obtain ⟨e1, e2⟩ := slt_end (a := a) (b := b) (fun j hj => he j (by omega)) hab
      simp only [cmpS, e1, e2, decide_eq_true_eq, Bool.false_eq_true, if_false]
      rw [if_neg (show ¬ b.size < a.size by omega)]
    · obtain ⟨e1, e2⟩ := slt_end (a := b) (b := a) (fun j hj => (he j (by omega)).symm) (by omega)
      simp only [cmpS, e1, e2, decide_eq_true_eq, Bool.false_eq_true, if_false]
      rw [if_neg (show ¬ a.size < b.size by omega)]
  · by_cases hab : b.size ≤ a.size
    · obtain ⟨e1, e2⟩ := slt_end (a := b) (b := a) (fun j hj => (he j (by omega)).symm) hab
      simp only [cmpS, e1, e2, decide_eq_true_eq, Bool.false_eq_true, if_false]
      rw [if_neg (show ¬ a.size < b.size by omega)]
    · obtain ⟨e1, e2⟩ := slt_end (a := a) (b := b) (fun j hj => he j (by omega)) (by omega)
      simp only [cmpS, e1, e2, decide_eq_true_eq, Bool.false_eq_true, if_false]
      rw [if_neg (show ¬ b.size < a.size by omega)]
theorem less_trans : ∀ (a b c : List UInt8), Op.bytesLess a b = true → Op.bytesLess b c = true → Op.bytesLess a c = true
  | [], _, [], _, h2 => by cases ‹List UInt8› <;> simp [Op.bytesLess] at h2
  | [], _, _ :: _, _, _ => by simp [Op.bytesLess]
  | _ :: _, [], _, h1, _ => by simp [Op.bytesLess] at h1
  | _ :: _, _ :: _, [], _, h2 => by simp [Op.bytesLess] at h2
  | x :: a, y :: b, z :: c, h1, h2 => by
    simp only [Op.bytesLess, Bool.or_eq_true, Bool.and_eq_true, decide_eq_true_eq, beq_iff_eq] at h1 h2 ⊢
    rcases h1 with h1 | ⟨rfl, h1⟩
    · rcases h2 with h2 | ⟨rfl, h2⟩
      · exact .inl (UInt8.lt_trans h1 h2)
      · exact .inl h1
    · rcases h2 with h2 | ⟨rfl, h2⟩
      · exact .inl h2
      · exact .inr ⟨rfl, less_trans a b c h1 h2⟩
theorem less_irrefl : ∀ a : List UInt8, Op.bytesLess a a = false
  | [] => by simp [Op.bytesLess]
  | x :: a => by simp [Op.bytesLess, less_irrefl a, UInt8.lt_irrefl]
theorem less_total : ∀ (a b : List UInt8), Op.bytesLess a b = false → Op.bytesLess b a = false → a = b
  | [], [], _, _ => rfl
  | [], _ :: _, h, _ => by simp [Op.bytesLess] at h
  | _ :: _, [], _, h => by simp [Op.bytesLess] at h
  | x :: a, y :: b, h1, h2 => by
    simp only [Op.bytesLess, Bool.or_eq_false_iff, Bool.and_eq_false_iff, decide_eq_false_iff_not, beq_eq_false_iff_ne, UInt8.not_lt] at h1 h2
    have e : x = y := UInt8.le_antisymm h2.1 h1.1
    subst e
    simp at h1 h2
    rw [less_total a b h1 h2]
theorem slt_trans {a b c : ByteArray} (h1 : slt a b = true) (h2 : slt b c = true) : slt a c = true := less_trans _ _ _ h1 h2
theorem slt_irrefl (a : ByteArray) : slt a a = false := less_irrefl _
theorem slt_asymm {a b : ByteArray} (h : slt a b = true) : slt b a = false := by
  refine Bool.eq_false_iff.2 fun h2 => ?_
  have := slt_trans h h2
  rw [slt_irrefl] at this
  cases this
theorem bytes_inj {a b : ByteArray} (h : a.data.toList = b.data.toList) : a = b := by
  cases a; cases b
  simp only [ByteArray.mk.injEq]
  exact Array.ext' h
theorem slt_total {a b : ByteArray} (h1 : slt a b = false) (h2 : slt b a = false) : a = b := bytes_inj (less_total _ _ h1 h2)
theorem allU8_bytes : ∀ a : List UInt8, allU8 (a.map byteD) = true
  | [] => rfl
  | x :: r => by simp only [List.map_cons, allU8, byteD]; exact allU8_bytes r
theorem dByte_bytes : ∀ a : List UInt8, (a.map byteD).map dByte = a
  | [] => rfl
  | x :: r => by
    simp only [List.map_cons, dByte_bytes r]
    congr 1
    simp [byteD, dByte]
theorem str_of_bytes (a : List UInt8) : (⟨((a.map byteD).map dByte).toArray⟩ : ByteArray) = ⟨a.toArray⟩ := by rw [dByte_bytes]
theorem mk_inj {a b : List UInt8} : ((⟨a.toArray⟩ : ByteArray) = ⟨b.toArray⟩) ↔ a = b := by
  constructor
  · intro h; simpa using h
  · intro h; rw [h]
theorem ext_getD {α : Type} [Inhabited α] {a b : List α} (hl : a.length = b.length) (h : ∀ j, j < a.length → a.getD j default = b.getD j default) : a = b :=
  List.ext_getElem hl fun k hk hk' => by
    have := h k hk
    simpa only [List.getD_eq_getElem?_getD, List.getElem?_eq_getElem hk, List.getElem?_eq_getElem hk', Option.getD_some] using this
end Go.Fw
namespace Go.Fw
open Go
set_option linter.unusedVariables false
set_option linter.unusedSimpArgs false
theorem upto_succ {p : Nat → Prop} {i : Nat} (h : ∀ j, j < i → p j) (hi : p i) : ∀ j, j < i + 1 → p j := fun j hj => by
  by_cases e : j = i
  · exact e ▸ hi
  · exact h j (by omega)
def mayD (s : ByteArray) : Bool := decide (1 ≤ s.size) && decide (s.size ≤ 8)
def okAt (t : List ByteArray) (i : Nat) : Bool := mayD (t.getD i default) && (decide (i = 0) || slt (t.getD (i - 1) default) (t.getD i default))
def rightS (t : List ByteArray) : Bool := decide (t.length ≤ 255) && (List.range t.length).all (okAt t)
theorem right_bad {t : List ByteArray} {i : Nat} (hi : i < t.length) (h : okAt t i = false) : rightS t = false := by
  have : (List.range t.length).all (okAt t) = false := by
    refine Bool.eq_false_iff.2 fun h1 => ?_
    rw [List.all_eq_true.1 h1 i (List.mem_range.2 hi)] at h
    cases h
  simp only [rightS, this, Bool.and_false]
theorem right_good {t : List ByteArray} (hl : t.length ≤ 255) (h : ∀ j, j < t.length → okAt t j = true) : rightS t = true := by
  have hall : (List.range t.length).all (okAt t) = true := List.all_eq_true.2 fun j hj => h j (List.mem_range.1 hj)
  simp only [rightS, hall, decide_eq_true hl, Bool.true_and]
theorem right_long {t : List ByteArray} (hl : 255 < t.length) : rightS t = false := by
  have : ¬ t.length ≤ 255 := by omega
  simp only [rightS, decide_eq_false this, Bool.false_and]
theorem right_at {t : List ByteArray} (h : rightS t = true) : t.length ≤ 255 ∧ ∀ j, j < t.length → okAt t j = true := by
  simp only [rightS, Bool.and_eq_true, decide_eq_true_eq, List.all_eq_true, List.mem_range] at h
  exact h
theorem right_size {t : List ByteArray} (h : rightS t = true) : ∀ s ∈ t, s.size ≤ 8 := fun s hs => by
  obtain ⟨k, hk, rfl⟩ := List.mem_iff_getElem.1 hs
  have := (right_at h).2 k hk
  simp [okAt, mayD, List.getD_eq_getElem?_getD, hk] at this
  omega
def fewS (l : List ByteArray) : Bool := decide (l.length ≤ 300) && decide (∀ j, j < l.length → (l.getD j default).size ≤ 1000)
theorem getD_mem {α : Type} [Inhabited α] {t : List α} {i : Nat} (h : i < t.length) : t.getD i default ∈ t := by
  rw [List.getD_eq_getElem?_getD, List.getElem?_eq_getElem h]; exact List.getElem_mem h
theorem take_snoc {α : Type} [Inhabited α] {t : List α} {i : Nat} (h : i < t.length) : t.take (i + 1) = t.take i ++ [t.getD i default] := by
  rw [List.take_add_one]; simp [List.getD_eq_getElem?_getD, h]
theorem filter_upto {α : Type} (p : α → Bool) (l : List α) (i : Nat) : ((l.take i).filter p).length ≤ l.length := by
  have h1 := List.length_filter_le p (l.take i)
  have h2 : (l.take i).length ≤ l.length := by simp; omega
  omega
theorem filter_yes {α : Type} [Inhabited α] {p : α → Bool} {l : List α} {i : Nat} (h : i < l.length) (hp : p (l.getD i default) = true) : (l.take (i + 1)).filter p = (l.take i).filter p ++ [l.getD i default] := by
  rw [take_snoc h, List.filter_append]; simp only [List.filter_cons, hp, if_true, List.filter_nil]
theorem filter_no {α : Type} [Inhabited α] {p : α → Bool} {l : List α} {i : Nat} (h : i < l.length) (hp : p (l.getD i default) = false) : (l.take (i + 1)).filter p = (l.take i).filter p := by
  rw [take_snoc h, List.filter_append]; simp only [List.filter_cons, hp, Bool.false_eq_true, if_false, List.filter_nil, List.append_nil]
def putF (s : ByteArray) : List UInt8 := UInt8.ofNat s.size :: s.data.toList
def putB (t : List ByteArray) : List UInt8 := UInt8.ofNat t.length :: t.flatMap putF
theorem dlen (s : ByteArray) : s.data.toList.length = s.size := rfl
theorem putF_len {s : ByteArray} (h : s.size ≤ 8) : (putF s).length ≤ 9 := by
  simp only [putF, List.length_cons, dlen]
  omega
theorem puts_len : ∀ {l : List ByteArray}, (∀ s ∈ l, s.size ≤ 8) → (l.flatMap putF).length ≤ 9 * l.length
  | [], _ => by simp
  | s :: r, h => by
    have h1 := putF_len (h s (by simp))
    have h2 := puts_len (l := r) (fun x hx => h x (by simp [hx]))
    simp only [List.flatMap_cons, List.length_append, List.length_cons]
    omega
theorem puts_upto {t : List ByteArray} (h : ∀ s ∈ t, s.size ≤ 8) (i : Nat) : ((t.take i).flatMap putF).length ≤ 9 * t.length := by
  have := puts_len (l := t.take i) (fun s hs => h s (List.mem_of_mem_take hs))
  have : (t.take i).length ≤ t.length := by simp; omega
  omega
theorem puts_step {t : List ByteArray} {i : Nat} (h : i < t.length) : UInt8.ofNat t.length :: (t.take (i + 1)).flatMap putF = UInt8.ofNat t.length :: (t.take i).flatMap putF ++ [UInt8.ofNat (t.getD i default).size] ++ (t.getD i default).data.toList := by
  rw [take_snoc h, List.flatMap_append]
  simp [putF]
theorem right_prev {t : List ByteArray} {i : Nat} (h : ∀ j, j < i → okAt t j = true) : i = 0 ∨ (t.getD (i - 1) default).size ≤ 8 := by
  by_cases e : i = 0
  · exact .inl e
  · have := h (i - 1) (by omega)
    simp only [okAt, mayD, Bool.and_eq_true, decide_eq_true_eq] at this
    exact .inr this.1.2
theorem okAt_ok {t : List ByteArray} {i : Nat} (h1 : 1 ≤ (t.getD i default).size) (h8 : (t.getD i default).size ≤ 8) (hs : i = 0 ∨ slt (t.getD (i - 1) default) (t.getD i default) = true) : okAt t i = true := by
  simp only [okAt, mayD, Bool.and_eq_true, Bool.or_eq_true, decide_eq_true_eq]
  exact ⟨⟨h1, h8⟩, hs⟩
theorem okAt_no {t : List ByteArray} {i : Nat} (h : (t.getD i default).size < 1 ∨ 8 < (t.getD i default).size ∨ (i ≠ 0 ∧ slt (t.getD (i - 1) default) (t.getD i default) = false)) : okAt t i = false := by
  refine Bool.eq_false_iff.2 fun hk => ?_
  simp only [okAt, mayD, Bool.and_eq_true, Bool.or_eq_true, decide_eq_true_eq] at hk
  rcases h with h | h | h
  · omega
  · omega
  · rw [h.2] at hk
    simp [h.1] at hk
theorem cmp_ge {a b : ByteArray} (h : 0 ≤ cmpS a b) : slt a b = false := by
  refine Bool.eq_false_iff.2 fun h1 => ?_
  simp only [cmpS, h1, if_true] at h
  omega
theorem cmp_lt {a b : ByteArray} (h : cmpS a b < 0) : slt a b = true := by
  refine (Bool.eq_false_or_eq_true _).resolve_right fun h1 => ?_
  simp only [cmpS, h1, Bool.false_eq_true, if_false] at h
  split at h <;> omega
def Rises (t : List ByteArray) : Prop := ∀ a b, a < b → b < t.length → slt (t.getD a default) (t.getD b default) = true
theorem half_nat (lo hi : Nat) : (((lo : Int) + (hi : Int)) / 2).toNat = (lo + hi) / 2 := by omega
 
def NoBeg (t : List ByteArray) (x : ByteArray) (m : Nat) : Prop := ∀ k, k < t.length → ¬ t.getD k default = x.extract 0 m
 
def Found (t : List ByteArray) (x : ByteArray) (rs : List CV) : Prop :=
  (∃ i n : Nat, rs = [.d (.int .i64 i), .d (.int .i64 n)] ∧ 0 < n ∧ n ≤ 8 ∧ n ≤ x.size ∧ i < t.length ∧ t.getD i default = x.extract 0 n ∧ ∀ m, n < m → m ≤ 8 → m ≤ x.size → NoBeg t x m) ∨
  (rs = [.d (.int .i64 (-1)), .d (.int .i64 0)] ∧ ∀ m, 0 < m → m ≤ 8 → m ≤ x.size → NoBeg t x m)
theorem noBeg_of {t : List ByteArray} {x : ByteArray} {n i : Nat} (hr : Rises t) (hb : ∀ j, j < t.length → (slt (t.getD j default) (x.extract 0 n) = true ↔ j < i)) (hf : ¬ (i < t.length ∧ t.getD i default = x.extract 0 n)) : NoBeg t x n := fun k hk he => by
  have hki : ¬ k < i := fun h => by
    have := (hb k hk).2 h
    rw [he, slt_irrefl] at this
    cases this
  by_cases h : k = i
  · subst h
    exact hf ⟨hk, he⟩
  · have h1 := hr i k (by omega) hk
    rw [he] at h1
    have := (hb i (by omega)).1 h1
    omega
 
theorem half_up {t : List ByteArray} {x : ByteArray} {m : Nat} (hr : Rises t) (hm : m < t.length) (h : slt (t.getD m default) x = true) : ∀ j, j < m + 1 → slt (t.getD j default) x = true := fun j hj => by
  by_cases e : j = m
  · rw [e]; exact h
  · exact slt_trans (hr j m (by omega) hm) h
theorem half_down {t : List ByteArray} {x : ByteArray} {m : Nat} (hr : Rises t) (h : slt (t.getD m default) x = false) : ∀ j, m ≤ j → j < t.length → slt (t.getD j default) x = false := fun j hj hj2 => by
  by_cases e : j = m
  · rw [e]; exact h
  · refine Bool.eq_false_iff.2 fun hjx => ?_
    have := slt_trans (hr m j (by omega) hj2) hjx
    rw [h] at this
    cases this
theorem half_end {t : List ByteArray} {x : ByteArray} {lo hi : Nat} (h : hi ≤ lo) (h3 : ∀ j, j < lo → slt (t.getD j default) x = true) (h4 : ∀ j, hi ≤ j → j < t.length → slt (t.getD j default) x = false) : ∀ j, j < t.length → (slt (t.getD j default) x = true ↔ j < lo) := fun j hj =>
  ⟨fun hs => Nat.lt_of_not_le fun hle => (by
    rw [h4 j (by omega) hj] at hs
    cases hs), fun hs => h3 j hs⟩
theorem putB_len {t : List ByteArray} (h : rightS t = true) : (((putB t).map byteD).length : Int) ≤ 2296 := by
  have h1 := puts_len (right_size h)
  have h2 := (right_at h).1
  simp only [List.length_map, putB, List.length_cons]
  omega
end Go.Fw
namespace Go.Fw
open Go Go.Proofs
set_option maxHeartbeats 10000000
set_option maxRecDepth 100000
set_option linter.constructorNameAsVariable false
set_option linter.unusedVariables false
set_option linter.unusedSimpArgs false
theorem may_con (s : ByteArray) : Has Try.prog 25 [CV.d (D.str s)] (fun rs _ => rs = [CV.d (D.bool (mayD s))]) := by
  refine Has_of_run (fn := Try.f25) (M := M0) fol (by kernel_rfl) 3 noPlan [] [] (by kernel_rfl) (Nat.le_of_ble_eq_true rfl) ?_
  repeat' ((conv => whnf); first | (refine And.intro (fun h => ?_) (fun h => ?_) <;> (try simp only [toNat_pred, toNat_succ, toNat_addn, toNat_subn, decide_eq_true_eq, decide_eq_false_iff_not, Bool.not_eq_true', Bool.not_eq_false', List.length_map, Int.toNat_natCast, Int.not_lt, Int.not_le, Bool.not_eq_true, Bool.false_eq_true, Bool.true_eq_false, Bool.not_true, Bool.not_false, reduceCtorEq, beq_iff_eq, Bool.not_eq_eq_eq_not, bne_iff_ne, ne_eq, decide_not, Decidable.not_not, Classical.not_not] at h)) | refine And.intro rfl ?_ | refine And.intro (Or.inr rfl) ?_ | refine And.intro (Nat.le_of_ble_eq_true rfl) ?_ | refine And.intro ⟨rfl, rfl⟩ ?_ | refine And.intro ⟨rfl, rfl, trivial⟩ ?_ | refine And.intro (Int.natCast_nonneg _) ?_ | refine Or.inl (And.intro rfl (And.intro rfl (And.intro rfl (And.intro rfl ?_)))) | refine Or.inl (And.intro rfl (And.intro rfl ?_)) | refine Or.inr (And.intro (Nat.le_of_ble_eq_true rfl) ?_) | refine Or.inl (And.intro (by unfold in64; omega) ?_) | refine And.intro (by first | omega | (simp only [dlen, true_and, and_true, Nat.le_refl, List.length_map, List.length_append, List.length_cons, List.length_nil, List.length_take, List.length_drop, List.length_replicate, Int.toNat_natCast, List.append_nil] <;> omega) | fail) ?_ | refine And.intro (show elemsP _ _ _ by repeat' (first | exact rfl | exact trivial | constructor)) ?_ | (refine fun x hx => ?_; (try simp (disch := omega) only [if_true, if_false, Bool.false_eq_true, min_nn, max_nn, min_ln, min_nl, max_ln, max_nl, getD_map, take_bytes, wrap_u64, wrap_u32, shr_i64, shr_u64, shr_u32, shl_i64, shl_u64, Int.reduceToNat, Int.reducePow, Int.pow_succ, Int.pow_zero, Int.one_mul, Int.reduceMul, wrap_id, wrap_u8_nat, wrap_i64_u8, byteD_mk, map_snoc, map_app, set_map, List.length_map, List.length_append, List.length_cons, List.length_nil, Int.toNat_natCast, List.drop_zero, List.take_succ_cons, List.take_zero, List.take_length, List.nil_append, List.append_nil, Nat.zero_add, toNat_pred, toNat_succ, toNat_addn, toNat_subn] at hx); subst hx) | rw [List.take_length] | (rw [List.take_of_length_le]; rotate_left; (first | omega | (simp only [dlen, true_and, and_true, Nat.le_refl, List.length_map, List.length_append, List.length_cons, List.length_nil, List.length_take, List.length_drop, List.length_replicate, Int.toNat_natCast, List.append_nil] <;> omega) | fail)) | refine fun h => ?_ | fail); all_goals (try (conv => whnf))
  · exact rb (by have : 1 ≤ s.size := by omega
                 simp only [mayD, decide_eq_true this, Bool.true_and]; exact decide_eq_decide.2 (by omega))
  · exact rb (by have : ¬ 1 ≤ s.size := by omega
                 simp only [mayD, decide_eq_false this, Bool.false_and])
theorem right_con (t : List ByteArray) : Has Try.prog 12 [CV.d (D.sl 1 (t.map D.str))] (fun rs _ => rs = [CV.d (D.bool (rightS t))]) := by
  refine Has_of_run (fn := Try.f12) (M := M0) fol (by kernel_rfl) 5 noPlan [] [] (by kernel_rfl) (Nat.le_of_ble_eq_true rfl) ?_
  repeat' ((conv => whnf); first | (refine And.intro (fun h => ?_) (fun h => ?_) <;> (try simp only [toNat_pred, toNat_succ, toNat_addn, toNat_subn, decide_eq_true_eq, decide_eq_false_iff_not, Bool.not_eq_true', Bool.not_eq_false', List.length_map, Int.toNat_natCast, Int.not_lt, Int.not_le, Bool.not_eq_true, Bool.false_eq_true, Bool.true_eq_false, Bool.not_true, Bool.not_false, reduceCtorEq, beq_iff_eq, Bool.not_eq_eq_eq_not, bne_iff_ne, ne_eq, decide_not, Decidable.not_not, Classical.not_not] at h)) | refine And.intro rfl ?_ | refine And.intro (Or.inr rfl) ?_ | refine And.intro (Nat.le_of_ble_eq_true rfl) ?_ | refine And.intro ⟨rfl, rfl⟩ ?_ | refine And.intro ⟨rfl, rfl, trivial⟩ ?_ | refine And.intro (Int.natCast_nonneg _) ?_ | refine Or.inl (And.intro rfl (And.intro rfl (And.intro rfl (And.intro rfl ?_)))) | refine Or.inl (And.intro rfl (And.intro rfl ?_)) | refine Or.inr (And.intro (Nat.le_of_ble_eq_true rfl) ?_) | refine Or.inl (And.intro (by unfold in64; omega) ?_) | refine And.intro (by first | omega | (simp only [dlen, true_and, and_true, Nat.le_refl, List.length_map, List.length_append, List.length_cons, List.length_nil, List.length_take, List.length_drop, List.length_replicate, Int.toNat_natCast, List.append_nil] <;> omega) | fail) ?_ | refine And.intro (show elemsP _ _ _ by repeat' (first | exact rfl | exact trivial | constructor)) ?_ | (refine (may_con _).mono fun rs bs hr => ?_; subst hr) | (refine Loops.by (M := M0) 5 noPlan fol (by kernel_rfl) (ι := Nat) (fun i => ⟨[(0, AV.d (D.sl 1 (t.map D.str))), (8, AV.d (D.sl 1 (t.map D.str))), (9, AV.d (D.int .i64 t.length)), (10, AV.d (D.int .i64 i))], [], 16⟩) (fun i => i ≤ t.length ∧ ∀ j, j < i → okAt t j = true) (fun i => t.length - i) (fun i hI => ?_) (0) ⟨Nat.zero_le _, fun j h => absurd h (Nat.not_lt_zero _)⟩ (Forget.mk' ⟨⟨rfl, rfl⟩, ⟨rfl, rfl⟩, ⟨rfl, rfl⟩, ⟨rfl, rfl⟩, trivial⟩ trivial rfl rfl); obtain ⟨hi, hok⟩ := hI) | (refine fun x hx => ?_; (try simp (disch := omega) only [if_true, if_false, Bool.false_eq_true, min_nn, max_nn, min_ln, min_nl, max_ln, max_nl, getD_map, take_bytes, wrap_u64, wrap_u32, shr_i64, shr_u64, shr_u32, shl_i64, shl_u64, Int.reduceToNat, Int.reducePow, Int.pow_succ, Int.pow_zero, Int.one_mul, Int.reduceMul, wrap_id, wrap_u8_nat, wrap_i64_u8, byteD_mk, map_snoc, map_app, set_map, List.length_map, List.length_append, List.length_cons, List.length_nil, Int.toNat_natCast, List.drop_zero, List.take_succ_cons, List.take_zero, List.take_length, List.nil_append, List.append_nil, Nat.zero_add, toNat_pred, toNat_succ, toNat_addn, toNat_subn] at hx); subst hx) | rw [List.take_length] | (rw [List.take_of_length_le]; rotate_left; (first | omega | (simp only [dlen, true_and, and_true, Nat.le_refl, List.length_map, List.length_append, List.length_cons, List.length_nil, List.length_take, List.length_drop, List.length_replicate, Int.toNat_natCast, List.append_nil] <;> omega) | fail)) | refine fun h => ?_ | fail); all_goals (try (conv => whnf))
  · exact rb (right_long (by omega)).symm
  · exact rb (right_bad (i := i) (by omega) (by simp_all [okAt]; omega)).symm
  · exact ⟨i + 1, ⟨⟨by omega, upto_succ hok (by simp_all [okAt])⟩, by omega⟩, (Forget.mk' ⟨⟨rfl, rfl⟩, ⟨rfl, rfl⟩, ⟨rfl, rfl⟩, ⟨rfl, rfl⟩, trivial⟩ trivial rfl rfl)⟩
  · exact ⟨i + 1, ⟨⟨by omega, upto_succ hok (by simp_all [okAt])⟩, by omega⟩, (Forget.mk' ⟨⟨rfl, rfl⟩, ⟨rfl, rfl⟩, ⟨rfl, rfl⟩, ⟨rfl, rfl⟩, trivial⟩ trivial rfl rfl)⟩
  · exact rb (right_bad (i := i) (by omega) (by simp_all [okAt])).symm
  · exact rb (right_good (by omega) (fun j hj => hok j (by omega))).symm
theorem few_con (t : List ByteArray) : Has Try.prog 10 [CV.d (D.sl 1 (t.map D.str))] (fun rs _ => rs = [CV.d (D.bool (fewS t))]) := by
  refine Has_of_run (fn := Try.f10) (M := M0) fol (by kernel_rfl) 4 noPlan [] [] (by kernel_rfl) (Nat.le_of_ble_eq_true rfl) ?_
  repeat' ((conv => whnf); first | (refine And.intro (fun h => ?_) (fun h => ?_) <;> (try simp only [toNat_pred, toNat_succ, toNat_addn, toNat_subn, decide_eq_true_eq, decide_eq_false_iff_not, Bool.not_eq_true', Bool.not_eq_false', List.length_map, Int.toNat_natCast, Int.not_lt, Int.not_le, Bool.not_eq_true, Bool.false_eq_true, Bool.true_eq_false, Bool.not_true, Bool.not_false, reduceCtorEq, beq_iff_eq, Bool.not_eq_eq_eq_not, bne_iff_ne, ne_eq, decide_not, Decidable.not_not, Classical.not_not] at h)) | refine And.intro rfl ?_ | refine And.intro (Or.inr rfl) ?_ | refine And.intro (Nat.le_of_ble_eq_true rfl) ?_ | refine And.intro ⟨rfl, rfl⟩ ?_ | refine And.intro ⟨rfl, rfl, trivial⟩ ?_ | refine And.intro (Int.natCast_nonneg _) ?_ | refine Or.inl (And.intro rfl (And.intro rfl (And.intro rfl (And.intro rfl ?_)))) | refine Or.inl (And.intro rfl (And.intro rfl ?_)) | refine Or.inr (And.intro (Nat.le_of_ble_eq_true rfl) ?_) | refine Or.inl (And.intro (by unfold in64; omega) ?_) | refine And.intro (by first | omega | (simp only [dlen, true_and, and_true, Nat.le_refl, List.length_map, List.length_append, List.length_cons, List.length_nil, List.length_take, List.length_drop, List.length_replicate, Int.toNat_natCast, List.append_nil] <;> omega) | fail) ?_ | refine And.intro (show elemsP _ _ _ by repeat' (first | exact rfl | exact trivial | constructor)) ?_ | (refine Loops.by (M := M0) 4 noPlan fol (by kernel_rfl) (ι := Nat) (fun i => ⟨[(0, AV.d (D.sl 1 (t.map D.str))), (3, AV.d (D.int .i64 i))], [], 16⟩) (fun i => i ≤ t.length ∧ i ≤ 400 ∧ ∀ j, j < i → (t.getD j default).size ≤ 1000) (fun i => t.length - i) (fun i hI => ?_) (0) ⟨Nat.zero_le _, Nat.zero_le _, fun j h => absurd h (Nat.not_lt_zero _)⟩ (Forget.mk' ⟨⟨rfl, rfl⟩, ⟨rfl, rfl⟩, trivial⟩ trivial rfl rfl); obtain ⟨hi, h4, hok⟩ := hI) | (refine fun x hx => ?_; (try simp (disch := omega) only [if_true, if_false, Bool.false_eq_true, min_nn, max_nn, min_ln, min_nl, max_ln, max_nl, getD_map, take_bytes, wrap_u64, wrap_u32, shr_i64, shr_u64, shr_u32, shl_i64, shl_u64, Int.reduceToNat, Int.reducePow, Int.pow_succ, Int.pow_zero, Int.one_mul, Int.reduceMul, wrap_id, wrap_u8_nat, wrap_i64_u8, byteD_mk, map_snoc, map_app, set_map, List.length_map, List.length_append, List.length_cons, List.length_nil, Int.toNat_natCast, List.drop_zero, List.take_succ_cons, List.take_zero, List.take_length, List.nil_append, List.append_nil, Nat.zero_add, toNat_pred, toNat_succ, toNat_addn, toNat_subn] at hx); subst hx) | rw [List.take_length] | (rw [List.take_of_length_le]; rotate_left; (first | omega | (simp only [dlen, true_and, and_true, Nat.le_refl, List.length_map, List.length_append, List.length_cons, List.length_nil, List.length_take, List.length_drop, List.length_replicate, Int.toNat_natCast, List.append_nil] <;> omega) | fail)) | refine fun h => ?_ | fail); all_goals (try (conv => whnf))
  · exact rb (by simp only [fewS]; rw [decide_eq_false (p := ∀ j, _) (fun h => by have := h i (by omega); omega), Bool.and_false])
  · exact ⟨i + 1, ⟨⟨by omega, by omega, upto_succ hok (by omega)⟩, by omega⟩, (Forget.mk' ⟨⟨rfl, rfl⟩, ⟨rfl, rfl⟩, trivial⟩ trivial rfl rfl)⟩
  · exact rb (by simp only [fewS]; rw [decide_eq_false (p := t.length ≤ 300) (by omega), decide_eq_false (by omega), Bool.false_and])
  · exact rb (by simp only [fewS]; rw [decide_eq_true (p := ∀ j, _) (fun j hj => hok j (by omega)), Bool.and_true]; exact decide_eq_decide.2 (by omega))
def pl26 : Nat → Plan
  | 4 => .take 0 .pu (.take 1 .pu (.take 2 .pu (.take 3 .pu (.take 4 .pu (.take 5 .pu (.take 6 .pu (.done)))))))
  | 6 => .take 0 .pu (.take 1 .pu (.take 2 .pu (.take 3 .pu (.take 4 .pu (.take 5 .pu (.take 6 .pu (.done)))))))
  | _ => .done
theorem compare_con (a b : ByteArray) (ha : a.size ≤ 9223372036854775807) (hb : b.size ≤ 9223372036854775807) : Has Try.prog 26 [CV.d (D.str a), CV.d (D.str b)] (fun rs _ => rs = [CV.d (D.int .i64 (cmpS a b))]) := by
  refine Has_of_run (fn := Try.f26) (M := M0) fol (by kernel_rfl) 6 pl26 [] [] (by kernel_rfl) (Nat.le_of_ble_eq_true rfl) ?_
  repeat' ((conv => whnf); first | (refine And.intro (fun h => ?_) (fun h => ?_) <;> (try simp only [toNat_pred, toNat_succ, toNat_addn, toNat_subn, decide_eq_true_eq, decide_eq_false_iff_not, Bool.not_eq_true', Bool.not_eq_false', List.length_map, Int.toNat_natCast, Int.not_lt, Int.not_le, Bool.not_eq_true, Bool.false_eq_true, Bool.true_eq_false, Bool.not_true, Bool.not_false, reduceCtorEq, beq_iff_eq, Bool.not_eq_eq_eq_not, bne_iff_ne, ne_eq, decide_not, Decidable.not_not, Classical.not_not] at h)) | refine And.intro rfl ?_ | refine And.intro (Or.inr rfl) ?_ | refine And.intro (Nat.le_of_ble_eq_true rfl) ?_ | refine And.intro ⟨rfl, rfl⟩ ?_ | refine And.intro ⟨rfl, rfl, trivial⟩ ?_ | refine And.intro (Int.natCast_nonneg _) ?_ | refine Or.inl (And.intro rfl (And.intro rfl (And.intro rfl (And.intro rfl ?_)))) | refine Or.inl (And.intro rfl (And.intro rfl ?_)) | refine Or.inr (And.intro (Nat.le_of_ble_eq_true rfl) ?_) | refine Or.inl (And.intro (by unfold in64; omega) ?_) | refine And.intro (by first | omega | (simp only [dlen, true_and, and_true, Nat.le_refl, List.length_map, List.length_append, List.length_cons, List.length_nil, List.length_take, List.length_drop, List.length_replicate, Int.toNat_natCast, List.append_nil] <;> omega) | fail) ?_ | refine And.intro (show elemsP _ _ _ by repeat' (first | exact rfl | exact trivial | constructor)) ?_ | (refine Loops.by (M := M0) 6 pl26 fol (by kernel_rfl) (ι := Nat) (fun i => ⟨[(0, AV.d (D.str a)), (1, AV.d (D.str b)), (5, AV.d (D.int .i64 i))], [], 16⟩) (fun i => i ≤ a.size ∧ i ≤ b.size ∧ ∀ j, j < i → bAt a j = bAt b j) (fun i => a.size - i) (fun i hI => ?_) (0) ⟨Nat.zero_le _, Nat.zero_le _, fun j h => absurd h (Nat.not_lt_zero _)⟩ (Forget.mk' ⟨⟨rfl, rfl⟩, ⟨rfl, rfl⟩, ⟨rfl, rfl⟩, trivial⟩ trivial rfl rfl); obtain ⟨hia, hib, heq⟩ := hI) | (refine fun x hx => ?_; (try simp (disch := omega) only [if_true, if_false, Bool.false_eq_true, min_nn, max_nn, min_ln, min_nl, max_ln, max_nl, getD_map, take_bytes, wrap_u64, wrap_u32, shr_i64, shr_u64, shr_u32, shl_i64, shl_u64, Int.reduceToNat, Int.reducePow, Int.pow_succ, Int.pow_zero, Int.one_mul, Int.reduceMul, wrap_id, wrap_u8_nat, wrap_i64_u8, byteD_mk, map_snoc, map_app, set_map, List.length_map, List.length_append, List.length_cons, List.length_nil, Int.toNat_natCast, List.drop_zero, List.take_succ_cons, List.take_zero, List.take_length, List.nil_append, List.append_nil, Nat.zero_add, toNat_pred, toNat_succ, toNat_addn, toNat_subn] at hx); subst hx) | rw [List.take_length] | (rw [List.take_of_length_le]; rotate_left; (first | omega | (simp only [dlen, true_and, and_true, Nat.le_refl, List.length_map, List.length_append, List.length_cons, List.length_nil, List.length_take, List.length_drop, List.length_replicate, Int.toNat_natCast, List.append_nil] <;> omega) | fail)) | refine fun h => ?_ | fail); all_goals (try (conv => whnf))
  · exact ri (cmp_at heq (by omega) (by omega) (by assumption)).1.symm
  · exact ri (cmp_at (fun j hj => (heq j hj).symm) (by omega) (by omega) (by assumption)).2.symm
  · exact ⟨i + 1, ⟨⟨by omega, by omega, upto_succ heq (by omega)⟩, by omega⟩, (Forget.mk' ⟨⟨rfl, rfl⟩, ⟨rfl, rfl⟩, ⟨rfl, rfl⟩, trivial⟩ trivial rfl rfl)⟩
  all_goals refine ri ?_
  all_goals first | omega | (rw [cmp_end heq (by omega)]; repeat (first | rw [if_pos (by omega)] | rw [if_neg (by omega)]))
theorem same01_con (a b : List UInt8) : Has Try.prog 14 [CV.d (D.sl 1 (a.map byteD)), CV.d (D.sl 1 (b.map byteD))] (fun rs _ => rs = [CV.d (D.bool (decide (a = b)))]) := by
  refine Has_of_run (fn := Try.f14) (M := M0) fol (by kernel_rfl) 5 noPlan [] [] (by kernel_rfl) (Nat.le_of_ble_eq_true rfl) ?_
  repeat' ((conv => whnf); first | (refine And.intro (fun h => ?_) (fun h => ?_) <;> (try simp only [toNat_pred, toNat_succ, toNat_addn, toNat_subn, decide_eq_true_eq, decide_eq_false_iff_not, Bool.not_eq_true', Bool.not_eq_false', List.length_map, Int.toNat_natCast, Int.not_lt, Int.not_le, Bool.not_eq_true, Bool.false_eq_true, Bool.true_eq_false, Bool.not_true, Bool.not_false, reduceCtorEq, beq_iff_eq, Bool.not_eq_eq_eq_not, bne_iff_ne, ne_eq, decide_not, Decidable.not_not, Classical.not_not] at h)) | refine And.intro rfl ?_ | refine And.intro (Or.inr rfl) ?_ | refine And.intro (Nat.le_of_ble_eq_true rfl) ?_ | refine And.intro ⟨rfl, rfl⟩ ?_ | refine And.intro ⟨rfl, rfl, trivial⟩ ?_ | refine And.intro (Int.natCast_nonneg _) ?_ | refine Or.inl (And.intro rfl (And.intro rfl (And.intro rfl (And.intro rfl ?_)))) | refine Or.inl (And.intro rfl (And.intro rfl ?_)) | refine Or.inr (And.intro (Nat.le_of_ble_eq_true rfl) ?_) | refine Or.inl (And.intro (by unfold in64; omega) ?_) | refine And.intro (by first | omega | (simp only [dlen, true_and, and_true, Nat.le_refl, List.length_map, List.length_append, List.length_cons, List.length_nil, List.length_take, List.length_drop, List.length_replicate, Int.toNat_natCast, List.append_nil] <;> omega) | fail) ?_ | refine And.intro (show elemsP _ _ _ by repeat' (first | exact rfl | exact trivial | constructor)) ?_ | (refine And.intro (allU8_bytes _) ?_) | (refine fun x hx => ?_; (try simp (disch := omega) only [if_true, if_false, Bool.false_eq_true, min_nn, max_nn, min_ln, min_nl, max_ln, max_nl, getD_map, take_bytes, wrap_u64, wrap_u32, shr_i64, shr_u64, shr_u32, shl_i64, shl_u64, Int.reduceToNat, Int.reducePow, Int.pow_succ, Int.pow_zero, Int.one_mul, Int.reduceMul, wrap_id, wrap_u8_nat, wrap_i64_u8, byteD_mk, map_snoc, map_app, set_map, List.length_map, List.length_append, List.length_cons, List.length_nil, Int.toNat_natCast, List.drop_zero, List.take_succ_cons, List.take_zero, List.take_length, List.nil_append, List.append_nil, Nat.zero_add, toNat_pred, toNat_succ, toNat_addn, toNat_subn] at hx); subst hx) | rw [List.take_length] | (rw [List.take_of_length_le]; rotate_left; (first | omega | (simp only [dlen, true_and, and_true, Nat.le_refl, List.length_map, List.length_append, List.length_cons, List.length_nil, List.length_take, List.length_drop, List.length_replicate, Int.toNat_natCast, List.append_nil] <;> omega) | fail)) | refine fun h => ?_ | fail); all_goals (try (conv => whnf))
  exact rb (by rw [str_of_bytes, str_of_bytes]; exact decide_eq_decide.2 mk_inj)
def pl17 : Nat → Plan
  | 6 => .take 0 .pu (.take 1 .pu (.take 2 .pu (.take 3 .rd (.take 4 .pu (.take 5 .pu (.take 6 .pu (.take 7 .rd (.take 8 .pu (.done)))))))))
  | _ => .done
theorem same07_con (a b : List ByteArray) : Has Try.prog 17 [CV.d (D.sl 1 (a.map D.str)), CV.d (D.sl 1 (b.map D.str))] (fun rs _ => rs = [CV.d (D.bool (decide (a = b)))]) := by
  refine Has_of_run (fn := Try.f17) (M := M0) fol (by kernel_rfl) 6 pl17 [] [] (by kernel_rfl) (Nat.le_of_ble_eq_true rfl) ?_
  repeat' ((conv => whnf); first | (refine And.intro (fun h => ?_) (fun h => ?_) <;> (try simp only [toNat_pred, toNat_succ, toNat_addn, toNat_subn, decide_eq_true_eq, decide_eq_false_iff_not, Bool.not_eq_true', Bool.not_eq_false', List.length_map, Int.toNat_natCast, Int.not_lt, Int.not_le, Bool.not_eq_true, Bool.false_eq_true, Bool.true_eq_false, Bool.not_true, Bool.not_false, reduceCtorEq, beq_iff_eq, Bool.not_eq_eq_eq_not, bne_iff_ne, ne_eq, decide_not, Decidable.not_not, Classical.not_not] at h)) | refine And.intro rfl ?_ | refine And.intro (Or.inr rfl) ?_ | refine And.intro (Nat.le_of_ble_eq_true rfl) ?_ | refine And.intro ⟨rfl, rfl⟩ ?_ | refine And.intro ⟨rfl, rfl, trivial⟩ ?_ | refine And.intro (Int.natCast_nonneg _) ?_ | refine Or.inl (And.intro rfl (And.intro rfl (And.intro rfl (And.intro rfl ?_)))) | refine Or.inl (And.intro rfl (And.intro rfl ?_)) | refine Or.inr (And.intro (Nat.le_of_ble_eq_true rfl) ?_) | refine Or.inl (And.intro (by unfold in64; omega) ?_) | refine And.intro (by first | omega | (simp only [dlen, true_and, and_true, Nat.le_refl, List.length_map, List.length_append, List.length_cons, List.length_nil, List.length_take, List.length_drop, List.length_replicate, Int.toNat_natCast, List.append_nil] <;> omega) | fail) ?_ | refine And.intro (show elemsP _ _ _ by repeat' (first | exact rfl | exact trivial | constructor)) ?_ | (refine Loops.by (M := M0) 6 pl17 fol (by kernel_rfl) (ι := Nat) (fun i => ⟨[(0, AV.d (D.sl 1 (a.map D.str))), (1, AV.d (D.sl 1 (b.map D.str))), (5, AV.d (D.int .i64 i))], [], 16⟩) (fun i => i ≤ a.length ∧ ∀ j, j < i → a.getD j default = b.getD j default) (fun i => a.length - i) (fun i hI => ?_) (0) ⟨Nat.zero_le _, fun j h => absurd h (Nat.not_lt_zero _)⟩ (Forget.mk' ⟨⟨rfl, rfl⟩, ⟨rfl, rfl⟩, ⟨rfl, rfl⟩, trivial⟩ trivial rfl rfl); obtain ⟨hi, hok⟩ := hI) | (refine fun x hx => ?_; (try simp (disch := omega) only [if_true, if_false, Bool.false_eq_true, min_nn, max_nn, min_ln, min_nl, max_ln, max_nl, getD_map, take_bytes, wrap_u64, wrap_u32, shr_i64, shr_u64, shr_u32, shl_i64, shl_u64, Int.reduceToNat, Int.reducePow, Int.pow_succ, Int.pow_zero, Int.one_mul, Int.reduceMul, wrap_id, wrap_u8_nat, wrap_i64_u8, byteD_mk, map_snoc, map_app, set_map, List.length_map, List.length_append, List.length_cons, List.length_nil, Int.toNat_natCast, List.drop_zero, List.take_succ_cons, List.take_zero, List.take_length, List.nil_append, List.append_nil, Nat.zero_add, toNat_pred, toNat_succ, toNat_addn, toNat_subn] at hx); subst hx) | rw [List.take_length] | (rw [List.take_of_length_le]; rotate_left; (first | omega | (simp only [dlen, true_and, and_true, Nat.le_refl, List.length_map, List.length_append, List.length_cons, List.length_nil, List.length_take, List.length_drop, List.length_replicate, Int.toNat_natCast, List.append_nil] <;> omega) | fail)) | refine fun h => ?_ | fail); all_goals (try (conv => whnf))
  · exact rb (by rw [decide_eq_false]; rintro rfl; simp_all)
  · exact rb (by rw [decide_eq_false]; rintro rfl; simp_all)
  · exact ⟨i + 1, ⟨⟨by omega, upto_succ hok (by assumption)⟩, by omega⟩, (Forget.mk' ⟨⟨rfl, rfl⟩, ⟨rfl, rfl⟩, ⟨rfl, rfl⟩, trivial⟩ trivial rfl rfl)⟩
  · exact rb (by rw [decide_eq_true]; exact ext_getD (by omega) (fun j hj => hok j (by omega)))
end Go.Fw
namespace Go.Fw
open Go Go.Proofs
set_option maxHeartbeats 10000000
set_option maxRecDepth 100000
set_option linter.constructorNameAsVariable false
set_option linter.unusedVariables false
set_option linter.unusedSimpArgs false
theorem nan_con (s : ByteArray) : Has Try.prog 48 [CV.d (D.str s)] (fun rs _ => rs = [CV.d (D.bool false)]) := by
  refine Has_of_run (fn := Try.f48) (M := M0) fol (by kernel_rfl) 3 noPlan [] [] (by kernel_rfl) (Nat.le_of_ble_eq_true rfl) ?_
  repeat' ((conv => whnf); first | (refine And.intro (fun h => ?_) (fun h => ?_) <;> (try simp only [toNat_pred, toNat_succ, toNat_addn, toNat_subn, decide_eq_true_eq, decide_eq_false_iff_not, Bool.not_eq_true', Bool.not_eq_false', List.length_map, Int.toNat_natCast, Int.not_lt, Int.not_le, Bool.not_eq_true, Bool.false_eq_true, Bool.true_eq_false, Bool.not_true, Bool.not_false, reduceCtorEq, beq_iff_eq, Bool.not_eq_eq_eq_not, bne_iff_ne, ne_eq, decide_not, Decidable.not_not, Classical.not_not] at h)) | refine And.intro rfl ?_ | refine And.intro (Or.inr rfl) ?_ | refine And.intro (Nat.le_of_ble_eq_true rfl) ?_ | refine And.intro ⟨rfl, rfl⟩ ?_ | refine And.intro ⟨rfl, rfl, trivial⟩ ?_ | refine And.intro (Int.natCast_nonneg _) ?_ | refine Or.inl (And.intro rfl (And.intro rfl (And.intro rfl (And.intro rfl ?_)))) | refine Or.inl (And.intro rfl (And.intro rfl ?_)) | refine Or.inr (And.intro (Nat.le_of_ble_eq_true rfl) ?_) | refine Or.inl (And.intro (by unfold in64; omega) ?_) | refine And.intro (by first | omega | (simp only [dlen, true_and, and_true, Nat.le_refl, List.length_map, List.length_append, List.length_cons, List.length_nil, List.length_take, List.length_drop, List.length_replicate, Int.toNat_natCast, List.append_nil] <;> omega) | fail) ?_ | refine And.intro (show elemsP _ _ _ by repeat' (first | exact rfl | exact trivial | constructor)) ?_ | (refine fun x hx => ?_; (try simp (disch := omega) only [if_true, if_false, Bool.false_eq_true, min_nn, max_nn, min_ln, min_nl, max_ln, max_nl, getD_map, take_bytes, wrap_u64, wrap_u32, shr_i64, shr_u64, shr_u32, shl_i64, shl_u64, Int.reduceToNat, Int.reducePow, Int.pow_succ, Int.pow_zero, Int.one_mul, Int.reduceMul, wrap_id, wrap_u8_nat, wrap_i64_u8, byteD_mk, map_snoc, map_app, set_map, List.length_map, List.length_append, List.length_cons, List.length_nil, Int.toNat_natCast, List.drop_zero, List.take_succ_cons, List.take_zero, List.take_length, List.nil_append, List.append_nil, Nat.zero_add, toNat_pred, toNat_succ, toNat_addn, toNat_subn] at hx); subst hx) | rw [List.take_length] | (rw [List.take_of_length_le]; rotate_left; (first | omega | (simp only [dlen, true_and, and_true, Nat.le_refl, List.length_map, List.length_append, List.length_cons, List.length_nil, List.length_take, List.length_drop, List.length_replicate, Int.toNat_natCast, List.append_nil] <;> omega) | fail)) | refine fun h => ?_ | fail); all_goals (try (conv => whnf))
  exact rb (by simp)
theorem nan2_con (s : ByteArray) : Has Try.prog 37 [CV.d (D.str s)] (fun rs _ => rs = [CV.d (D.bool false)]) := by
  refine Has_of_run (fn := Try.f37) (M := M0) fol (by kernel_rfl) 3 noPlan [] [] (by kernel_rfl) (Nat.le_of_ble_eq_true rfl) ?_
  repeat' ((conv => whnf); first | (refine And.intro (fun h => ?_) (fun h => ?_) <;> (try simp only [toNat_pred, toNat_succ, toNat_addn, toNat_subn, decide_eq_true_eq, decide_eq_false_iff_not, Bool.not_eq_true', Bool.not_eq_false', List.length_map, Int.toNat_natCast, Int.not_lt, Int.not_le, Bool.not_eq_true, Bool.false_eq_true, Bool.true_eq_false, Bool.not_true, Bool.not_false, reduceCtorEq, beq_iff_eq, Bool.not_eq_eq_eq_not, bne_iff_ne, ne_eq, decide_not, Decidable.not_not, Classical.not_not] at h)) | refine And.intro rfl ?_ | refine And.intro (Or.inr rfl) ?_ | refine And.intro (Nat.le_of_ble_eq_true rfl) ?_ | refine And.intro ⟨rfl, rfl⟩ ?_ | refine And.intro ⟨rfl, rfl, trivial⟩ ?_ | refine And.intro (Int.natCast_nonneg _) ?_ | refine Or.inl (And.intro rfl (And.intro rfl (And.intro rfl (And.intro rfl ?_)))) | refine Or.inl (And.intro rfl (And.intro rfl ?_)) | refine Or.inr (And.intro (Nat.le_of_ble_eq_true rfl) ?_) | refine Or.inl (And.intro (by unfold in64; omega) ?_) | refine And.intro (by first | omega | (simp only [dlen, true_and, and_true, Nat.le_refl, List.length_map, List.length_append, List.length_cons, List.length_nil, List.length_take, List.length_drop, List.length_replicate, Int.toNat_natCast, List.append_nil] <;> omega) | fail) ?_ | refine And.intro (show elemsP _ _ _ by repeat' (first | exact rfl | exact trivial | constructor)) ?_ | (refine fun x hx => ?_; (try simp (disch := omega) only [if_true, if_false, Bool.false_eq_true, min_nn, max_nn, min_ln, min_nl, max_ln, max_nl, getD_map, take_bytes, wrap_u64, wrap_u32, shr_i64, shr_u64, shr_u32, shl_i64, shl_u64, Int.reduceToNat, Int.reducePow, Int.pow_succ, Int.pow_zero, Int.one_mul, Int.reduceMul, wrap_id, wrap_u8_nat, wrap_i64_u8, byteD_mk, map_snoc, map_app, set_map, List.length_map, List.length_append, List.length_cons, List.length_nil, Int.toNat_natCast, List.drop_zero, List.take_succ_cons, List.take_zero, List.take_length, List.nil_append, List.append_nil, Nat.zero_add, toNat_pred, toNat_succ, toNat_addn, toNat_subn] at hx); subst hx) | rw [List.take_length] | (rw [List.take_of_length_le]; rotate_left; (first | omega | (simp only [dlen, true_and, and_true, Nat.le_refl, List.length_map, List.length_append, List.length_cons, List.length_nil, List.length_take, List.length_drop, List.length_replicate, Int.toNat_natCast, List.append_nil] <;> omega) | fail)) | refine fun h => ?_ | fail); all_goals (try (conv => whnf))
  exact rb (by simp)
theorem less_con (a b : ByteArray) : Has Try.prog 36 [CV.d (D.str a), CV.d (D.str b)] (fun rs _ => rs = [CV.d (D.bool (slt a b))]) := by
  refine Has_of_run (fn := Try.f36) (M := M0) fol (by kernel_rfl) 5 noPlan [] [] (by kernel_rfl) (Nat.le_of_ble_eq_true rfl) ?_
  repeat' ((conv => whnf); first | (refine And.intro (fun h => ?_) (fun h => ?_) <;> (try simp only [toNat_pred, toNat_succ, toNat_addn, toNat_subn, decide_eq_true_eq, decide_eq_false_iff_not, Bool.not_eq_true', Bool.not_eq_false', List.length_map, Int.toNat_natCast, Int.not_lt, Int.not_le, Bool.not_eq_true, Bool.false_eq_true, Bool.true_eq_false, Bool.not_true, Bool.not_false, reduceCtorEq, beq_iff_eq, Bool.not_eq_eq_eq_not, bne_iff_ne, ne_eq, decide_not, Decidable.not_not, Classical.not_not] at h)) | refine And.intro rfl ?_ | refine And.intro (Or.inr rfl) ?_ | refine And.intro (Nat.le_of_ble_eq_true rfl) ?_ | refine And.intro ⟨rfl, rfl⟩ ?_ | refine And.intro ⟨rfl, rfl, trivial⟩ ?_ | refine And.intro (Int.natCast_nonneg _) ?_ | refine Or.inl (And.intro rfl (And.intro rfl (And.intro rfl (And.intro rfl ?_)))) | refine Or.inl (And.intro rfl (And.intro rfl ?_)) | refine Or.inr (And.intro (Nat.le_of_ble_eq_true rfl) ?_) | refine Or.inl (And.intro (by unfold in64; omega) ?_) | refine And.intro (by first | omega | (simp only [dlen, true_and, and_true, Nat.le_refl, List.length_map, List.length_append, List.length_cons, List.length_nil, List.length_take, List.length_drop, List.length_replicate, Int.toNat_natCast, List.append_nil] <;> omega) | fail) ?_ | refine And.intro (show elemsP _ _ _ by repeat' (first | exact rfl | exact trivial | constructor)) ?_ | (refine (nan_con _).mono fun rs bs hr => ?_; subst hr) | (refine fun x hx => ?_; (try simp (disch := omega) only [if_true, if_false, Bool.false_eq_true, min_nn, max_nn, min_ln, min_nl, max_ln, max_nl, getD_map, take_bytes, wrap_u64, wrap_u32, shr_i64, shr_u64, shr_u32, shl_i64, shl_u64, Int.reduceToNat, Int.reducePow, Int.pow_succ, Int.pow_zero, Int.one_mul, Int.reduceMul, wrap_id, wrap_u8_nat, wrap_i64_u8, byteD_mk, map_snoc, map_app, set_map, List.length_map, List.length_append, List.length_cons, List.length_nil, Int.toNat_natCast, List.drop_zero, List.take_succ_cons, List.take_zero, List.take_length, List.nil_append, List.append_nil, Nat.zero_add, toNat_pred, toNat_succ, toNat_addn, toNat_subn] at hx); subst hx) | rw [List.take_length] | (rw [List.take_of_length_le]; rotate_left; (first | omega | (simp only [dlen, true_and, and_true, Nat.le_refl, List.length_map, List.length_append, List.length_cons, List.length_nil, List.length_take, List.length_drop, List.length_replicate, Int.toNat_natCast, List.append_nil] <;> omega) | fail)) | refine fun h => ?_ | fail); all_goals (try (conv => whnf))
theorem bs_con (t : List ByteArray) (x : ByteArray) (hl : t.length ≤ 1000000000) (hr : Rises t) : Has Try.prog 29 [CV.d (D.sl 1 (t.map D.str)), CV.d (D.str x)] (fun rs _ => ∃ i : Nat, rs = [CV.d (D.int .i64 i), CV.d (D.bool (decide (i < t.length) && decide (t.getD i default = x)))] ∧ i ≤ t.length ∧ ∀ j, j < t.length → (slt (t.getD j default) x = true ↔ j < i)) := by
  refine Has_of_run (fn := Try.f29) (M := M0) fol (by kernel_rfl) 10 noPlan [] [] (by kernel_rfl) (Nat.le_of_ble_eq_true rfl) ?_
  repeat' ((conv => whnf); first | (refine And.intro (fun h => ?_) (fun h => ?_) <;> (try simp only [toNat_pred, toNat_succ, toNat_addn, toNat_subn, decide_eq_true_eq, decide_eq_false_iff_not, Bool.not_eq_true', Bool.not_eq_false', List.length_map, Int.toNat_natCast, Int.not_lt, Int.not_le, Bool.not_eq_true, Bool.false_eq_true, Bool.true_eq_false, Bool.not_true, Bool.not_false, reduceCtorEq, beq_iff_eq, Bool.not_eq_eq_eq_not, bne_iff_ne, ne_eq, decide_not, Decidable.not_not, Classical.not_not] at h)) | refine And.intro rfl ?_ | refine And.intro (Or.inr rfl) ?_ | refine And.intro (Nat.le_of_ble_eq_true rfl) ?_ | refine And.intro ⟨rfl, rfl⟩ ?_ | refine And.intro ⟨rfl, rfl, trivial⟩ ?_ | refine And.intro (Int.natCast_nonneg _) ?_ | refine Or.inl (And.intro rfl (And.intro rfl (And.intro rfl (And.intro rfl ?_)))) | refine Or.inl (And.intro rfl (And.intro rfl ?_)) | refine Or.inr (And.intro (Nat.le_of_ble_eq_true rfl) ?_) | refine Or.inl (And.intro (by unfold in64; omega) ?_) | refine And.intro (by first | omega | (simp only [dlen, true_and, and_true, Nat.le_refl, List.length_map, List.length_append, List.length_cons, List.length_nil, List.length_take, List.length_drop, List.length_replicate, Int.toNat_natCast, List.append_nil] <;> omega) | fail) ?_ | refine And.intro (show elemsP _ _ _ by repeat' (first | exact rfl | exact trivial | constructor)) ?_ | (refine (less_con _ _).mono fun rs bs hr => ?_; subst hr) | (refine (nan2_con _).mono fun rs bs hr => ?_; subst hr) | (refine Loops.by (M := M0) 10 noPlan fol (by kernel_rfl) (ι := Nat × Nat) (fun ⟨lo, hi⟩ => ⟨[(0, AV.d (D.sl 1 (t.map D.str))), (1, AV.d (D.str x)), (6, AV.d (D.int .i64 t.length)), (7, AV.d (D.int .i64 lo)), (8, AV.d (D.int .i64 hi))], [], 16⟩) (fun ⟨lo, hi⟩ => lo ≤ hi ∧ hi ≤ t.length ∧ (∀ j, j < lo → slt (t.getD j default) x = true) ∧ (∀ j, hi ≤ j → j < t.length → slt (t.getD j default) x = false)) (fun ⟨lo, hi⟩ => hi - lo) (fun p hI => ?_) ((0, t.length)) ⟨Nat.zero_le _, Nat.le_refl _, fun j h => absurd h (Nat.not_lt_zero _), fun j h h' => by omega⟩ (Forget.mk' ⟨⟨rfl, rfl⟩, ⟨rfl, rfl⟩, ⟨rfl, rfl⟩, ⟨rfl, rfl⟩, ⟨rfl, rfl⟩, trivial⟩ trivial rfl rfl); obtain ⟨lo, hi⟩ := p; obtain ⟨h1, h2, h3, h4⟩ := hI) | (refine fun x hx => ?_; (try simp (disch := omega) only [if_true, if_false, Bool.false_eq_true, min_nn, max_nn, min_ln, min_nl, max_ln, max_nl, getD_map, take_bytes, wrap_u64, wrap_u32, shr_i64, shr_u64, shr_u32, shl_i64, shl_u64, Int.reduceToNat, Int.reducePow, Int.pow_succ, Int.pow_zero, Int.one_mul, Int.reduceMul, wrap_id, wrap_u8_nat, wrap_i64_u8, byteD_mk, map_snoc, map_app, set_map, List.length_map, List.length_append, List.length_cons, List.length_nil, Int.toNat_natCast, List.drop_zero, List.take_succ_cons, List.take_zero, List.take_length, List.nil_append, List.append_nil, Nat.zero_add, toNat_pred, toNat_succ, toNat_addn, toNat_subn] at hx); subst hx) | rw [List.take_length] | (rw [List.take_of_length_le]; rotate_left; (first | omega | (simp only [dlen, true_and, and_true, Nat.le_refl, List.length_map, List.length_append, List.length_cons, List.length_nil, List.length_take, List.length_drop, List.length_replicate, Int.toNat_natCast, List.append_nil] <;> omega) | fail)) | refine fun h => ?_ | fail); all_goals (try (conv => whnf))
  · refine ⟨((lo + hi) / 2 + 1, hi), ⟨⟨by show _ ≤ hi; omega, h2, half_up hr (by omega) ?_, h4⟩, by show hi - ((lo + hi) / 2 + 1) < hi - lo; omega⟩, (Forget.mk' ⟨⟨rfl, rfl⟩, ⟨rfl, rfl⟩, ⟨rfl, rfl⟩, ⟨rfl, rfl⟩, ⟨rfl, rfl⟩, trivial⟩ trivial rfl rfl)⟩
    rwa [half_nat] at h
  · refine ⟨(lo, (lo + hi) / 2), ⟨⟨by show lo ≤ _; omega, by show (lo + hi) / 2 ≤ _; omega, h3, half_down hr ?_⟩, by show (lo + hi) / 2 - lo < hi - lo; omega⟩, (Forget.mk' ⟨⟨rfl, rfl⟩, ⟨rfl, rfl⟩, ⟨rfl, rfl⟩, ⟨rfl, rfl⟩, ⟨rfl, rfl⟩, trivial⟩ trivial rfl rfl)⟩
    rwa [half_nat] at h
  · exact ⟨lo, by rw [decide_eq_false (p := t.getD lo default = x) (by assumption), Bool.and_false], by omega, half_end (by omega) h3 h4⟩
  · exact ⟨lo, by rw [decide_eq_true (p := t.getD lo default = x) (by assumption), decide_eq_true (p := lo < t.length) (by omega)]; rfl, by omega, half_end (by omega) h3 h4⟩
  · exact ⟨lo, by rw [decide_eq_false (p := lo < t.length) (by omega), Bool.false_and], by omega, half_end (by omega) h3 h4⟩
theorem longest_con (t : List ByteArray) (x : ByteArray) (hl : t.length ≤ 1000000000) (hr : Rises t) : Has Try.prog 19 [CV.d (D.sl 1 (t.map D.str)), CV.d (D.str x)] (fun rs _ => Found t x rs) := by
  refine Has_of_run (fn := Try.f19) (M := M0) fol (by kernel_rfl) 9 noPlan [] [] (by kernel_rfl) (Nat.le_of_ble_eq_true rfl) ?_
  repeat' ((conv => whnf); first | (refine And.intro (fun h => ?_) (fun h => ?_) <;> (try simp only [toNat_pred, toNat_succ, toNat_addn, toNat_subn, decide_eq_true_eq, decide_eq_false_iff_not, Bool.not_eq_true', Bool.not_eq_false', List.length_map, Int.toNat_natCast, Int.not_lt, Int.not_le, Bool.not_eq_true, Bool.false_eq_true, Bool.true_eq_false, Bool.not_true, Bool.not_false, reduceCtorEq, beq_iff_eq, Bool.not_eq_eq_eq_not, bne_iff_ne, ne_eq, decide_not, Decidable.not_not, Classical.not_not] at h)) | refine And.intro rfl ?_ | refine And.intro (Or.inr rfl) ?_ | refine And.intro (Nat.le_of_ble_eq_true rfl) ?_ | refine And.intro ⟨rfl, rfl⟩ ?_ | refine And.intro ⟨rfl, rfl, trivial⟩ ?_ | refine And.intro (Int.natCast_nonneg _) ?_ | refine Or.inl (And.intro rfl (And.intro rfl (And.intro rfl (And.intro rfl ?_)))) | refine Or.inl (And.intro rfl (And.intro rfl ?_)) | refine Or.inr (And.intro (Nat.le_of_ble_eq_true rfl) ?_) | refine Or.inl (And.intro (by unfold in64; omega) ?_) | refine And.intro (by first | omega | (simp only [dlen, true_and, and_true, Nat.le_refl, List.length_map, List.length_append, List.length_cons, List.length_nil, List.length_take, List.length_drop, List.length_replicate, Int.toNat_natCast, List.append_nil] <;> omega) | fail) ?_ | refine And.intro (show elemsP _ _ _ by repeat' (first | exact rfl | exact trivial | constructor)) ?_ | (refine (bs_con t _ hl hr).mono fun rs bs hrs => ?_; obtain ⟨i, rfl, hi, hb⟩ := hrs) | (refine Loops.by (M := M0) 9 noPlan fol (by kernel_rfl) (ι := Nat) (fun n => ⟨[(0, AV.d (D.sl 1 (t.map D.str))), (1, AV.d (D.str x)), (6, AV.d (D.int .i64 n))], [], 16⟩) (fun n => n ≤ min 8 x.size ∧ ∀ m, n < m → m ≤ 8 → m ≤ x.size → NoBeg t x m) (fun n => n) (fun n hI => ?_) ((min 8 x.size)) ⟨Nat.le_refl _, fun m h1 h2 h3 => by omega⟩ (Forget.mk' ⟨⟨rfl, rfl⟩, ⟨rfl, rfl⟩, ⟨rfl, rfl⟩, trivial⟩ trivial rfl rfl); obtain ⟨hn, hno⟩ := hI) | (refine fun x hx => ?_; (try simp (disch := omega) only [if_true, if_false, Bool.false_eq_true, min_nn, max_nn, min_ln, min_nl, max_ln, max_nl, getD_map, take_bytes, wrap_u64, wrap_u32, shr_i64, shr_u64, shr_u32, shl_i64, shl_u64, Int.reduceToNat, Int.reducePow, Int.pow_succ, Int.pow_zero, Int.one_mul, Int.reduceMul, wrap_id, wrap_u8_nat, wrap_i64_u8, byteD_mk, map_snoc, map_app, set_map, List.length_map, List.length_append, List.length_cons, List.length_nil, Int.toNat_natCast, List.drop_zero, List.take_succ_cons, List.take_zero, List.take_length, List.nil_append, List.append_nil, Nat.zero_add, toNat_pred, toNat_succ, toNat_addn, toNat_subn] at hx); subst hx) | rw [List.take_length] | (rw [List.take_of_length_le]; rotate_left; (first | omega | (simp only [dlen, true_and, and_true, Nat.le_refl, List.length_map, List.length_append, List.length_cons, List.length_nil, List.length_take, List.length_drop, List.length_replicate, Int.toNat_natCast, List.append_nil] <;> omega) | fail)) | refine fun h => ?_ | fail); all_goals (try (conv => whnf))
  · simp only [Bool.and_eq_true, decide_eq_true_eq] at h
    exact .inl ⟨i, n, rfl, by omega, by omega, by omega, h.1, h.2, hno⟩
  · rw [show (n : Int) - 1 = ((n - 1 : Nat) : Int) by omega]
    refine ⟨n - 1, ⟨⟨by omega, fun m h1 h2 h3 => ?_⟩, by omega⟩, (Forget.mk' ⟨⟨rfl, rfl⟩, ⟨rfl, rfl⟩, ⟨rfl, rfl⟩, trivial⟩ trivial rfl rfl)⟩
    by_cases e : m = n
    · rw [e]
      refine noBeg_of hr hb fun hf => ?_
      rw [decide_eq_true hf.1, decide_eq_true hf.2] at h
      cases h
    · exact hno m (by omega) h2 h3
  · exact .inr ⟨rfl, fun m h1 h2 h3 => hno m (by omega) h2 h3⟩
end Go.Fw
namespace Go.Fw
open Go Go.Proofs
set_option maxHeartbeats 10000000
set_option maxRecDepth 100000
set_option linter.constructorNameAsVariable false
set_option linter.unusedVariables false
set_option linter.unusedSimpArgs false
theorem putRef_con (t : List ByteArray) (h255 : t.length ≤ 255) (h8 : ∀ s ∈ t, s.size ≤ 8) : Has Try.prog 15 [CV.d (D.sl 1 (t.map D.str))] (fun rs _ => rs = [CV.own 5 1 ((putB t).map byteD)] ) := by
  have hb5 : Try.prog.bytesOf 5 = 1 := by kernel_rfl
  refine Has_of_run (fn := Try.f15) (M := M0) fol (by kernel_rfl) 5 noPlan [.own] [] (by kernel_rfl) (Nat.le_of_ble_eq_true rfl) ?_
  repeat' ((conv => whnf); first | (refine And.intro (fun h => ?_) (fun h => ?_) <;> (try simp only [toNat_pred, toNat_succ, toNat_addn, toNat_subn, decide_eq_true_eq, decide_eq_false_iff_not, Bool.not_eq_true', Bool.not_eq_false', List.length_map, Int.toNat_natCast, Int.not_lt, Int.not_le, Bool.not_eq_true, Bool.false_eq_true, Bool.true_eq_false, Bool.not_true, Bool.not_false, reduceCtorEq, beq_iff_eq, Bool.not_eq_eq_eq_not, bne_iff_ne, ne_eq, decide_not, Decidable.not_not, Classical.not_not] at h)) | refine And.intro rfl ?_ | refine And.intro (Or.inr rfl) ?_ | refine And.intro (Nat.le_of_ble_eq_true rfl) ?_ | refine And.intro ⟨rfl, rfl⟩ ?_ | refine And.intro ⟨rfl, rfl, trivial⟩ ?_ | refine And.intro (Int.natCast_nonneg _) ?_ | refine Or.inl (And.intro rfl (And.intro rfl (And.intro rfl (And.intro rfl ?_)))) | refine Or.inl (And.intro rfl (And.intro rfl ?_)) | refine Or.inr (And.intro (Nat.le_of_ble_eq_true rfl) ?_) | refine Or.inl (And.intro (by unfold in64; omega) ?_) | refine And.intro (by first | omega | (simp only [dlen, true_and, and_true, Nat.le_refl, List.length_map, List.length_append, List.length_cons, List.length_nil, List.length_take, List.length_drop, List.length_replicate, Int.toNat_natCast, List.append_nil, hb5] <;> omega) | fail) ?_ | refine And.intro (show elemsP _ _ _ by repeat' (first | exact rfl | exact trivial | constructor)) ?_ | (refine Loops.by (M := M0) 5 noPlan fol (by kernel_rfl) (ι := Nat) (fun i => ⟨[(0, AV.d (D.sl 1 (t.map D.str))), (3, AV.ref [3] 16 1 0 ((UInt8.ofNat t.length :: (t.take i).flatMap putF).map byteD).length), (4, AV.d (D.int .i64 i))], [([3], 16, AO.row 5 1 ((UInt8.ofNat t.length :: (t.take i).flatMap putF).map byteD))], 17⟩) (fun i => i ≤ t.length) (fun i => t.length - i) (fun i hI => ?_) (0) (Nat.zero_le _) (Forget.mk' ⟨⟨rfl, rfl⟩, ⟨rfl, rfl⟩, ⟨rfl, rfl⟩, trivial⟩ ⟨⟨rfl, rfl, rfl⟩, trivial⟩ rfl rfl); have hu := puts_upto h8 i; have hz : t.length ≤ i ∨ (t.getD i default).size ≤ 8 := (Nat.lt_or_ge i t.length).elim (fun h => .inr (h8 _ (getD_mem h))) .inl) | (refine fun x hx => ?_; (try simp (disch := omega) only [if_true, if_false, Bool.false_eq_true, min_nn, max_nn, min_ln, min_nl, max_ln, max_nl, getD_map, take_bytes, wrap_u64, wrap_u32, shr_i64, shr_u64, shr_u32, shl_i64, shl_u64, Int.reduceToNat, Int.reducePow, Int.pow_succ, Int.pow_zero, Int.one_mul, Int.reduceMul, wrap_id, wrap_u8_nat, wrap_i64_u8, byteD_mk, map_snoc, map_app, set_map, List.length_map, List.length_append, List.length_cons, List.length_nil, Int.toNat_natCast, List.drop_zero, List.take_succ_cons, List.take_zero, List.take_length, List.nil_append, List.append_nil, Nat.zero_add, toNat_pred, toNat_succ, toNat_addn, toNat_subn] at hx); subst hx) | rw [List.take_length] | (rw [List.take_of_length_le]; rotate_left; (first | omega | (simp only [dlen, true_and, and_true, Nat.le_refl, List.length_map, List.length_append, List.length_cons, List.length_nil, List.length_take, List.length_drop, List.length_replicate, Int.toNat_natCast, List.append_nil, hb5] <;> omega) | fail)) | refine fun h => ?_ | fail); all_goals (try (conv => whnf))
  · refine ⟨i + 1, ⟨by omega, by omega⟩, ?_⟩
    rw [puts_step (by omega)]
    exact (Forget.mk' ⟨⟨rfl, rfl⟩, ⟨rfl, rfl⟩, ⟨rfl, rfl⟩, trivial⟩ ⟨⟨rfl, rfl, rfl⟩, trivial⟩ rfl rfl)
  · rfl
theorem put_con (t : List ByteArray) : Has Try.prog 11 [CV.d (D.sl 1 (t.map D.str))] (fun rs _ => rs = if rightS t then [CV.own 5 1 ((putB t).map byteD), CV.d (D.int .i64 0)] else [CV.own 5 1 (([]).map byteD), CV.d (D.int .i64 1)] ) := by
  have hb5 : Try.prog.bytesOf 5 = 1 := by kernel_rfl
  refine Has_of_run (fn := Try.f11) (M := M0) fol (by kernel_rfl) 7 noPlan [.own] [] (by kernel_rfl) (Nat.le_of_ble_eq_true rfl) ?_
  repeat' ((conv => whnf); first | (refine And.intro (fun h => ?_) (fun h => ?_) <;> (try simp only [toNat_pred, toNat_succ, toNat_addn, toNat_subn, decide_eq_true_eq, decide_eq_false_iff_not, Bool.not_eq_true', Bool.not_eq_false', List.length_map, Int.toNat_natCast, Int.not_lt, Int.not_le, Bool.not_eq_true, Bool.false_eq_true, Bool.true_eq_false, Bool.not_true, Bool.not_false, reduceCtorEq, beq_iff_eq, Bool.not_eq_eq_eq_not, bne_iff_ne, ne_eq, decide_not, Decidable.not_not, Classical.not_not] at h)) | refine And.intro rfl ?_ | refine And.intro (Or.inr rfl) ?_ | refine And.intro (Nat.le_of_ble_eq_true rfl) ?_ | refine And.intro ⟨rfl, rfl⟩ ?_ | refine And.intro ⟨rfl, rfl, trivial⟩ ?_ | refine And.intro (Int.natCast_nonneg _) ?_ | refine Or.inl (And.intro rfl (And.intro rfl (And.intro rfl (And.intro rfl ?_)))) | refine Or.inl (And.intro rfl (And.intro rfl ?_)) | refine Or.inr (And.intro (Nat.le_of_ble_eq_true rfl) ?_) | refine Or.inl (And.intro (by unfold in64; omega) ?_) | refine And.intro (by first | omega | (simp only [dlen, true_and, and_true, Nat.le_refl, List.length_map, List.length_append, List.length_cons, List.length_nil, List.length_take, List.length_drop, List.length_replicate, Int.toNat_natCast, List.append_nil, hb5] <;> omega) | fail) ?_ | refine And.intro (show elemsP _ _ _ by repeat' (first | exact rfl | exact trivial | constructor)) ?_ | (refine (right_con _).mono fun rs bs hr => ?_; subst hr) | (refine Loops.by (M := M0) 7 noPlan fol (by kernel_rfl) (ι := Nat) (fun i => ⟨[(4, AV.ref [4] 16 1 0 ((UInt8.ofNat t.length :: (t.take i).flatMap putF).map byteD).length), (14, AV.d (D.sl 1 (t.map D.str))), (15, AV.d (D.int .i64 t.length)), (16, AV.d (D.int .i64 i))], [([4], 16, AO.row 5 1 ((UInt8.ofNat t.length :: (t.take i).flatMap putF).map byteD))], 17⟩) (fun i => i ≤ t.length) (fun i => t.length - i) (fun i hI => ?_) (0) (Nat.zero_le _) (Forget.mk' ⟨⟨rfl, rfl⟩, ⟨rfl, rfl⟩, ⟨rfl, rfl⟩, ⟨rfl, rfl⟩, trivial⟩ ⟨⟨rfl, rfl, rfl⟩, trivial⟩ rfl rfl); have hu := puts_upto (right_size ‹_›) i; have h255 := (right_at ‹_›).1; have hz : t.length ≤ i ∨ (t.getD i default).size ≤ 8 := (Nat.lt_or_ge i t.length).elim (fun h => .inr (right_size ‹_› _ (getD_mem h))) .inl) | (refine fun x hx => ?_; (try simp (disch := omega) only [if_true, if_false, Bool.false_eq_true, min_nn, max_nn, min_ln, min_nl, max_ln, max_nl, getD_map, take_bytes, wrap_u64, wrap_u32, shr_i64, shr_u64, shr_u32, shl_i64, shl_u64, Int.reduceToNat, Int.reducePow, Int.pow_succ, Int.pow_zero, Int.one_mul, Int.reduceMul, wrap_id, wrap_u8_nat, wrap_i64_u8, byteD_mk, map_snoc, map_app, set_map, List.length_map, List.length_append, List.length_cons, List.length_nil, Int.toNat_natCast, List.drop_zero, List.take_succ_cons, List.take_zero, List.take_length, List.nil_append, List.append_nil, Nat.zero_add, toNat_pred, toNat_succ, toNat_addn, toNat_subn] at hx); subst hx) | rw [List.take_length] | (rw [List.take_of_length_le]; rotate_left; (first | omega | (simp only [dlen, true_and, and_true, Nat.le_refl, List.length_map, List.length_append, List.length_cons, List.length_nil, List.length_take, List.length_drop, List.length_replicate, Int.toNat_natCast, List.append_nil, hb5] <;> omega) | fail)) | refine fun h => ?_ | fail); all_goals (try (conv => whnf))
  · rw [if_neg (by simp_all)]
    rfl
  · refine ⟨i + 1, ⟨by omega, by omega⟩, ?_⟩
    rw [puts_step (by omega)]
    exact (Forget.mk' ⟨⟨rfl, rfl⟩, ⟨rfl, rfl⟩, ⟨rfl, rfl⟩, ⟨rfl, rfl⟩, trivial⟩ ⟨⟨rfl, rfl, rfl⟩, trivial⟩ rfl rfl)
  · rw [if_pos (by assumption)]
    rfl
def pl13 : Nat → Plan
  | 6 => .take 0 .pu (.take 1 .pu (.take 2 .pu (.one 3 (.take 4 .pu (.take 5 .pu (.take 6 .pu (.take 7 .pu (.take 8 .pu (.take 9 .pu (.one 10 (.take 11 .pu (.take 12 .pu (.take 13 .pu (.take 14 .pu (.take 15 .pu (.take 16 .pu (.take 17 .pu (.take 18 .pu (.take 19 .pu (.take 20 .pu (.take 21 .pu (.take 22 .rd (.take 23 .pu (.take 24 .pu (.take 25 .pu (.take 26 .rd (.one 27 (.take 28 .pu (.take 29 .pu (.take 30 .pu (.done)))))))))))))))))))))))))))))))
  | _ => .done
theorem rightRef_con (t : List ByteArray) : Has Try.prog 13 [CV.d (D.sl 1 (t.map D.str))] (fun rs _ => rs = [CV.d (D.bool (rightS t))]) := by
  refine Has_of_run (fn := Try.f13) (M := M0) fol (by kernel_rfl) 4 pl13 [] [] (by kernel_rfl) (Nat.le_of_ble_eq_true rfl) ?_
  repeat' ((conv => whnf); first | (refine And.intro (fun h => ?_) (fun h => ?_) <;> (try simp only [toNat_pred, toNat_succ, toNat_addn, toNat_subn, decide_eq_true_eq, decide_eq_false_iff_not, Bool.not_eq_true', Bool.not_eq_false', List.length_map, Int.toNat_natCast, Int.not_lt, Int.not_le, Bool.not_eq_true, Bool.false_eq_true, Bool.true_eq_false, Bool.not_true, Bool.not_false, reduceCtorEq, beq_iff_eq, Bool.not_eq_eq_eq_not, bne_iff_ne, ne_eq, decide_not, Decidable.not_not, Classical.not_not] at h)) | refine And.intro rfl ?_ | refine And.intro (Or.inr rfl) ?_ | refine And.intro (Nat.le_of_ble_eq_true rfl) ?_ | refine And.intro ⟨rfl, rfl⟩ ?_ | refine And.intro ⟨rfl, rfl, trivial⟩ ?_ | refine And.intro (Int.natCast_nonneg _) ?_ | refine Or.inl (And.intro rfl (And.intro rfl (And.intro rfl (And.intro rfl ?_)))) | refine Or.inl (And.intro rfl (And.intro rfl ?_)) | refine Or.inr (And.intro (Nat.le_of_ble_eq_true rfl) ?_) | refine Or.inl (And.intro (by unfold in64; omega) ?_) | refine And.intro (by first | omega | (simp only [dlen, true_and, and_true, Nat.le_refl, List.length_map, List.length_append, List.length_cons, List.length_nil, List.length_take, List.length_drop, List.length_replicate, Int.toNat_natCast, List.append_nil] <;> omega) | fail) ?_ | refine And.intro (show elemsP _ _ _ by repeat' (first | exact rfl | exact trivial | constructor)) ?_ | (refine (compare_con _ _ (by omega) (by omega)).mono fun rs bs hr => ?_; subst hr) | (refine Loops.by (M := M0) 4 pl13 fol (by kernel_rfl) (ι := Nat) (fun i => ⟨[(0, AV.d (D.sl 1 (t.map D.str))), (3, AV.d (D.int .i64 i))], [], 16⟩) (fun i => i ≤ t.length ∧ ∀ j, j < i → okAt t j = true) (fun i => t.length - i) (fun i hI => ?_) (0) ⟨Nat.zero_le _, fun j h => absurd h (Nat.not_lt_zero _)⟩ (Forget.mk' ⟨⟨rfl, rfl⟩, ⟨rfl, rfl⟩, trivial⟩ trivial rfl rfl); obtain ⟨hi, hok⟩ := hI; have hz : i = 0 ∨ (t.getD (i - 1) default).size ≤ 8 := right_prev hok) | (refine fun x hx => ?_; (try simp (disch := omega) only [if_true, if_false, Bool.false_eq_true, min_nn, max_nn, min_ln, min_nl, max_ln, max_nl, getD_map, take_bytes, wrap_u64, wrap_u32, shr_i64, shr_u64, shr_u32, shl_i64, shl_u64, Int.reduceToNat, Int.reducePow, Int.pow_succ, Int.pow_zero, Int.one_mul, Int.reduceMul, wrap_id, wrap_u8_nat, wrap_i64_u8, byteD_mk, map_snoc, map_app, set_map, List.length_map, List.length_append, List.length_cons, List.length_nil, Int.toNat_natCast, List.drop_zero, List.take_succ_cons, List.take_zero, List.take_length, List.nil_append, List.append_nil, Nat.zero_add, toNat_pred, toNat_succ, toNat_addn, toNat_subn] at hx); subst hx) | rw [List.take_length] | (rw [List.take_of_length_le]; rotate_left; (first | omega | (simp only [dlen, true_and, and_true, Nat.le_refl, List.length_map, List.length_append, List.length_cons, List.length_nil, List.length_take, List.length_drop, List.length_replicate, Int.toNat_natCast, List.append_nil] <;> omega) | fail)) | refine fun h => ?_ | fail); all_goals (try (conv => whnf))
  · exact rb (right_long (by omega)).symm
  · exact rb (right_bad (i := i) (by omega) (okAt_no (.inr (.inr ⟨by omega, cmp_ge (by assumption)⟩)))).symm
  · exact ⟨i + 1, ⟨⟨by omega, upto_succ hok (okAt_ok (by omega) (by omega) (.inr (cmp_lt (by assumption))))⟩, by omega⟩, (Forget.mk' ⟨⟨rfl, rfl⟩, ⟨rfl, rfl⟩, trivial⟩ trivial rfl rfl)⟩
  · exact ⟨i + 1, ⟨⟨by omega, upto_succ hok (okAt_ok (by omega) (by omega) (.inl (by omega)))⟩, by omega⟩, (Forget.mk' ⟨⟨rfl, rfl⟩, ⟨rfl, rfl⟩, trivial⟩ trivial rfl rfl)⟩
  · exact rb (right_bad (i := i) (by omega) (okAt_no (.inr (.inl (by omega))))).symm
  · exact rb (right_bad (i := i) (by omega) (okAt_no (.inl (by omega)))).symm
  · exact rb (right_good (by omega) (fun j hj => hok j (by omega))).symm
end Go.Fw
namespace Go.Fw
open Go Go.Sort Go.RowKit Go.Proofs
set_option linter.unusedVariables false
set_option linter.unusedSimpArgs false
def bytesOf (s : ByteArray) : List UInt8 := s.data.toList
theorem enc_bytes (s : ByteArray) : encStr (bytesOf s) = .string s := by simp [encStr, bytesOf]
section
variable {P : Program} {w : World} {F : Nat → Prop}
theorem strs_cells : ∀ {ss : List ByteArray} {vs : List Value}, DRr w F 1 (ss.map D.str) vs → vs = ss.map Value.string
  | [], vs, h => by simpa [DRr] using h
  | s :: r, vs, h => by
    simp only [List.map_cons, DRr, DRc] at h
    obtain ⟨a, b, rfl, _, rfl, h2⟩ := h
    simp [strs_cells h2]
theorem cells_strs : ∀ (ss : List ByteArray), DRr w F 1 (ss.map D.str) (ss.map Value.string)
  | [] => by simp [DRr]
  | s :: r => by
    simp only [List.map_cons, DRr, DRc]
    exact ⟨[.string s], r.map Value.string, rfl, rfl, rfl, cells_strs r⟩
theorem enters_of_calls {g : FuncId} {fn : Func} (hfn : P.funcs[g]? = some fn) (hname : (fn.name == "runtime.NumGoroutine") = false) (hb : fn.body.isSome = true) {vs : List Value} {R : Value → World → Prop}
    (h : Calls P g vs.toArray w fun
      | .returned v, w' => R v w'
      | _, _ => False) : Enters P g vs.toArray w R := by
  have hrun : (callFunc g vs.toArray).run P w = .ok (.enter g vs.toArray) w := by
    unfold callFunc
    have hprog : (program : Sem Program).run P w = .ok P w := rfl
    obtain ⟨c, hc'⟩ := Option.isSome_iff_exists.1 hb
    simp only [Sem.run_bind, hprog, Result.andThen_ok, hfn, hname, Bool.false_eq_true, if_false, hc', Option.isNone_some, Sem.run_pure]
  unfold Enters
  rw [hrun]
  exact h
 
theorem row_holds {b e : Nat} {cs : Array Value} {fr : Nat × Nat} {ss : List ByteArray} (hh : w.heap[b]? = some (.cells cs e fr)) (hu : Unf cs fr) (hcs : cs.toList.take ss.length = ss.map Value.string) (hln : ss.length ≤ cs.size) :
    Holds encStr w b 0 (ss.map bytesOf).toArray := by
  intro j hj
  have hj' : j < ss.length := by simpa using hj
  have hv : cs[j]? = some (.string ss[j]) := by
    have := congrArg (fun l => l[j]?) hcs
    simp only [List.getElem?_take, if_pos hj', List.getElem?_map, List.getElem?_eq_getElem hj', Option.map_some] at this
    simpa using this
  refine ⟨?_, ?_⟩
  · rw [cell_at hh, Nat.zero_add, hv]
    have : ((ss.map bytesOf).toArray)[j]! = bytesOf ss[j] := by
      rw [getElem!_pos _ j hj]
      simp
    rw [this, enc_bytes]
  · have := hu j (by omega)
    simp only [World.frozen?, hh, Nat.zero_add]
    exact this
 
theorem row_after {b e : Nat} {cs : Array Value} {fr : Nat × Nat} {ss : List (List UInt8)} {q : Nat} {os : Array Obj} (hh : w.heap[b]? = some (.cells cs e fr)) (hln : ss.length ≤ cs.size) :
    ∃ cs', (grow (putRow encStr (Sort.ahead w q) b 0 ss.toArray) os).heap[b]? = some (.cells cs' e fr) ∧ cs'.size = cs.size ∧ cs'.toList.take ss.length = ss.map encStr ∧
      (∀ k, k < w.heap.size → k ≠ b → (grow (putRow encStr (Sort.ahead w q) b 0 ss.toArray) os).heap[k]? = w.heap[k]?) ∧ w.heap.size ≤ (grow (putRow encStr (Sort.ahead w q) b 0 ss.toArray) os).heap.size := by
  have hb := lt_heap hh
  have hsz : (w.heap.modify b (onCells (putCells encStr 0 ss.toArray))).size = w.heap.size := by simp
  refine ⟨putCells encStr 0 ss.toArray cs, ?_, by simp [putCells], ?_, fun k hk hkb => ?_, ?_⟩
  · show ((w.heap.modify b (onCells (putCells encStr 0 ss.toArray))) ++ os)[b]? = _
    rw [Array.getElem?_append_left (by rw [hsz]; exact hb), Array.getElem?_modify, if_pos rfl, hh]
    rfl
  · apply List.ext_getElem?
    intro k
    rw [List.getElem?_take]
    by_cases hk : k < ss.length
    · rw [if_pos hk, List.getElem?_map, List.getElem?_eq_getElem hk]
      have hkc : k < cs.size := by omega
      simp only [putCells, Array.getElem?_toList, Array.getElem?_mapIdx, Array.getElem?_eq_getElem hkc, Option.map_some, Nat.zero_le, true_and, Nat.zero_add, Nat.sub_zero]
      rw [if_pos (by simpa using hk), getElem!_pos _ k (by simpa using hk)]
      simp
    · rw [if_neg hk, List.getElem?_eq_none (by simp; omega)]
  · show ((w.heap.modify b (onCells (putCells encStr 0 ss.toArray))) ++ os)[k]? = _
    rw [Array.getElem?_append_left (by rw [hsz]; exact hk), Array.getElem?_modify, if_neg (Ne.symm hkb)]
  · show w.heap.size ≤ ((w.heap.modify b (onCells (putCells encStr 0 ss.toArray))) ++ os).size
    rw [Array.size_append, hsz]
    omega
end
end Go.Fw
namespace Go.Fw
open Go Go.Sort Go.RowKit Go.Proofs
set_option linter.unusedVariables false
set_option linter.unusedSimpArgs false
def unB (l : List UInt8) : ByteArray := ⟨l.toArray⟩
 
def sortS (ss : List ByteArray) : List ByteArray := ((ss.map bytesOf).mergeSort fun x y => decide (x ≤ y)).map unB
theorem sortS_len (ss : List ByteArray) : (sortS ss).length = ss.length := by simp [sortS]
theorem sortS_cells (ss : List ByteArray) : ((ss.map bytesOf).mergeSort fun x y => decide (x ≤ y)).map encStr = (sortS ss).map Value.string := by
  simp only [sortS, List.map_map]
  rfl
theorem sort_has {P : Program} {g : FuncId} {fn : Func} (hfn : P.funcs[g]? = some fn) (hname : (fn.name == "runtime.NumGoroutine") = false) (hb : fn.body.isSome = true)
    (hS : ∀ (blk off cap : Nat) (ss : List (List UInt8)) (w : World), Holds encStr w blk off ss.toArray → blk < w.heap.size → ss.length < 4611686018427387904 →
      Calls P g #[.slice (some ⟨blk, off, none⟩) ss.length cap] w fun e w' => e = .returned (.tuple #[]) ∧ ∃ n os, w' = grow (putRow encStr (Sort.ahead w n) blk off (ss.mergeSort fun x y => decide (x ≤ y)).toArray) os)
    (hN : ∀ (p : Option Addr) (cap : Nat) (w : World), Calls P g #[.slice p 0 cap] w fun e w' => e = .returned (.tuple #[]) ∧ w' = w)
    (e : Nat) (ss : List ByteArray) (hlen : ss.length < 4611686018427387904) :
    Has P g [.own e 1 (ss.map D.str)] (fun rs bs => rs = [] ∧ bs = [.own e 1 ((sortS ss).map D.str)]) := by
  constructor
  intro F w vs fp hc hn hs hF
  simp only [CRl, CR] at hc
  obtain ⟨v, vs', f1, f2, rfl, hv, ⟨rfl, rfl⟩, rfl⟩ := hc
  rw [List.append_nil] at hn hs
  rcases hv with ⟨rfl, hnil, rfl⟩ | ⟨b, n, cs, fr, rfl, hh, hu, h0, hcs, hln, hm, hd, rfl⟩
  · have hss : ss = [] := by simpa using hnil
    subst hss
    refine enters_of_calls hfn hname hb ((hN none 0 w).mono fun en w' he => ?_)
    obtain ⟨rfl, rfl⟩ := he
    refine ⟨[], [.own e 1 []], F, [], [], [], ⟨rfl, by simp [sortS]⟩, ⟨by simp [Rv], by simp [CRl], by simp [CRl, CR], by simp, by simp, hF, fun _ h => h, fun _ _ _ => rfl, fun b hb => .inl (by simpa using hb), rfl, rfl, rfl, Nat.le_refl _⟩⟩
  · have hl1 : (ss.map D.str).length = ss.length := by simp
    rw [hl1] at hln hd ⊢
    simp only [Nat.mul_one] at hcs hd
    have hcells := strs_cells hd
    have hlc : ss.length ≤ cs.size := by omega
    have hH := row_holds hh hu hcells hlc
    have hb' : b < w.heap.size := lt_heap hh
    have hl2 : (ss.map bytesOf).length = ss.length := by simp
    have hcall := hS b 0 n (ss.map bytesOf) w hH hb' (by rw [hl2]; exact hlen)
    rw [hl2] at hcall
    refine enters_of_calls hfn hname hb (hcall.mono fun en w' he => ?_)
    obtain ⟨rfl, q, os, rfl⟩ := he
    obtain ⟨cs', k1, k2, k3, k4, k5⟩ := row_after (w := w) (b := b) (ss := (ss.map bytesOf).mergeSort fun x y => decide (x ≤ y)) (q := q) (os := os) hh (by simp; omega)
    rw [sortS_cells] at k3
    have hl3 : ((ss.map bytesOf).mergeSort fun x y => decide (x ≤ y)).length = ss.length := by simp
    rw [hl3] at k3
    have hbF : ¬ F b := (hs b (by simp)).1
    refine ⟨[], [.own e 1 ((sortS ss).map D.str)], F, [], [], [b], ⟨rfl, rfl⟩, ?_⟩
    refine ⟨by simp [Rv], by simp [CRl], ?_, by simp, fun x hx => ?_, fun x hx => Nat.lt_of_lt_of_le (hF x hx) k5, fun _ h => h, fun x hx hnx => k4 x hx (by simpa using hnx), fun x hx => ?_, rfl, rfl, rfl, k5⟩
    · simp only [CRl, CR]
      refine ⟨_, [], [b], [], rfl, .inr ⟨b, n, cs', fr, ?_, k1, fun i hi => hu i (by omega), h0, by omega, ?_, hm, ?_, rfl⟩, ⟨rfl, rfl⟩, rfl⟩
      · simp [sortS_len]
      · simp [sortS_len]; omega
      · simp only [List.length_map, sortS_len, Nat.mul_one]
        rw [k3]
        exact cells_strs _
    · simp at hx
      subst hx
      exact ⟨hbF, Nat.lt_of_lt_of_le hb' k5⟩
    · rcases hx with h | h
      · exact .inl h
      · simp at h
        subst h
        exact .inr (.inl (by simp))
end Go.Fw
namespace Go.Fw
open Go Go.Sort Go.RowKit Go.Proofs
set_option linter.unusedVariables false
set_option linter.unusedSimpArgs false
 
def compactS (ss : List ByteArray) : List ByteArray := (Lib.compact (ss.map bytesOf)).map unB
theorem compactS_len (ss : List ByteArray) : (compactS ss).length = (Lib.compact (ss.map bytesOf)).length := by simp [compactS]
theorem compactS_cells (ss : List ByteArray) : (Lib.compact (ss.map bytesOf)).map encStr = (compactS ss).map Value.string := by
  simp only [compactS, List.map_map]
  rfl
theorem compact_has {P : Program} {g : FuncId} {fn : Func} (hfn : P.funcs[g]? = some fn) (hname : (fn.name == "runtime.NumGoroutine") = false) (hb : fn.body.isSome = true)
    (hS : ∀ (blk off cap : Nat) (zs : List (List UInt8)) (w : World), Holds encStr w blk off zs.toArray → zs.length ≤ 9223372036854775807 → zs.length ≤ cap →
      Calls P g #[.slice (some ⟨blk, off, none⟩) zs.length cap] w fun e w' => e = .returned (.slice (some ⟨blk, off, none⟩) (Lib.compact zs).length cap) ∧ ∃ q, w' = putRow encStr (Sort.ahead w q) blk off (Lib.compact zs ++ List.replicate (zs.length - (Lib.compact zs).length) []).toArray)
    (hN : ∀ (a : Option Addr) (cap : Nat) (w : World), Calls P g #[.slice a 0 cap] w fun e w' => e = .returned (.slice a 0 cap) ∧ w' = w)
    (e : Nat) (ss : List ByteArray) :
    Has P g [.own e 1 (ss.map D.str)] (fun rs bs => rs = [.own e 1 ((compactS ss).map D.str)] ∧ bs = [.gone]) := by
  constructor
  intro F w vs fp hc hn hs hF
  simp only [CRl, CR] at hc
  obtain ⟨v, vs', f1, f2, rfl, hv, ⟨rfl, rfl⟩, rfl⟩ := hc
  rw [List.append_nil] at hn hs
  rcases hv with ⟨rfl, hnil, rfl⟩ | ⟨b, n, cs, fr, rfl, hh, hu, h0, hcs, hln, hm, hd, rfl⟩
  · have hss : ss = [] := by simpa using hnil
    subst hss
    refine enters_of_calls hfn hname hb ((hN none 0 w).mono fun en w' he => ?_)
    obtain ⟨rfl, rfl⟩ := he
    refine ⟨[.own e 1 []], [.gone], F, [.slice none 0 0], [], [], ⟨by simp [compactS, Lib.compact, Lib.compactUpTo], rfl⟩, ⟨by simp [Rv], by simp [CRl, CR], by simp [CRl, CR], by simp, by simp, hF, fun _ h => h, fun _ _ _ => rfl, fun b hb => .inl (by simpa using hb), rfl, rfl, rfl, Nat.le_refl _⟩⟩
  · have hl1 : (ss.map D.str).length = ss.length := by simp
    rw [hl1] at hln hd ⊢
    simp only [Nat.mul_one] at hcs hd
    have hcells := strs_cells hd
    have hlc : ss.length ≤ cs.size := by omega
    have hH := row_holds hh hu hcells hlc
    have hb' : b < w.heap.size := lt_heap hh
    have hl2 : (ss.map bytesOf).length = ss.length := by simp
    have hcl := Lib.compact_length_le (ss.map bytesOf)
    rw [hl2] at hcl
    have hmx : n ≤ 9223372036854775807 := by simpa [maxLen] using hm
    have hcall := hS b 0 n (ss.map bytesOf) w hH (by rw [hl2]; omega) (by rw [hl2]; exact hln)
    rw [hl2] at hcall
    refine enters_of_calls hfn hname hb (hcall.mono fun en w' he => ?_)
    obtain ⟨rfl, q, rfl⟩ := he
    have hlf : (Lib.compact (ss.map bytesOf) ++ List.replicate (ss.length - (Lib.compact (ss.map bytesOf)).length) []).length = ss.length := by simp; omega
    obtain ⟨cs', k1, k2, k3, k4, k5⟩ := row_after (w := w) (b := b) (ss := Lib.compact (ss.map bytesOf) ++ List.replicate (ss.length - (Lib.compact (ss.map bytesOf)).length) []) (q := q) (os := #[]) hh (by rw [hlf]; omega)
    rw [grow_empty] at k1 k4 k5
    rw [hlf] at k3
    have hbF : ¬ F b := (hs b (by simp)).1
    refine ⟨[.own e 1 ((compactS ss).map D.str)], [.gone], F, [.slice (some ⟨b, 0, none⟩) (Lib.compact (ss.map bytesOf)).length n], [b], [], ⟨rfl, rfl⟩, ?_⟩
    refine ⟨by simp [Rv], ?_, by simp [CRl, CR], by simp, fun x hx => ?_, fun x hx => Nat.lt_of_lt_of_le (hF x hx) k5, fun _ h => h, fun x hx hnx => k4 x hx (by simpa using hnx), fun x hx => ?_, rfl, rfl, rfl, k5⟩
    · simp only [CRl, CR]
      refine ⟨_, [], [b], [], rfl, .inr ⟨b, n, cs', fr, ?_, k1, fun i hi => hu i (by omega), h0, by omega, ?_, hm, ?_, rfl⟩, ⟨rfl, rfl⟩, rfl⟩
      · simp [compactS_len]
      · simp [compactS_len]; omega
      · simp only [List.length_map, compactS_len, Nat.mul_one]
        have := congrArg (List.take (Lib.compact (ss.map bytesOf)).length) k3
        rw [List.take_take, Nat.min_eq_left hcl, List.map_append, List.take_left' (List.length_map _), compactS_cells] at this
        rw [this]
        exact cells_strs _
    · simp at hx
      subst hx
      exact ⟨hbF, Nat.lt_of_lt_of_le hb' k5⟩
    · rcases hx with h | h
      · exact .inl h
      · simp at h
        subst h
        exact .inr (.inl (by simp))
end Go.Fw
namespace Go.Fw
open Go Go.Proofs
set_option linter.unusedVariables false
set_option linter.unusedSimpArgs false
theorem less_iff : ∀ a b : List UInt8, Op.bytesLess a b = true ↔ a < b
  | [], [] => by simp [Op.bytesLess]
  | [], y :: b => by simp [Op.bytesLess]
  | x :: a, [] => by simp [Op.bytesLess]
  | x :: a, y :: b => by
    simp only [Op.bytesLess, Bool.or_eq_true, Bool.and_eq_true, decide_eq_true_eq, beq_iff_eq, less_iff a b, List.cons_lt_cons_iff]
theorem le_iff (a b : List UInt8) : a ≤ b ↔ Op.bytesLess b a = false := by
  rw [← Bool.not_eq_true, less_iff]
  exact List.not_lt.symm
theorem rises_iff {t : List ByteArray} : Rises t ↔ t.Pairwise (fun a b => slt a b = true) := by
  rw [List.pairwise_iff_getElem]
  constructor
  · intro h i j hi hj hij
    have := h i j hij hj
    simpa [List.getD_eq_getElem?_getD, hi, hj] using this
  · intro h i j hij hj
    have := h i j (by omega) hj hij
    simpa [List.getD_eq_getElem?_getD, (show i < t.length by omega), hj] using this
theorem pair_unique : ∀ {t u : List ByteArray}, t.Pairwise (fun a b => slt a b = true) → u.Pairwise (fun a b => slt a b = true) → (∀ s, s ∈ t ↔ s ∈ u) → t = u
  | [], [], _, _, _ => rfl
  | [], b :: u, _, _, h => by have := (h b).2 (by simp); simp at this
  | a :: t, [], _, _, h => by have := (h a).1 (by simp); simp at this
  | a :: t, b :: u, h1, h2, h => by
    rw [List.pairwise_cons] at h1 h2
    have hab : a = b := by
      rcases List.mem_cons.1 ((h a).1 (by simp)) with e | e
      · exact e
      · rcases List.mem_cons.1 ((h b).2 (by simp)) with e' | e'
        · exact e'.symm
        · have := slt_trans (h1.1 b e') (h2.1 a e)
          rw [slt_irrefl] at this
          cases this
    subst hab
    have hn : ∀ {l : List ByteArray}, (∀ x ∈ l, slt a x = true) → a ∉ l := fun hl hm => by
      have := hl a hm
      rw [slt_irrefl] at this
      cases this
    rw [pair_unique h1.2 h2.2 fun s => ⟨fun hs => by
      rcases List.mem_cons.1 ((h s).1 (by simp [hs])) with e | e
      · exact absurd (e ▸ hs) (hn h1.1)
      · exact e, fun hs => by
      rcases List.mem_cons.1 ((h s).2 (by simp [hs])) with e | e
      · exact absurd (e ▸ hs) (hn h2.1)
      · exact e⟩]
theorem rises_unique {t u : List ByteArray} (h1 : Rises t) (h2 : Rises u) (h : ∀ s, s ∈ t ↔ s ∈ u) : t = u := pair_unique (rises_iff.1 h1) (rises_iff.1 h2) h
 
theorem upTo_spec (d : Array (List UInt8)) (hs : ∀ i, i + 1 < d.size → Op.bytesLess d[i + 1]! d[i]! = false) : ∀ m, m ≤ d.size →
    (Lib.compactUpTo d m).Pairwise (fun a b => Op.bytesLess a b = true) ∧ (∀ x, x ∈ Lib.compactUpTo d m ↔ ∃ j, j < m ∧ d[j]! = x) ∧ ∀ x ∈ Lib.compactUpTo d m, 0 < m ∧ (x = d[m - 1]! ∨ Op.bytesLess x d[m - 1]! = true)
  | 0, _ => by simp [Lib.compactUpTo]
  | m + 1, hm => by
    obtain ⟨h1, h2, h3⟩ := upTo_spec d hs m (by omega)
    rw [Lib.compactUpTo_succ]
    by_cases hk : Lib.keeps d m = true
    · rw [if_pos hk]
      have hlt : ∀ x ∈ Lib.compactUpTo d m, Op.bytesLess x d[m]! = true := fun x hx => by
        obtain ⟨h0, hx'⟩ := h3 x hx
        have hle : Op.bytesLess d[m]! d[m - 1]! = false := by
          have := hs (m - 1) (by omega)
          rwa [show m - 1 + 1 = m by omega] at this
        have hne : d[m]! ≠ d[m - 1]! := by
          intro e
          have := Lib.keeps_neg h0 e
          rw [hk] at this
          cases this
        have hl : Op.bytesLess d[m - 1]! d[m]! = true := by
          refine (Bool.eq_false_or_eq_true _).resolve_right fun e => hne ?_
          exact less_total _ _ hle e
        rcases hx' with rfl | hx'
        · exact hl
        · exact less_trans _ _ _ hx' hl
      refine ⟨?_, fun x => ?_, fun x hx => ⟨by omega, ?_⟩⟩
      · rw [List.pairwise_append]
        refine ⟨h1, by simp, fun a ha b hb => ?_⟩
        simp only [List.mem_singleton] at hb
        subst hb
        exact hlt a ha
      · rw [List.mem_append, h2, List.mem_singleton]
        constructor
        · rintro (⟨j, hj, e⟩ | rfl)
          · exact ⟨j, by omega, e⟩
          · exact ⟨m, by omega, rfl⟩
        · rintro ⟨j, hj, e⟩
          by_cases hjm : j = m
          · subst hjm; exact .inr e.symm
          · exact .inl ⟨j, by omega, e⟩
      · rcases List.mem_append.1 hx with hx | hx
        · exact .inr (hlt x hx)
        · simp only [List.mem_singleton] at hx
          exact .inl hx
    · rw [if_neg hk, List.append_nil]
      have h0 : 0 < m := by
        refine Nat.pos_of_ne_zero fun e => hk ?_
        subst e
        exact Lib.keeps_lt_one d 0 (by omega)
      have he : d[m]! = d[m - 1]! := by
        refine Classical.byContradiction fun h => hk ?_
        exact Lib.keeps_pos h
      refine ⟨h1, fun x => ?_, fun x hx => ⟨by omega, ?_⟩⟩
      · rw [h2]
        constructor
        · rintro ⟨j, hj, e⟩
          exact ⟨j, by omega, e⟩
        · rintro ⟨j, hj, e⟩
          by_cases hjm : j = m
          · subst hjm; exact ⟨j - 1, by omega, by rw [← he]; exact e⟩
          · exact ⟨j, by omega, e⟩
      · rw [Nat.add_sub_cancel, he]
        exact (h3 x hx).2
 
def tidy (l : List ByteArray) : List ByteArray := compactS (sortS l)
theorem unB_of (s : ByteArray) : unB (bytesOf s) = s := by cases s; simp [unB, bytesOf]
theorem of_unB (l : List UInt8) : bytesOf (unB l) = l := by simp [unB, bytesOf]
theorem map_unB (l : List (List UInt8)) : (l.map unB).map bytesOf = l := by
  rw [List.map_map]
  conv => rhs; rw [← List.map_id l]
  exact List.map_congr_left fun x _ => of_unB x
theorem tidy_spec (l : List ByteArray) : Rises (tidy l) ∧ ∀ s, s ∈ tidy l ↔ s ∈ l := by
  have e1 : tidy l = (Lib.compact ((l.map bytesOf).mergeSort fun x y => decide (x ≤ y))).map unB := by
    simp only [tidy, compactS, sortS, map_unB]
  have hsort : ((l.map bytesOf).mergeSort fun x y => decide (x ≤ y)).Pairwise fun x y => decide (x ≤ y) = true :=
    List.pairwise_mergeSort (fun a b c h1 h2 => by
      simp only [decide_eq_true_eq] at h1 h2 ⊢
      exact List.le_trans h1 h2) (fun a b => by
      simp only [Bool.or_eq_true, decide_eq_true_eq]
      exact List.le_total a b) _
  generalize hz : ((l.map bytesOf).mergeSort fun x y => decide (x ≤ y)) = zs at *
  have hmem : ∀ x, x ∈ zs ↔ x ∈ l.map bytesOf := fun x => by rw [← hz]; exact List.mem_mergeSort
  obtain ⟨h1, h2, _⟩ := upTo_spec zs.toArray (fun i hi => by
    have := List.pairwise_iff_getElem.1 hsort i (i + 1) (by simp at hi; omega) (by simpa using hi) (by omega)
    simp only [decide_eq_true_eq, le_iff] at this
    have hi' : i + 1 < zs.length := by simpa using hi
    simpa [hi', (show i < zs.length by omega)] using this) zs.length (by simp)
  rw [e1]
  refine ⟨rises_iff.2 ?_, fun s => ?_⟩
  · rw [List.pairwise_map]
    refine h1.imp fun {a b} h => ?_
    simp only [slt]
    have e : ∀ l : List UInt8, (unB l).data.toList = l := of_unB
    rw [e, e]
    exact h
  · rw [List.mem_map]
    constructor
    · rintro ⟨x, hx, rfl⟩
      obtain ⟨j, hj, rfl⟩ := (h2 x).1 hx
      have hm : zs.toArray[j]! ∈ zs := by simp [hj]
      obtain ⟨y, hy, e⟩ := List.mem_map.1 ((hmem _).1 hm)
      rw [← e, unB_of]
      exact hy
    · intro hs
      have hm := (hmem (bytesOf s)).2 (List.mem_map_of_mem hs)
      obtain ⟨j, hj, e⟩ := List.mem_iff_getElem.1 hm
      exact ⟨bytesOf s, (h2 _).2 ⟨j, hj, by simp [hj, e]⟩, unB_of s⟩
def orderS (l : List ByteArray) : List ByteArray := (tidy (l.filter mayD)).take 255
theorem rises_take {t : List ByteArray} (h : Rises t) (n : Nat) : Rises (t.take n) := rises_iff.2 ((rises_iff.1 h).sublist (List.take_sublist _ _))
theorem orderS_rises (l : List ByteArray) : Rises (orderS l) := rises_take (tidy_spec _).1 _
theorem order_eq (l : List ByteArray) : [CV.own 9 1 (List.take ((↑(min (compactS (sortS (l.filter mayD))).length 255 : Nat) : Int).toNat - 0) (List.map D.str (compactS (sortS (l.filter mayD)))))] = [CV.own 9 1 (List.map D.str (orderS l))] := by
  rw [Int.toNat_natCast, Nat.sub_zero, orderS, tidy, ← List.map_take, Nat.min_comm, ← List.take_eq_take_min]
def sA : ByteArray := ⟨#[97]⟩
def sB : ByteArray := ⟨#[98]⟩
def sAB : ByteArray := ⟨#[97, 98]⟩
theorem rises_ab : Rises [⟨#[97]⟩, ⟨#[97, 98]⟩] := rises_iff.2 (by simp [slt, Op.bytesLess])
theorem rises_inj {t : List ByteArray} (hr : Rises t) {i j : Nat} (hi : i < t.length) (hj : j < t.length) (h : t.getD i default = t.getD j default) : i = j := by
  rcases Nat.lt_trichotomy i j with hlt | heq | hgt
  · have := hr i j hlt hj
    rw [h, slt_irrefl] at this
    cases this
  · exact heq
  · have := hr j i hgt hi
    rw [h, slt_irrefl] at this
    cases this
theorem found_unique {t : List ByteArray} {x : ByteArray} {rs rs' : List CV} (hr : Rises t) (h : Found t x rs) (h' : Found t x rs') : rs = rs' := by
  have key : ∀ {i n j m : Nat}, 0 < n → n ≤ 8 → n ≤ x.size → i < t.length → t.getD i default = x.extract 0 n → (∀ k, m < k → k ≤ 8 → k ≤ x.size → NoBeg t x k) → n ≤ m := fun h0 h8 hx hi he hno =>
    Nat.le_of_not_lt fun hlt => hno _ hlt h8 hx _ hi he
  rcases h with ⟨i, n, rfl, a0, a8, ax, ai, ae, an⟩ | ⟨rfl, an⟩
  · rcases h' with ⟨j, m, rfl, b0, b8, bx, bj, be, bn⟩ | ⟨rfl, bn⟩
    · have h1 := key (j := j) a0 a8 ax ai ae bn
      have h2 := key (j := i) b0 b8 bx bj be an
      have e : n = m := by omega
      subst e
      rw [rises_inj hr ai bj (ae.trans be.symm)]
    · exact absurd ae (bn n a0 a8 ax i ai)
  · rcases h' with ⟨j, m, rfl, b0, b8, bx, bj, be, bn⟩ | ⟨rfl, bn⟩
    · exact absurd be (an m b0 b8 bx j bj)
    · rfl
theorem found_ab : Found [⟨#[97]⟩, ⟨#[97, 98]⟩] ⟨#[97, 98, 99]⟩ [.d (.int .i64 1), .d (.int .i64 2)] :=
  .inl ⟨1, 2, rfl, by decide, by decide, by decide, by decide, by decide +kernel, fun m h1 h2 h3 => by
    have h3' : m ≤ 3 := h3
    have e : m = 3 := by omega
    subst e
    intro k hk
    have hk' : k < 2 := hk
    rcases (show k = 0 ∨ k = 1 by omega) with rfl | rfl <;> decide +kernel⟩
theorem tidy_bab : tidy [⟨#[98]⟩, ⟨#[97]⟩, ⟨#[98]⟩] = [⟨#[97]⟩, ⟨#[98]⟩] :=
  rises_unique (tidy_spec _).1 (rises_iff.2 (by simp [slt, Op.bytesLess])) fun s => by
    rw [(tidy_spec _).2]
    simp only [List.mem_cons, List.not_mem_nil, or_false]
    constructor
    · rintro (h | h | h)
      · exact .inr h
      · exact .inl h
      · exact .inr h
    · rintro (h | h)
      · exact .inr (.inl h)
      · exact .inl h
theorem order_bab : orderS [⟨#[98]⟩, ⟨#[97]⟩, ⟨#[98]⟩] = [⟨#[97]⟩, ⟨#[98]⟩] := by
  rw [orderS, show List.filter mayD [⟨#[98]⟩, ⟨#[97]⟩, ⟨#[98]⟩] = [⟨#[98]⟩, ⟨#[97]⟩, ⟨#[98]⟩] by rfl, tidy_bab]
  rfl
theorem awake_str : (⟨(List.map dByte (List.take (putB [⟨#[97]⟩, ⟨#[97, 98]⟩]).length (List.drop 0 (List.map byteD (putB [⟨#[97]⟩, ⟨#[97, 98]⟩]))))).toArray⟩ : ByteArray) = ⟨#[2, 1, 97, 2, 97, 98]⟩ := by decide +kernel
end Go.Fw
namespace Go.Proofs
open Go.Shelf
def Try.lays128_ren : Go.Shelf.Ren := ⟨fun | 128 => 46 | n => n, fun | 51 => 66 | 3 => 3 | 4 => 4 | 46 => 56 | 5 => 5 | 9 => 9 | n => n, fun | n => n⟩
theorem Try.lays128 : Go.Proofs.Lays.n128 Try.prog Try.lays128_ren := {
  mixed := by kernel_rfl
  f128 := Try.func46.trans (congrArg some (by kernel_rfl))
  t3 := Try.underlying3
  a3 := Try.isAgg3
  z3 := Try.sizeOf3
  v3 := Try.zeroValue3
  t4 := Try.underlying4
  a4 := Try.isAgg4
  z4 := Try.sizeOf4
  v4 := Try.zeroValue4
  t5 := Try.underlying5
  a5 := Try.isAgg5
  z5 := Try.sizeOf5
  v5 := Try.zeroValue5
  t9 := Try.underlying9
  a9 := Try.isAgg9
  z9 := Try.sizeOf9
  v9 := Try.zeroValue9
  t46 := Try.underlying56
  a46 := Try.isAgg56
  z46 := Try.sizeOf56
  v46 := Try.zeroValue56
  t51 := Try.underlying66
  a51 := Try.isAgg66
  z51 := Try.sizeOf66
  v51 := Try.zeroValue66 }
 
theorem Try.bits_Len32 (x : Int) (w : World) (h0 : 0 ≤ x) (h1 : x ≤ 4294967295) :
    Calls Try.prog 46 #[.int .u32 x] w fun e w' => e = .returned (.int .i64 (Lib.bitLen x.toNat)) ∧ w' = w := Any.bits_Len32 Try.lays128 x w h0 h1
def Try.lays125_ren : Go.Shelf.Ren := ⟨fun | 125 => 35 | 128 => 46 | 129 => 47 | n => n, fun | 46 => 56 | 3 => 3 | 51 => 66 | 53 => 68 | 4 => 4 | 5 => 5 | 9 => 9 | n => n, fun | n => n⟩
theorem Try.lays125 : Go.Proofs.Lays.n125 Try.prog Try.lays125_ren := {
  mixed := by kernel_rfl
  f125 := Try.func35.trans (congrArg some (by kernel_rfl))
  f128 := Try.func46.trans (congrArg some (by kernel_rfl))
  f129 := Try.func47.trans (congrArg some (by kernel_rfl))
  t3 := Try.underlying3
  a3 := Try.isAgg3
  z3 := Try.sizeOf3
  v3 := Try.zeroValue3
  t4 := Try.underlying4
  a4 := Try.isAgg4
  z4 := Try.sizeOf4
  v4 := Try.zeroValue4
  t5 := Try.underlying5
  a5 := Try.isAgg5
  z5 := Try.sizeOf5
  v5 := Try.zeroValue5
  t9 := Try.underlying9
  a9 := Try.isAgg9
  z9 := Try.sizeOf9
  v9 := Try.zeroValue9
  t46 := Try.underlying56
  a46 := Try.isAgg56
  z46 := Try.sizeOf56
  v46 := Try.zeroValue56
  t51 := Try.underlying66
  a51 := Try.isAgg66
  z51 := Try.sizeOf66
  v51 := Try.zeroValue66
  t53 := Try.underlying68
  a53 := Try.isAgg68
  z53 := Try.sizeOf68
  v53 := Try.zeroValue68 }
 
theorem Try.bits_Len (x : Int) (w : World) (h0 : 0 ≤ x) (h1 : x ≤ 18446744073709551615) :
    Calls Try.prog 35 #[.int .u64 x] w fun e w' => e = .returned (.int .i64 (Lib.bitLen x.toNat)) ∧ w' = w := Any.bits_Len Try.lays125 x w h0 h1
def Try.lays129_ren : Go.Shelf.Ren := ⟨fun | 129 => 47 | n => n, fun | 53 => 68 | 3 => 3 | 4 => 4 | 46 => 56 | 5 => 5 | 9 => 9 | n => n, fun | n => n⟩
theorem Try.lays129 : Go.Proofs.Lays.n129 Try.prog Try.lays129_ren := {
  mixed := by kernel_rfl
  f129 := Try.func47.trans (congrArg some (by kernel_rfl))
  t3 := Try.underlying3
  a3 := Try.isAgg3
  z3 := Try.sizeOf3
  v3 := Try.zeroValue3
  t4 := Try.underlying4
  a4 := Try.isAgg4
  z4 := Try.sizeOf4
  v4 := Try.zeroValue4
  t5 := Try.underlying5
  a5 := Try.isAgg5
  z5 := Try.sizeOf5
  v5 := Try.zeroValue5
  t9 := Try.underlying9
  a9 := Try.isAgg9
  z9 := Try.sizeOf9
  v9 := Try.zeroValue9
  t46 := Try.underlying56
  a46 := Try.isAgg56
  z46 := Try.sizeOf56
  v46 := Try.zeroValue56
  t53 := Try.underlying68
  a53 := Try.isAgg68
  z53 := Try.sizeOf68
  v53 := Try.zeroValue68 }
 
theorem Try.bits_Len64 (x : Int) (w : World) (h0 : 0 ≤ x) (h1 : x ≤ 18446744073709551615) :
    Calls Try.prog 47 #[.int .u64 x] w fun e w' => e = .returned (.int .i64 (Lib.bitLen x.toNat)) ∧ w' = w := Any.bits_Len64 Try.lays129 x w h0 h1
def Try.lays190_ren : Go.Shelf.Ren := ⟨fun | 190 => 27 | 125 => 35 | 258 => 34 | 128 => 46 | 129 => 47 | 302 => 38 | 303 => 39 | 304 => 40 | 305 => 41 | 306 => 42 | 307 => 43 | 308 => 36 | 309 => 44 | 310 => 45 | 333 => 49 | 329 => 50 | 330 => 51 | 334 => 52 | 335 => 53 | 336 => 48 | 344 => 54 | n => n, fun | 31 => 22 | 9 => 9 | 3 => 3 | 46 => 56 | 0 => 0 | 51 => 66 | 53 => 68 | 4 => 4 | 183 => 60 | 182 => 59 | 131 => 47 | 5 => 5 | 218 => 69 | 222 => 73 | 228 => 75 | 229 => 33 | n => n, fun | n => n⟩
theorem Try.lays190 : Go.Proofs.Lays.n190 Try.prog Try.lays190_ren := {
  mixed := by kernel_rfl
  f125 := Try.func35.trans (congrArg some (by kernel_rfl))
  f128 := Try.func46.trans (congrArg some (by kernel_rfl))
  f129 := Try.func47.trans (congrArg some (by kernel_rfl))
  f190 := Try.func27.trans (congrArg some (by kernel_rfl))
  f258 := Try.func34.trans (congrArg some (by kernel_rfl))
  f302 := Try.func38.trans (congrArg some (by kernel_rfl))
  f303 := Try.func39.trans (congrArg some (by kernel_rfl))
  f304 := Try.func40.trans (congrArg some (by kernel_rfl))
  f305 := Try.func41.trans (congrArg some (by kernel_rfl))
  f306 := Try.func42.trans (congrArg some (by kernel_rfl))
  f307 := Try.func43.trans (congrArg some (by kernel_rfl))
  f308 := Try.func36.trans (congrArg some (by kernel_rfl))
  f309 := Try.func44.trans (congrArg some (by kernel_rfl))
  f310 := Try.func45.trans (congrArg some (by kernel_rfl))
  f329 := Try.func50.trans (congrArg some (by kernel_rfl))
  f330 := Try.func51.trans (congrArg some (by kernel_rfl))
  f333 := Try.func49.trans (congrArg some (by kernel_rfl))
  f334 := Try.func52.trans (congrArg some (by kernel_rfl))
  f335 := Try.func53.trans (congrArg some (by kernel_rfl))
  f336 := Try.func48.trans (congrArg some (by kernel_rfl))
  f344 := Try.func54.trans (congrArg some (by kernel_rfl))
  t0 := Try.underlying0
  a0 := Try.isAgg0
  z0 := Try.sizeOf0
  v0 := Try.zeroValue0
  t3 := Try.underlying3
  a3 := Try.isAgg3
  z3 := Try.sizeOf3
  v3 := Try.zeroValue3
  t4 := Try.underlying4
  a4 := Try.isAgg4
  z4 := Try.sizeOf4
  v4 := Try.zeroValue4
  t5 := Try.underlying5
  a5 := Try.isAgg5
  z5 := Try.sizeOf5
  v5 := Try.zeroValue5
  t9 := Try.underlying9
  a9 := Try.isAgg9
  z9 := Try.sizeOf9
  v9 := Try.zeroValue9
  t31 := Try.underlying22
  a31 := Try.isAgg22
  z31 := Try.sizeOf22
  v31 := Try.zeroValue22
  t46 := Try.underlying56
  a46 := Try.isAgg56
  z46 := Try.sizeOf56
  v46 := Try.zeroValue56
  t51 := Try.underlying66
  a51 := Try.isAgg66
  z51 := Try.sizeOf66
  v51 := Try.zeroValue66
  t53 := Try.underlying68
  a53 := Try.isAgg68
  z53 := Try.sizeOf68
  v53 := Try.zeroValue68
  t131 := Try.underlying47
  a131 := Try.isAgg47
  z131 := Try.sizeOf47
  v131 := Try.zeroValue47
  t182 := Try.underlying59
  a182 := Try.isAgg59
  z182 := Try.sizeOf59
  v182 := Try.zeroValue59
  t183 := Try.underlying60
  a183 := Try.isAgg60
  z183 := Try.sizeOf60
  v183 := Try.zeroValue60
  t218 := Try.underlying69
  a218 := Try.isAgg69
  z218 := Try.sizeOf69
  v218 := Try.zeroValue69
  t222 := Try.underlying73
  a222 := Try.isAgg73
  z222 := Try.sizeOf73
  v222 := Try.zeroValue73
  t228 := Try.underlying75
  a228 := Try.isAgg75
  z228 := Try.sizeOf75
  v228 := Try.zeroValue75
  t229 := Try.underlying33
  a229 := Try.isAgg33
  z229 := Try.sizeOf33
  v229 := Try.zeroValue33 }
open Go.Sort Go.RowKit in
theorem Try.slices_Sort_string (blk off cap : Nat) (ss : List (List UInt8)) (w : World) (hH : Holds encStr w blk off ss.toArray) (hblk : blk < w.heap.size) (hsz : ss.length < 4611686018427387904) :
    Calls Try.prog 27 #[.slice (some ⟨blk, off, none⟩) ss.length cap] w fun e w' =>
      e = .returned (.tuple #[]) ∧ ∃ n os, w' = grow (putRow encStr (Sort.ahead w n) blk off (ss.mergeSort fun x y => decide (x ≤ y)).toArray) os := Any.slices_Sort_string Try.lays190 blk off cap ss w hH hblk hsz
def Try.lays194_ren : Go.Shelf.Ren := ⟨fun | 194 => 28 | n => n, fun | 31 => 22 | 9 => 9 | 3 => 3 | 4 => 4 | 0 => 0 | n => n, fun | n => n⟩
theorem Try.lays194 : Go.Proofs.Lays.n194 Try.prog Try.lays194_ren := {
  mixed := by kernel_rfl
  f194 := Try.func28.trans (congrArg some (by kernel_rfl))
  t0 := Try.underlying0
  a0 := Try.isAgg0
  z0 := Try.sizeOf0
  v0 := Try.zeroValue0
  t3 := Try.underlying3
  a3 := Try.isAgg3
  z3 := Try.sizeOf3
  v3 := Try.zeroValue3
  t4 := Try.underlying4
  a4 := Try.isAgg4
  z4 := Try.sizeOf4
  v4 := Try.zeroValue4
  t9 := Try.underlying9
  a9 := Try.isAgg9
  z9 := Try.sizeOf9
  v9 := Try.zeroValue9
  t31 := Try.underlying22
  a31 := Try.isAgg22
  z31 := Try.sizeOf22
  v31 := Try.zeroValue22 }
open Go.RowKit Go.Lib Go.Sort in
 
theorem Try.slices_Compact_string_arr (blk off cap : Nat) (d : Array (List UInt8)) (w : World) (hH : Holds encStr w blk off d) (hsz : d.size ≤ 9223372036854775807) (hcap : d.size ≤ cap) :
    Calls Try.prog 28 #[.slice (some ⟨blk, off, none⟩) d.size cap] w fun e w' => e = .returned (.slice (some ⟨blk, off, none⟩) (compactUpTo d d.size).length cap) ∧ ∃ q, w' = putRow encStr (Sort.ahead w q) blk off (compactUpTo d d.size ++ List.replicate (d.size - (compactUpTo d d.size).length) []).toArray := Any.slices_Compact_string_arr Try.lays194 blk off cap d w hH hsz hcap
open Go.RowKit Go.Lib Go.Sort in
 
theorem Try.slices_Compact_string (blk off cap : Nat) (zs : List (List UInt8)) (w : World) (hH : Holds encStr w blk off zs.toArray) (hsz : zs.length ≤ 9223372036854775807) (hcap : zs.length ≤ cap) :
    Calls Try.prog 28 #[.slice (some ⟨blk, off, none⟩) zs.length cap] w fun e w' => e = .returned (.slice (some ⟨blk, off, none⟩) (Lib.compact zs).length cap) ∧ ∃ q, w' = putRow encStr (Sort.ahead w q) blk off (Lib.compact zs ++ List.replicate (zs.length - (Lib.compact zs).length) []).toArray := Any.slices_Compact_string Try.lays194 blk off cap zs w hH hsz hcap
open Go.RowKit Go.Lib Go.Sort in
 
theorem Try.slices_Compact_string_empty (a : Option Addr) (cap : Nat) (w : World) :
    Calls Try.prog 28 #[.slice a 0 cap] w fun e w' => e = .returned (.slice a 0 cap) ∧ w' = w := Any.slices_Compact_string_empty Try.lays194 a cap w
open Go.RowKit Go.Lib Go.Sort in
 
theorem Try.slices_Compact_string_cells (b off n c : Nat) (Sx : Nat → ByteArray) (w : World) (hbig : n ≤ 9223372036854775807) (hcap : n ≤ c) (hc : ∀ i, i < n → w.cell? ⟨b, off + i, none⟩ = some (.string (Sx i))) (hf : ∀ j, j < n → w.frozen? ⟨b, off + j, none⟩ = false) :
    Calls Try.prog 28 #[.slice (some ⟨b, off, none⟩) n c] w fun e w' => e = .returned (.slice (some ⟨b, off, none⟩) (Lib.compact (Lib.strsOf Sx n)).length c) ∧ ∃ q, w' = (w.drewN q).setCells b off ((Lib.compact (Lib.strsOf Sx n) ++ List.replicate (n - (Lib.compact (Lib.strsOf Sx n)).length) []).map encStr) := Any.slices_Compact_string_cells Try.lays194 b off n c Sx w hbig hcap hc hf
open Go.RowKit Go.Sort in
 
theorem Try.slices_Sort_string_none (p : Option Addr) (cap : Nat) (w : World) :
    Calls Try.prog 27 #[.slice p 0 cap] w fun e w' => e = .returned (.tuple #[]) ∧ w' = w := Any.slices_Sort_string_none Try.lays190 p cap w
end Go.Proofs
namespace Go.Fw
open Go Go.Proofs
set_option maxHeartbeats 10000000
set_option maxRecDepth 100000
set_option linter.constructorNameAsVariable false
set_option linter.unusedVariables false
set_option linter.unusedSimpArgs false
theorem sort_con (e : Nat) (ss : List ByteArray) (hlen : ss.length < 4611686018427387904) :
    Has Try.prog 27 [.own e 1 (ss.map D.str)] (fun rs bs => rs = [] ∧ bs = [.own e 1 ((sortS ss).map D.str)]) :=
  sort_has (fn := Try.f27) (by kernel_rfl) (by kernel_rfl) (by kernel_rfl) Try.slices_Sort_string Try.slices_Sort_string_none e ss hlen
theorem compact_con (e : Nat) (ss : List ByteArray) :
    Has Try.prog 28 [.own e 1 (ss.map D.str)] (fun rs bs => rs = [.own e 1 ((compactS ss).map D.str)] ∧ bs = [.gone]) :=
  compact_has (fn := Try.f28) (by kernel_rfl) (by kernel_rfl) (by kernel_rfl) Try.slices_Compact_string Try.slices_Compact_string_empty e ss
def M16 : FuncId → List Mode := fun g => if g = 27 then [.own] else if g = 28 then [.own] else []
theorem order_con (l : List ByteArray) (hl : l.length ≤ 1000000000) : Has Try.prog 16 [CV.d (D.sl 1 (l.map D.str))] (fun rs _ => rs = [CV.own 9 1 ((orderS l).map D.str)] ) := by
  have hb9 : Try.prog.bytesOf 9 = 16 := by kernel_rfl
  refine Has_of_run (fn := Try.f16) (M := M16) fol (by kernel_rfl) 6 noPlan [.own] [] (by kernel_rfl) (Nat.le_of_ble_eq_true rfl) ?_
  repeat' ((conv => whnf); first | (refine And.intro (fun h => ?_) (fun h => ?_) <;> (try simp only [toNat_pred, toNat_succ, toNat_addn, toNat_subn, decide_eq_true_eq, decide_eq_false_iff_not, Bool.not_eq_true', Bool.not_eq_false', List.length_map, Int.toNat_natCast, Int.not_lt, Int.not_le, Bool.not_eq_true, Bool.false_eq_true, Bool.true_eq_false, Bool.not_true, Bool.not_false, reduceCtorEq, beq_iff_eq, Bool.not_eq_eq_eq_not, bne_iff_ne, ne_eq, decide_not, Decidable.not_not, Classical.not_not, sortS_len] at h)) | refine And.intro rfl ?_ | refine And.intro (Or.inr rfl) ?_ | refine And.intro (Nat.le_of_ble_eq_true rfl) ?_ | refine And.intro ⟨rfl, rfl⟩ ?_ | refine And.intro ⟨rfl, rfl, trivial⟩ ?_ | refine And.intro (Int.natCast_nonneg _) ?_ | refine Or.inl (And.intro rfl (And.intro rfl (And.intro rfl (And.intro rfl ?_)))) | refine Or.inl (And.intro rfl (And.intro rfl ?_)) | refine Or.inr (And.intro (Nat.le_of_ble_eq_true rfl) ?_) | refine Or.inl (And.intro (by unfold in64; omega) ?_) | refine And.intro (by first | omega | (simp only [dlen, true_and, and_true, Nat.le_refl, List.length_map, List.length_append, List.length_cons, List.length_nil, List.length_take, List.length_drop, List.length_replicate, Int.toNat_natCast, List.append_nil, hb9, sortS_len] <;> omega) | fail) ?_ | refine And.intro (show elemsP _ _ _ by repeat' (first | exact rfl | exact trivial | constructor)) ?_ | (refine (may_con _).mono fun rs bs hr => ?_; subst hr) | (refine (sort_con _ _ (by omega)).mono fun rs bs hr => ?_; obtain ⟨rfl, rfl⟩ := hr) | (refine (compact_con _ _).mono fun rs bs hr => ?_; obtain ⟨rfl, rfl⟩ := hr) | (refine Loops.by (M := M16) 6 noPlan fol (by kernel_rfl) (ι := Nat) (fun i => ⟨[(3, AV.ref [3] 16 1 0 (((l.take i).filter mayD).map D.str).length), (6, AV.d (D.sl 1 (l.map D.str))), (7, AV.d (D.int .i64 l.length)), (8, AV.d (D.int .i64 i))], [([3], 16, AO.row 9 1 (((l.take i).filter mayD).map D.str))], 17⟩) (fun i => i ≤ l.length) (fun i => l.length - i) (fun i hI => ?_) (0) (Nat.zero_le _) (Forget.mk' ⟨⟨rfl, rfl⟩, ⟨rfl, rfl⟩, ⟨rfl, rfl⟩, ⟨rfl, rfl⟩, trivial⟩ ⟨⟨rfl, rfl, rfl⟩, trivial⟩ rfl rfl); have hf := filter_upto mayD l i) | (refine fun x hx => ?_; (try simp (disch := omega) only [if_true, if_false, Bool.false_eq_true, min_nn, max_nn, min_ln, min_nl, max_ln, max_nl, getD_map, take_bytes, wrap_u64, wrap_u32, shr_i64, shr_u64, shr_u32, shl_i64, shl_u64, Int.reduceToNat, Int.reducePow, Int.pow_succ, Int.pow_zero, Int.one_mul, Int.reduceMul, wrap_id, wrap_u8_nat, wrap_i64_u8, byteD_mk, map_snoc, map_app, set_map, List.length_map, List.length_append, List.length_cons, List.length_nil, Int.toNat_natCast, List.drop_zero, List.take_succ_cons, List.take_zero, List.take_length, List.nil_append, List.append_nil, Nat.zero_add, toNat_pred, toNat_succ, toNat_addn, toNat_subn, sortS_len] at hx); subst hx) | rw [List.take_length] | (rw [List.take_of_length_le]; rotate_left; (first | omega | (simp only [dlen, true_and, and_true, Nat.le_refl, List.length_map, List.length_append, List.length_cons, List.length_nil, List.length_take, List.length_drop, List.length_replicate, Int.toNat_natCast, List.append_nil, hb9, sortS_len] <;> omega) | fail)) | refine fun h => ?_ | fail); all_goals (try (conv => whnf))
  · refine ⟨i + 1, ⟨by omega, by omega⟩, ?_⟩
    rw [filter_yes (by omega) (by assumption)]
    exact (Forget.mk' ⟨⟨rfl, rfl⟩, ⟨rfl, rfl⟩, ⟨rfl, rfl⟩, ⟨rfl, rfl⟩, trivial⟩ ⟨⟨rfl, rfl, rfl⟩, trivial⟩ rfl rfl)
  · refine ⟨i + 1, ⟨by omega, by omega⟩, ?_⟩
    rw [filter_no (by omega) (by assumption)]
    exact (Forget.mk' ⟨⟨rfl, rfl⟩, ⟨rfl, rfl⟩, ⟨rfl, rfl⟩, ⟨rfl, rfl⟩, trivial⟩ ⟨⟨rfl, rfl, rfl⟩, trivial⟩ rfl rfl)
  · rw [List.take_of_length_le (i := i) (l := l) (by omega), order_eq]
theorem awake_con : Has Try.prog 9 [] (fun rs _ => rs = [CV.d (D.bool true)]) := by
  refine Has_of_run (fn := Try.f9) (M := M0) fol (by kernel_rfl) 6 noPlan [] [] (by kernel_rfl) (Nat.le_of_ble_eq_true rfl) ?_
  repeat' ((conv => whnf); first | (refine And.intro (fun h => ?_) (fun h => ?_) <;> (try simp only [toNat_pred, toNat_succ, toNat_addn, toNat_subn, decide_eq_true_eq, decide_eq_false_iff_not, Bool.not_eq_true', Bool.not_eq_false', List.length_map, Int.toNat_natCast, Int.not_lt, Int.not_le, Bool.not_eq_true, Bool.false_eq_true, Bool.true_eq_false, Bool.not_true, Bool.not_false, reduceCtorEq, beq_iff_eq, Bool.not_eq_eq_eq_not, bne_iff_ne, ne_eq, decide_not, Decidable.not_not, Classical.not_not] at h)) | refine And.intro rfl ?_ | refine And.intro (Or.inr rfl) ?_ | refine And.intro (Nat.le_of_ble_eq_true rfl) ?_ | refine And.intro ⟨rfl, rfl⟩ ?_ | refine And.intro ⟨rfl, rfl, trivial⟩ ?_ | refine And.intro (Int.natCast_nonneg _) ?_ | refine Or.inl (And.intro rfl (And.intro rfl (And.intro rfl (And.intro rfl ?_)))) | refine Or.inl (And.intro rfl (And.intro rfl ?_)) | refine Or.inr (And.intro (Nat.le_of_ble_eq_true rfl) ?_) | refine Or.inl (And.intro (by unfold in64; omega) ?_) | refine And.intro (by first | omega | (simp only [dlen, true_and, and_true, Nat.le_refl, List.length_map, List.length_append, List.length_cons, List.length_nil, List.length_take, List.length_drop, List.length_replicate, Int.toNat_natCast, List.append_nil] <;> omega) | fail) ?_ | refine And.intro (show elemsP _ _ _ by repeat' (first | exact rfl | exact trivial | constructor)) ?_ | (refine (put_con [_, _]).mono fun rs bs hr => ?_; rw [if_pos (by decide +kernel)] at hr; subst hr) | (refine (right_con [_, _]).mono fun rs bs hr => ?_; subst hr) | (refine (order_con [_, _, _] (by decide)).mono fun rs bs hr => ?_; rw [order_bab] at hr; subst hr) | (refine (longest_con [_, _] _ (by decide) rises_ab).mono fun rs bs hr => ?_; replace hr := found_unique rises_ab hr found_ab; subst hr) | (refine And.intro (by decide +kernel) ?_) | (refine fun x hx => ?_; (try simp (disch := omega) only [if_true, if_false, Bool.false_eq_true, min_nn, max_nn, min_ln, min_nl, max_ln, max_nl, getD_map, take_bytes, wrap_u64, wrap_u32, shr_i64, shr_u64, shr_u32, shl_i64, shl_u64, Int.reduceToNat, Int.reducePow, Int.pow_succ, Int.pow_zero, Int.one_mul, Int.reduceMul, wrap_id, wrap_u8_nat, wrap_i64_u8, byteD_mk, map_snoc, map_app, set_map, List.length_map, List.length_append, List.length_cons, List.length_nil, Int.toNat_natCast, List.drop_zero, List.take_succ_cons, List.take_zero, List.take_length, List.nil_append, List.append_nil, Nat.zero_add, toNat_pred, toNat_succ, toNat_addn, toNat_subn] at hx); subst hx) | rw [List.take_length] | (rw [List.take_of_length_le]; rotate_left; (first | omega | (simp only [dlen, true_and, and_true, Nat.le_refl, List.length_map, List.length_append, List.length_cons, List.length_nil, List.length_take, List.length_drop, List.length_replicate, Int.toNat_natCast, List.append_nil] <;> omega) | fail)) | refine fun h => ?_ | fail); all_goals (try (conv => whnf))
  all_goals first | exact rb rfl | exact absurd ‹rightS _ = false› (by decide +kernel) | exact absurd trivial ‹¬True› | exact absurd awake_str ‹_›
theorem symbolPuts_con (t : List ByteArray) : Has Try.prog 3 [CV.d (D.sl 1 (t.map D.str))] (fun rs _ => rs = [CV.d (D.bool true)]) := by
  refine Has_of_run (fn := Try.f3) (M := M0) fol (by kernel_rfl) 5 noPlan [] [] (by kernel_rfl) (Nat.le_of_ble_eq_true rfl) ?_
  repeat' ((conv => whnf); first | (refine And.intro (fun h => ?_) (fun h => ?_) <;> (try simp only [toNat_pred, toNat_succ, toNat_addn, toNat_subn, decide_eq_true_eq, decide_eq_false_iff_not, Bool.not_eq_true', Bool.not_eq_false', List.length_map, Int.toNat_natCast, Int.not_lt, Int.not_le, Bool.not_eq_true, Bool.false_eq_true, Bool.true_eq_false, Bool.not_true, Bool.not_false, reduceCtorEq, beq_iff_eq, Bool.not_eq_eq_eq_not, bne_iff_ne, ne_eq, decide_not, Decidable.not_not, Classical.not_not] at h)) | refine And.intro rfl ?_ | refine And.intro (Or.inr rfl) ?_ | refine And.intro (Nat.le_of_ble_eq_true rfl) ?_ | refine And.intro ⟨rfl, rfl⟩ ?_ | refine And.intro ⟨rfl, rfl, trivial⟩ ?_ | refine And.intro (Int.natCast_nonneg _) ?_ | refine Or.inl (And.intro rfl (And.intro rfl (And.intro rfl (And.intro rfl ?_)))) | refine Or.inl (And.intro rfl (And.intro rfl ?_)) | refine Or.inr (And.intro (Nat.le_of_ble_eq_true rfl) ?_) | refine Or.inl (And.intro (by unfold in64; omega) ?_) | refine And.intro (by first | omega | (simp only [dlen, true_and, and_true, Nat.le_refl, List.length_map, List.length_append, List.length_cons, List.length_nil, List.length_take, List.length_drop, List.length_replicate, Int.toNat_natCast, List.append_nil] <;> omega) | fail) ?_ | refine And.intro (show elemsP _ _ _ by repeat' (first | exact rfl | exact trivial | constructor)) ?_ | (refine awake_con.mono fun rs bs hr => ?_; subst hr) | (refine (few_con _).mono fun rs bs hr => ?_; subst hr) | (refine (right_con _).mono fun rs bs hr => ?_; subst hr) | (refine (rightRef_con _).mono fun rs bs hr => ?_; subst hr) | (refine (putRef_con _ (right_at ‹_›).1 (right_size ‹_›)).mono fun rs bs hr => ?_; subst hr) | (refine (put_con _).mono fun rs bs hr => ?_; have hcs := Bool.eq_false_or_eq_true (rightS t); rcases hcs with hR | hR <;> first | (rw [if_pos hR] at hr; subst hr) | (rw [if_neg (by simp [hR])] at hr; subst hr) | fail) | (refine (same01_con _ _).mono fun rs bs hr => ?_; subst hr) | (refine fun x hx => ?_; (try simp (disch := omega) only [if_true, if_false, Bool.false_eq_true, min_nn, max_nn, min_ln, min_nl, max_ln, max_nl, getD_map, take_bytes, wrap_u64, wrap_u32, shr_i64, shr_u64, shr_u32, shl_i64, shl_u64, Int.reduceToNat, Int.reducePow, Int.pow_succ, Int.pow_zero, Int.one_mul, Int.reduceMul, wrap_id, wrap_u8_nat, wrap_i64_u8, byteD_mk, map_snoc, map_app, set_map, List.length_map, List.length_append, List.length_cons, List.length_nil, Int.toNat_natCast, List.drop_zero, List.take_succ_cons, List.take_zero, List.take_length, List.nil_append, List.append_nil, Nat.zero_add, toNat_pred, toNat_succ, toNat_addn, toNat_subn] at hx); subst hx) | rw [List.take_length] | (rw [List.take_of_length_le]; rotate_left; (first | omega | (simp only [dlen, true_and, and_true, Nat.le_refl, List.length_map, List.length_append, List.length_cons, List.length_nil, List.length_take, List.length_drop, List.length_replicate, Int.toNat_natCast, List.append_nil] <;> omega) | fail)) | refine fun h => ?_ | fail); all_goals (try (conv => whnf))
  all_goals first | exact rb rfl | (exfalso; simp_all; done) | (exact rb (decide_eq_true (putB_len ‹_›))) | fail
theorem symbolPuts_law (xs : List D) (h : HasTs Try.prog Try.f3.params.toList xs) : Has Try.prog 3 (xs.map CV.d) (fun rs _ => rs = [.d (.bool true)]) := by
  obtain ⟨x, rfl, h1⟩ := one_arg h
  obtain ⟨l, rfl, _, _⟩ := h1.asStrs (e := 9) (by kernel_rfl) (by kernel_rfl) (by kernel_rfl)
  exact symbolPuts_con l
end Go.Fw
namespace Go.Fw
open Go
set_option linter.unusedVariables false
set_option linter.unusedSimpArgs false
def Cand (o : List ByteArray) (s : ByteArray) : Prop := mayD s = true ∧ (o.length = 0 ∨ slt (o.getD (o.length - 1) default) s = true)
def emp : ByteArray := ⟨#[]⟩
def Best (l o : List ByteArray) (i : Nat) (b : ByteArray) : Prop :=
  (b = ⟨#[]⟩ ∧ ∀ j, j < i → ¬ Cand o (l.getD j default)) ∨ (Cand o b ∧ b ∈ l ∧ ∀ j, j < i → Cand o (l.getD j default) → slt (l.getD j default) b = false)
theorem mayD_iff {s : ByteArray} : mayD s = true ↔ 1 ≤ s.size ∧ s.size ≤ 8 := by simp [mayD]
theorem best_size {l o : List ByteArray} {i : Nat} {b : ByteArray} (h : Best l o i b) : b.size ≤ 8 := by
  rcases h with ⟨rfl, _⟩ | ⟨h, _⟩
  · decide
  · exact (mayD_iff.1 h.1).2
theorem best_skip {l o : List ByteArray} {i : Nat} {b : ByteArray} (h : Best l o i b) (hc : ¬ Cand o (l.getD i default)) : Best l o (i + 1) b := by
  rcases h with ⟨e, h⟩ | ⟨h1, h2, h3⟩
  · exact .inl ⟨e, upto_succ h hc⟩
  · exact .inr ⟨h1, h2, upto_succ h3 fun hc' => absurd hc' hc⟩
theorem best_keep {l o : List ByteArray} {i : Nat} {b : ByteArray} (h : Best l o i b) (hb : ¬ b = ⟨#[]⟩) (hs : slt (l.getD i default) b = false) : Best l o (i + 1) b := by
  rcases h with ⟨e, h⟩ | ⟨h1, h2, h3⟩
  · exact absurd e hb
  · exact .inr ⟨h1, h2, upto_succ h3 fun _ => hs⟩
theorem best_take {l o : List ByteArray} {i : Nat} {b : ByteArray} (h : Best l o i b) (hi : i < l.length) (hc : Cand o (l.getD i default)) (hb : b = ⟨#[]⟩ ∨ slt (l.getD i default) b = true) : Best l o (i + 1) (l.getD i default) := by
  refine .inr ⟨hc, getD_mem hi, upto_succ (fun j hj hcj => ?_) fun _ => slt_irrefl _⟩
  rcases h with ⟨e, h⟩ | ⟨h1, h2, h3⟩
  · exact absurd hcj (h j hj)
  · rcases hb with rfl | hb
    · have := (mayD_iff.1 h1.1).1
      exact absurd this (by decide)
    · refine Bool.eq_false_iff.2 fun hs => ?_
      have := slt_trans hs hb
      rw [h3 j hj hcj] at this
      cases this
theorem cmp_gt {a b : ByteArray} (h : 0 < cmpS a b) : slt b a = true := by
  refine (Bool.eq_false_or_eq_true _).resolve_right fun h1 => ?_
  simp only [cmpS, h1, Bool.false_eq_true, if_false] at h
  split at h <;> omega
theorem cmp_le {a b : ByteArray} (h : cmpS a b ≤ 0) : slt b a = false := by
  refine Bool.eq_false_iff.2 fun h1 => ?_
  simp only [cmpS, slt_asymm h1, h1, Bool.false_eq_true, if_false, if_true] at h
  omega
theorem cand_of {o : List ByteArray} {s : ByteArray} (h1 : 1 ≤ s.size) (h8 : s.size ≤ 8) (h : o.length = 0 ∨ 0 < cmpS s (o.getD (o.length - 1) default)) : Cand o s := ⟨mayD_iff.2 ⟨h1, h8⟩, h.imp id cmp_gt⟩
theorem cand_not {o : List ByteArray} {s : ByteArray} (h : s.size < 1 ∨ 8 < s.size ∨ (o.length ≠ 0 ∧ cmpS s (o.getD (o.length - 1) default) ≤ 0)) : ¬ Cand o s := fun hc => by
  have := mayD_iff.1 hc.1
  rcases h with h | h | ⟨h, h'⟩
  · omega
  · omega
  · rcases hc.2 with h0 | hs
    · exact h h0
    · rw [cmp_le h'] at hs
      cases hs
 
def Tab0 (l : List ByteArray) : List ByteArray := tidy (l.filter mayD)
theorem tab0_mem (l : List ByteArray) (s : ByteArray) : s ∈ Tab0 l ↔ s ∈ l ∧ mayD s = true := by
  rw [Tab0, (tidy_spec _).2, List.mem_filter]
theorem tab0_rises (l : List ByteArray) : Rises (Tab0 l) := (tidy_spec _).1
theorem orderS_eq (l : List ByteArray) : orderS l = (Tab0 l).take 255 := rfl
theorem take_last {T o : List ByteArray} (ho : o = T.take o.length) (hn : 0 < o.length) : o.length ≤ T.length ∧ o.getD (o.length - 1) default = T.getD (o.length - 1) default := by
  have hl : o.length ≤ T.length := by
    have := congrArg List.length ho
    simp at this
    omega
  refine ⟨hl, ?_⟩
  have : (T.take o.length).getD (o.length - 1) default = T.getD (o.length - 1) default := by
    simp only [List.getD_eq_getElem?_getD, List.getElem?_take]
    rw [if_pos (by omega)]
  rw [← ho] at this
  exact this
theorem take_len {T o : List ByteArray} (ho : o = T.take o.length) : o.length ≤ T.length := by
  have := congrArg List.length ho
  simp at this
  omega
theorem last_size {l o : List ByteArray} (ho : o = (Tab0 l).take o.length) : o.length = 0 ∨ (o.getD (o.length - 1) default).size ≤ 8 := by
  by_cases h0 : o.length = 0
  · exact .inl h0
  · right
    have hl := take_len ho
    rw [(take_last ho (by omega)).2]
    exact (mayD_iff.1 ((tab0_mem l _).1 (getD_mem (by omega))).2).2
theorem best_none {l o : List ByteArray} (ho : o = (Tab0 l).take o.length) (h : Best l o l.length ⟨#[]⟩) : o = Tab0 l := by
  have hl := take_len ho
  rcases Nat.lt_or_ge o.length (Tab0 l).length with hlt | hge
  · exfalso
    have hm := getD_mem hlt
    obtain ⟨h1, h2⟩ := (tab0_mem l _).1 hm
    have hc : Cand o ((Tab0 l).getD o.length default) := by
      refine ⟨h2, ?_⟩
      by_cases h0 : o.length = 0
      · exact .inl h0
      · right
        rw [(take_last ho (by omega)).2]
        exact tab0_rises l _ _ (by omega) hlt
    obtain ⟨j, hj, e⟩ := List.mem_iff_getElem.1 h1
    have ej : l.getD j default = (Tab0 l).getD o.length default := by
      rw [List.getD_eq_getElem?_getD, List.getElem?_eq_getElem hj]; exact e
    rcases h with ⟨_, h⟩ | ⟨h, _⟩
    · exact h j hj (by rw [ej]; exact hc)
    · exact absurd (mayD_iff.1 h.1).1 (by decide)
  · rw [List.take_of_length_le hge] at ho
    exact ho
theorem best_next {l o : List ByteArray} {b : ByteArray} (ho : o = (Tab0 l).take o.length) (hb : ¬ b = ⟨#[]⟩) (h : Best l o l.length b) : o ++ [b] = (Tab0 l).take (o ++ [b]).length := by
  have hl := take_len ho
  rcases h with ⟨e, _⟩ | ⟨hc, hm, hmin⟩
  · exact absurd e hb
  · have hbT := (tab0_mem l b).2 ⟨hm, hc.1⟩
    obtain ⟨k, hk, ek⟩ := List.mem_iff_getElem.1 hbT
    have ek' : (Tab0 l).getD k default = b := by rw [List.getD_eq_getElem?_getD, List.getElem?_eq_getElem hk]; exact ek
    have hkn : o.length ≤ k := by
      rcases hc.2 with h0 | hs
      · omega
      · by_cases h0 : o.length = 0
        · omega
        · refine Nat.le_of_not_lt fun hlt => ?_
          rw [(take_last ho (by omega)).2, ← ek'] at hs
          by_cases e : k = o.length - 1
          · rw [e, slt_irrefl] at hs; cases hs
          · have := tab0_rises l k (o.length - 1) (by omega) (by omega)
            rw [slt_asymm this] at hs
            cases hs
    have hlt : o.length < (Tab0 l).length := by omega
    have e : k = o.length := by
      refine Classical.byContradiction fun hne => ?_
      obtain ⟨h1, h2⟩ := (tab0_mem l _).1 (getD_mem hlt)
      have hc' : Cand o ((Tab0 l).getD o.length default) := by
        refine ⟨h2, ?_⟩
        by_cases h0 : o.length = 0
        · exact .inl h0
        · right
          rw [(take_last ho (by omega)).2]
          exact tab0_rises l _ _ (by omega) hlt
      obtain ⟨j, hj, ej⟩ := List.mem_iff_getElem.1 h1
      have ej' : l.getD j default = (Tab0 l).getD o.length default := by
        rw [List.getD_eq_getElem?_getD, List.getElem?_eq_getElem hj]; exact ej
      have h3 := hmin j hj (by rw [ej']; exact hc')
      rw [ej', ← ek', tab0_rises l _ _ (by omega) hk] at h3
      cases h3
    rw [List.length_append, List.length_singleton, take_snoc hlt, ← ho, ← e, ek']
theorem take_eq_255 {l o : List ByteArray} (ho : o = (Tab0 l).take o.length) (h : 255 ≤ o.length) (h2 : o.length ≤ 255) : o = orderS l := by
  rw [orderS_eq]
  have : o.length = 255 := by omega
  rw [this] at ho
  exact ho
theorem all_255 {l : List ByteArray} {o : List ByteArray} (ho : o = Tab0 l) (h : o.length ≤ 255) : o = orderS l := by
  rw [orderS_eq, ← ho, List.take_of_length_le h]
end Go.Fw
namespace Go.Fw
open Go Go.Proofs
set_option maxHeartbeats 10000000
set_option maxRecDepth 100000
set_option linter.constructorNameAsVariable false
set_option linter.unusedVariables false
set_option linter.unusedSimpArgs false
theorem orderRef_con (l : List ByteArray) : Has Try.prog 18 [CV.d (D.sl 1 (l.map D.str))] (fun rs _ => rs = [CV.own 9 1 ((orderS l).map D.str)] ) := by
  have hb9 : Try.prog.bytesOf 9 = 16 := by kernel_rfl
  refine Has_of_run (fn := Try.f18) (M := M0) fol (by kernel_rfl) 7 noPlan [.own] [] (by kernel_rfl) (Nat.le_of_ble_eq_true rfl) ?_
  repeat' ((conv => whnf); first | (refine And.intro (fun h => ?_) (fun h => ?_) <;> (try simp only [toNat_pred, toNat_succ, toNat_addn, toNat_subn, decide_eq_true_eq, decide_eq_false_iff_not, Bool.not_eq_true', Bool.not_eq_false', List.length_map, Int.toNat_natCast, Int.not_lt, Int.not_le, Bool.not_eq_true, Bool.false_eq_true, Bool.true_eq_false, Bool.not_true, Bool.not_false, reduceCtorEq, beq_iff_eq, Bool.not_eq_eq_eq_not, bne_iff_ne, ne_eq, decide_not, Decidable.not_not, Classical.not_not] at h)) | refine And.intro rfl ?_ | refine And.intro (Or.inr rfl) ?_ | refine And.intro (Nat.le_of_ble_eq_true rfl) ?_ | refine And.intro ⟨rfl, rfl⟩ ?_ | refine And.intro ⟨rfl, rfl, trivial⟩ ?_ | refine And.intro (Int.natCast_nonneg _) ?_ | refine Or.inl (And.intro rfl (And.intro rfl (And.intro rfl (And.intro rfl ?_)))) | refine Or.inl (And.intro rfl (And.intro rfl ?_)) | refine Or.inr (And.intro (Nat.le_of_ble_eq_true rfl) ?_) | refine Or.inl (And.intro (by unfold in64; omega) ?_) | refine And.intro (by first | omega | (simp only [dlen, true_and, and_true, Nat.le_refl, List.length_map, List.length_append, List.length_cons, List.length_nil, List.length_take, List.length_drop, List.length_replicate, Int.toNat_natCast, List.append_nil, hb9] <;> omega) | fail) ?_ | refine And.intro (show elemsP _ _ _ by repeat' (first | exact rfl | exact trivial | constructor)) ?_ | (refine (compare_con _ _ (by omega) (by omega)).mono fun rs bs hr => ?_; subst hr) | (refine Loops.by (M := M0) 7 noPlan fol (by kernel_rfl) (ι := List ByteArray) (fun o => ⟨[(0, AV.d (D.sl 1 (l.map D.str))), (3, AV.ref [3] 16 1 0 (o.map D.str).length)], [([3], 16, AO.row 9 1 (o.map D.str))], 17⟩) (fun o => o = (Tab0 l).take o.length ∧ o.length ≤ 255) (fun o => 255 - o.length) (fun o hI => ?_) ([]) ⟨rfl, Nat.zero_le _⟩ (Forget.mk' ⟨⟨rfl, rfl⟩, ⟨rfl, rfl⟩, trivial⟩ ⟨⟨rfl, rfl, rfl⟩, trivial⟩ rfl rfl); obtain ⟨ho, h255⟩ := hI; have hoz := last_size ho) | (refine Loops.by (M := M0) 7 noPlan fol (by kernel_rfl) (ι := Nat × ByteArray) (fun ⟨i, b⟩ => ⟨[(0, AV.d (D.sl 1 (l.map D.str))), (3, AV.ref [3] 16 1 0 (o.map D.str).length), (4, AV.d (D.str b)), (5, AV.d (D.int .i64 i))], [([3], 16, AO.row 9 1 (o.map D.str))], 17⟩) (fun ⟨i, b⟩ => i ≤ l.length ∧ Best l o i b) (fun ⟨i, b⟩ => l.length - i) (fun p hI => ?_) ((0, ⟨#[]⟩)) ⟨Nat.zero_le _, .inl ⟨rfl, fun j h => absurd h (Nat.not_lt_zero _)⟩⟩ (Forget.mk' ⟨⟨rfl, rfl⟩, ⟨rfl, rfl⟩, ⟨rfl, rfl⟩, ⟨rfl, rfl⟩, trivial⟩ ⟨⟨rfl, rfl, rfl⟩, trivial⟩ rfl rfl); obtain ⟨i, b⟩ := p; obtain ⟨hi, hb⟩ := hI; have hbz := best_size hb) | (refine fun x hx => ?_; (try simp (disch := omega) only [if_true, if_false, Bool.false_eq_true, min_nn, max_nn, min_ln, min_nl, max_ln, max_nl, getD_map, take_bytes, wrap_u64, wrap_u32, shr_i64, shr_u64, shr_u32, shl_i64, shl_u64, Int.reduceToNat, Int.reducePow, Int.pow_succ, Int.pow_zero, Int.one_mul, Int.reduceMul, wrap_id, wrap_u8_nat, wrap_i64_u8, byteD_mk, map_snoc, map_app, set_map, List.length_map, List.length_append, List.length_cons, List.length_nil, Int.toNat_natCast, List.drop_zero, List.take_succ_cons, List.take_zero, List.take_length, List.nil_append, List.append_nil, Nat.zero_add, toNat_pred, toNat_succ, toNat_addn, toNat_subn] at hx); subst hx) | rw [List.take_length] | (rw [List.take_of_length_le]; rotate_left; (first | omega | (simp only [dlen, true_and, and_true, Nat.le_refl, List.length_map, List.length_append, List.length_cons, List.length_nil, List.length_take, List.length_drop, List.length_replicate, Int.toNat_natCast, List.append_nil, hb9] <;> omega) | fail)) | refine fun h => ?_ | fail); all_goals (try (conv => whnf))
  · exact ⟨(i + 1, _), ⟨⟨by omega, best_take hb (by omega) (cand_of (by omega) (by omega) (.inr (by assumption))) (.inr (cmp_lt (by assumption)))⟩, by show l.length - (i + 1) < l.length - i; omega⟩, (Forget.mk' ⟨⟨rfl, rfl⟩, ⟨rfl, rfl⟩, ⟨rfl, rfl⟩, ⟨rfl, rfl⟩, trivial⟩ ⟨⟨rfl, rfl, rfl⟩, trivial⟩ rfl rfl)⟩
  · exact ⟨(i + 1, _), ⟨⟨by omega, best_keep hb (by assumption) (cmp_ge (by assumption))⟩, by show l.length - (i + 1) < l.length - i; omega⟩, (Forget.mk' ⟨⟨rfl, rfl⟩, ⟨rfl, rfl⟩, ⟨rfl, rfl⟩, ⟨rfl, rfl⟩, trivial⟩ ⟨⟨rfl, rfl, rfl⟩, trivial⟩ rfl rfl)⟩
  · exact ⟨(i + 1, _), ⟨⟨by omega, best_take hb (by omega) (cand_of (by omega) (by omega) (.inr (by assumption))) (.inl (by assumption))⟩, by show l.length - (i + 1) < l.length - i; omega⟩, (Forget.mk' ⟨⟨rfl, rfl⟩, ⟨rfl, rfl⟩, ⟨rfl, rfl⟩, ⟨rfl, rfl⟩, trivial⟩ ⟨⟨rfl, rfl, rfl⟩, trivial⟩ rfl rfl)⟩
  · exact ⟨(i + 1, _), ⟨⟨by omega, best_skip hb (cand_not (.inr (.inr ⟨by omega, by assumption⟩)))⟩, by show l.length - (i + 1) < l.length - i; omega⟩, (Forget.mk' ⟨⟨rfl, rfl⟩, ⟨rfl, rfl⟩, ⟨rfl, rfl⟩, ⟨rfl, rfl⟩, trivial⟩ ⟨⟨rfl, rfl, rfl⟩, trivial⟩ rfl rfl)⟩
  · exact ⟨(i + 1, _), ⟨⟨by omega, best_take hb (by omega) (cand_of (by omega) (by omega) (.inl (by omega))) (.inr (cmp_lt (by assumption)))⟩, by show l.length - (i + 1) < l.length - i; omega⟩, (Forget.mk' ⟨⟨rfl, rfl⟩, ⟨rfl, rfl⟩, ⟨rfl, rfl⟩, ⟨rfl, rfl⟩, trivial⟩ ⟨⟨rfl, rfl, rfl⟩, trivial⟩ rfl rfl)⟩
  · exact ⟨(i + 1, _), ⟨⟨by omega, best_keep hb (by assumption) (cmp_ge (by assumption))⟩, by show l.length - (i + 1) < l.length - i; omega⟩, (Forget.mk' ⟨⟨rfl, rfl⟩, ⟨rfl, rfl⟩, ⟨rfl, rfl⟩, ⟨rfl, rfl⟩, trivial⟩ ⟨⟨rfl, rfl, rfl⟩, trivial⟩ rfl rfl)⟩
  · exact ⟨(i + 1, _), ⟨⟨by omega, best_take hb (by omega) (cand_of (by omega) (by omega) (.inl (by omega))) (.inl (by assumption))⟩, by show l.length - (i + 1) < l.length - i; omega⟩, (Forget.mk' ⟨⟨rfl, rfl⟩, ⟨rfl, rfl⟩, ⟨rfl, rfl⟩, ⟨rfl, rfl⟩, trivial⟩ ⟨⟨rfl, rfl, rfl⟩, trivial⟩ rfl rfl)⟩
  · exact ⟨(i + 1, _), ⟨⟨by omega, best_skip hb (cand_not (.inr (.inl (by omega))))⟩, by show l.length - (i + 1) < l.length - i; omega⟩, (Forget.mk' ⟨⟨rfl, rfl⟩, ⟨rfl, rfl⟩, ⟨rfl, rfl⟩, ⟨rfl, rfl⟩, trivial⟩ ⟨⟨rfl, rfl, rfl⟩, trivial⟩ rfl rfl)⟩
  · exact ⟨(i + 1, _), ⟨⟨by omega, best_skip hb (cand_not (.inl (by omega)))⟩, by show l.length - (i + 1) < l.length - i; omega⟩, (Forget.mk' ⟨⟨rfl, rfl⟩, ⟨rfl, rfl⟩, ⟨rfl, rfl⟩, ⟨rfl, rfl⟩, trivial⟩ ⟨⟨rfl, rfl, rfl⟩, trivial⟩ rfl rfl)⟩
  · subst h
    rw [all_255 (best_none ho (by rwa [show i = l.length by omega] at hb)) h255]
  · exact ⟨o ++ [b], ⟨⟨best_next ho (by assumption) (by rwa [show i = l.length by omega] at hb), by simp; omega⟩, by simp; omega⟩, (Forget.mk' ⟨⟨rfl, rfl⟩, ⟨rfl, rfl⟩, trivial⟩ ⟨⟨rfl, rfl, rfl⟩, trivial⟩ rfl rfl)⟩
  · rw [take_eq_255 ho (by omega) h255]
end Go.Fw
namespace Go.Fw
open Go
set_option linter.unusedVariables false
set_option linter.unusedSimpArgs false
theorem size_extract {x : ByteArray} {m : Nat} (h : m ≤ x.size) : (x.extract 0 m).size = m := by
  rw [ByteArray.size_extract]; omega
def LongUpTo (t : List ByteArray) (x : ByteArray) (i : Nat) (c : Int) (n : Nat) : Prop :=
  ((c = -1 ∧ n = 0) ∨ ∃ k : Nat, c = k ∧ k < t.length ∧ n = (t.getD k default).size ∧ 0 < n ∧ n ≤ x.size ∧ t.getD k default = x.extract 0 n) ∧
  ∀ j, j < i → (t.getD j default).size ≤ x.size → t.getD j default = x.extract 0 (t.getD j default).size → (t.getD j default).size ≤ n
theorem long_nil (t : List ByteArray) (x : ByteArray) : LongUpTo t x 0 (-1) 0 := ⟨.inl ⟨rfl, rfl⟩, fun j h => absurd h (Nat.not_lt_zero _)⟩
theorem long_hit {t : List ByteArray} {x : ByteArray} {i : Nat} {c : Int} {n : Nat} (h : LongUpTo t x i c n) (hi : i < t.length) (h1 : n < (t.getD i default).size) (h2 : (t.getD i default).size ≤ x.size) (he : x.extract 0 (t.getD i default).size = t.getD i default) :
    LongUpTo t x (i + 1) i (t.getD i default).size :=
  ⟨.inr ⟨i, rfl, hi, rfl, by omega, h2, he.symm⟩, upto_succ (fun j hj a b => by have := h.2 j hj a b; omega) fun _ _ => Nat.le_refl _⟩
theorem long_miss {t : List ByteArray} {x : ByteArray} {i : Nat} {c : Int} {n : Nat} (h : LongUpTo t x i c n) (hm : (t.getD i default).size ≤ n ∨ x.size < (t.getD i default).size ∨ ¬ x.extract 0 (t.getD i default).size = t.getD i default) : LongUpTo t x (i + 1) c n :=
  ⟨h.1, upto_succ h.2 fun a b => by
    rcases hm with hm | hm | hm
    · exact hm
    · omega
    · exact absurd b.symm hm⟩
theorem long_found {t : List ByteArray} {x : ByteArray} {c : Int} {n : Nat} (h8 : ∀ s ∈ t, s.size ≤ 8) (h : LongUpTo t x t.length c n) : Found t x [.d (.int .i64 c), .d (.int .i64 n)] := by
  have hno : ∀ m, n < m → m ≤ 8 → m ≤ x.size → NoBeg t x m := fun m h1 _ h3 k hk e => by
    have hs : (t.getD k default).size = m := by rw [e, size_extract h3]
    have := h.2 k hk (by omega) (by rw [hs]; exact e)
    omega
  rcases h.1 with ⟨rfl, rfl⟩ | ⟨k, rfl, hk, hn, h0, hx, e⟩
  · exact .inr ⟨rfl, hno⟩
  · exact .inl ⟨k, n, rfl, h0, by rw [hn]; exact h8 _ (getD_mem hk), hx, hk, e, hno⟩
theorem order_size (l : List ByteArray) : ∀ s ∈ orderS l, s.size ≤ 8 := fun s hs => by
  rw [orderS_eq] at hs
  exact (mayD_iff.1 ((tab0_mem l s).1 (List.mem_of_mem_take hs)).2).2
theorem order_len (l : List ByteArray) : (orderS l).length ≤ 255 := by rw [orderS_eq]; simp; omega
theorem order_right (l : List ByteArray) : rightS (orderS l) = true := by
  refine right_good (order_len l) fun j hj => ?_
  have hm := getD_mem hj
  have hT := tab0_mem l ((orderS l).getD j default)
  have hd := (hT.1 (by rw [orderS_eq] at hm; exact List.mem_of_mem_take hm)).2
  obtain ⟨h1, h8⟩ := mayD_iff.1 hd
  refine okAt_ok h1 h8 ?_
  by_cases h0 : j = 0
  · exact .inl h0
  · exact .inr (orderS_rises l _ _ (by omega) hj)
theorem order_self (l : List ByteArray) : orderS (orderS l) = orderS l := by
  have hf : (orderS l).filter mayD = orderS l := List.filter_eq_self.2 fun s hs => by
    rw [orderS_eq] at hs
    exact ((tab0_mem l s).1 (List.mem_of_mem_take hs)).2
  have ht : Tab0 (orderS l) = orderS l := rises_unique (tab0_rises _) (orderS_rises l) fun s => by
    rw [Tab0, hf, (tidy_spec _).2]
  rw [orderS_eq (orderS l), ht, List.take_of_length_le (order_len l)]
theorem rises_of_right {t : List ByteArray} (h : rightS t = true) : Rises t := by
  have hstep : ∀ j, 0 < j → j < t.length → slt (t.getD (j - 1) default) (t.getD j default) = true := fun j h0 hj => by
    have := (right_at h).2 j hj
    simp only [okAt, Bool.and_eq_true, Bool.or_eq_true, decide_eq_true_eq] at this
    rcases this.2 with h1 | h1
    · omega
    · exact h1
  intro a b hab hb
  induction b with
  | zero => omega
  | succ b ih =>
    have h1 := hstep (b + 1) (by omega) hb
    rw [Nat.add_sub_cancel] at h1
    by_cases e : a = b
    · subst e; exact h1
    · exact slt_trans (ih (by omega) (by omega)) h1
theorem few_len {l : List ByteArray} (h : fewS l = true) : l.length ≤ 1000000000 := by
  simp only [fewS, Bool.and_eq_true, decide_eq_true_eq] at h
  omega
end Go.Fw
