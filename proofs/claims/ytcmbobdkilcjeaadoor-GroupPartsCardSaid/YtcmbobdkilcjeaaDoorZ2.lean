/- What the proofs of this seat lean on, part 2: a symbolic machine that is shown sound, walks through functions, plain laws. -/
import GoSem.Claim
import Derived.Lib.ItoaNum
import Derived.Test.YtcmbobdkilcjeaaDoorZ1
namespace Go.Fw
open Go
def tabList : List (Nat × IntKind × List Int) := [(0, .u64, Lib.pow10Tab)]
 
def varList : List Nat := []
 
def nestList : List Nat := [22, 37]
end Go.Fw
namespace Go.Fw
open Go
set_option linter.unusedVariables false
abbrev Key := List Nat
 
inductive AV where
  | d (x : D)
  | nils
  | ref (k : Key) (g sz off len : Nat)
  | elt (k : Key) (g sz j o : Nat)
  | addr (k : Key) (g c : Nat)
  | mp (k : Key) (g : Nat)
  | nref (k : Key) (g len : Nat)
  | sub (k : Key) (g j sz len : Nat)
  | selt (k : Key) (g j sz i : Nat)
  | agg (l : List AV)
  | tup (l : List AV)
  | clo (fn : Fn) (first cap : List AV)
  | opt (c : Bool) (x : AV)
  | dead
 
inductive NE where
  | d (x : D)
  | row (e sz : Nat) (l : List D)
  | hole
 
inductive AO where
  | row (e sz : Nat) (l : List D)
  | box (e : Nat) (l : List AV)
  | iter (s : ByteArray) (pos : Nat)
  | map (es : List (Option (D × D)))
  | miter (m since last : Nat) (seen : List Nat) (cur : Option Nat)
  | nest (e : Nat) (l : List NE)
structure St where
  E : List (Nat × AV)
  H : List (Key × Nat × AO)
  c : Nat
def getIn : List (Nat × AV) → Nat → AV
  | [], _ => .dead
  | (k, v) :: r, t => if k = t then v else getIn r t
def objIn : List (Key × Nat × AO) → Key → Option (Nat × AO)
  | [], _ => none
  | (k', g, o) :: r, k => if k' = k then some (g, o) else objIn r k
def putIn : List (Nat × AV) → Nat → AV → List (Nat × AV)
  | [], t, v => [(t, v)]
  | (k, u) :: r, t, v => if k = t then (k, v) :: r else (k, u) :: putIn r t v
theorem getIn_putIn (E : List (Nat × AV)) (t : Nat) (v : AV) (s : Nat) : getIn (putIn E t v) s = if s = t then v else getIn E s := by
  induction E with
  | nil => simp only [putIn, getIn]; by_cases h : s = t <;> simp [h]; intro h'; exact absurd h'.symm h
  | cons p r ih =>
    obtain ⟨k, u⟩ := p
    simp only [putIn]
    by_cases hk : k = t
    · subst hk
      simp only [if_true, getIn]
      by_cases hs : k = s
      · subst hs; simp
      · simp only [hs, if_false]; rw [if_neg (fun h => hs h.symm)]
    · simp only [hk, if_false, getIn]
      by_cases hs : k = s
      · subst hs; simp [hk]
      · simp only [hs, if_false]; exact ih
theorem mem_of_objIn {H : List (Key × Nat × AO)} {k : Key} {g : Nat} {o : AO} (h : objIn H k = some (g, o)) : (k, g, o) ∈ H := by
  induction H with
  | nil => simp [objIn] at h
  | cons p r ih =>
    obtain ⟨k', g', o'⟩ := p
    simp only [objIn] at h
    by_cases hk : k' = k
    · simp only [hk, if_true, Option.some.injEq, Prod.mk.injEq] at h
      obtain ⟨rfl, rfl⟩ := h
      simp [hk]
    · simp only [hk, if_false] at h
      exact List.mem_cons_of_mem _ (ih h)
 
def DRv (w : World) (F : Nat → Prop) (x : D) (v : Value) : Prop :=
  match x with
  | .agg l => ∃ cs, v = .agg cs ∧ DRl w F l cs.toList
  | x => DRc w F x [v]
theorem DRv.mono {w w' : World} {F F' : Nat → Prop} (hk : ∀ b, F b → w'.heap[b]? = w.heap[b]?) (hF : ∀ b, F b → F' b) {x : D} {v : Value} (h : DRv w F x v) : DRv w' F' x v := by
  cases x <;> simp only [DRv] at h ⊢
  case agg l =>
    obtain ⟨cs, e, h⟩ := h
    exact ⟨cs, e, DRl.mono hk hF _ _ h⟩
  all_goals exact DRc.mono hk hF _ _ h
 
abbrev Blk := Nat → Option (Nat × Nat)
 
def encP (a b : Nat) : Nat := 2 ^ a * (2 * b + 1)
theorem encP_pos (a b : Nat) : 0 < encP a b := Nat.mul_pos (Nat.two_pow_pos a) (Nat.succ_pos _)
theorem encP_inj : ∀ {a b a' b' : Nat}, encP a b = encP a' b' → a = a' ∧ b = b'
  | 0, b, 0, b', h => by simp only [encP, Nat.pow_zero, Nat.one_mul] at h; exact ⟨rfl, by omega⟩
  | 0, b, a' + 1, b', h => by
    simp only [encP, Nat.pow_zero, Nat.one_mul, Nat.pow_succ] at h
    have : 2 ^ a' * 2 * (2 * b' + 1) = 2 * (2 ^ a' * (2 * b' + 1)) := by rw [Nat.mul_comm (2 ^ a') 2, Nat.mul_assoc]
    omega
  | a + 1, b, 0, b', h => by
    simp only [encP, Nat.pow_zero, Nat.one_mul, Nat.pow_succ] at h
    have : 2 ^ a * 2 * (2 * b + 1) = 2 * (2 ^ a * (2 * b + 1)) := by rw [Nat.mul_comm (2 ^ a) 2, Nat.mul_assoc]
    omega
  | a + 1, b, a' + 1, b', h => by
    have e : ∀ a b, encP (a + 1) b = 2 * encP a b := fun a b => by simp only [encP, Nat.pow_succ]; rw [Nat.mul_comm (2 ^ a) 2, Nat.mul_assoc]
    rw [e, e] at h
    have := encP_inj (a := a) (b := b) (a' := a') (b' := b') (by omega)
    exact ⟨by rw [this.1], this.2⟩
abbrev Info := Option (Nat × Nat)
def encI : Info → Nat
  | none => 0
  | some (b, n) => encP b n
theorem encI_inj : ∀ {x y : Info}, encI x = encI y → x = y
  | none, none, _ => rfl
  | none, some (b, n), h => by have := encP_pos b n; simp only [encI] at h; omega
  | some (b, n), none, h => by have := encP_pos b n; simp only [encI] at h; omega
  | some (b, n), some (b', n'), h => by obtain ⟨rfl, rfl⟩ := encP_inj h; rfl
def encL : List Info → Nat
  | [] => 0
  | x :: r => encP (encI x) (encL r)
theorem encL_inj : ∀ {x y : List Info}, encL x = encL y → x = y
  | [], [], _ => rfl
  | [], y :: r, h => by have := encP_pos (encI y) (encL r); simp only [encL] at h; omega
  | x :: r, [], h => by have := encP_pos (encI x) (encL r); simp only [encL] at h; omega
  | x :: r, y :: q, h => by
    obtain ⟨h1, h2⟩ := encP_inj h
    rw [encI_inj h1, encL_inj h2]
 
def encBN (p : Nat × List Info) : Nat := maxLen + encP p.1 (encL p.2)
theorem encBN_inj {p q : Nat × List Info} (h : encBN p = encBN q) : p = q := by
  obtain ⟨h1, h2⟩ := encP_inj (Nat.add_left_cancel h)
  exact Prod.ext h1 (encL_inj h2)
open Classical in
 
noncomputable def decBN (n : Nat) : Nat × List Info := if h : ∃ p, encBN p = n then h.choose else (n, [])
theorem decBN_enc (p : Nat × List Info) : decBN (encBN p) = p := by
  have h : ∃ q, encBN q = encBN p := ⟨p, rfl⟩
  unfold decBN
  rw [dif_pos h]
  exact encBN_inj h.choose_spec
theorem decBN_le {n : Nat} (h : n ≤ maxLen) : decBN n = (n, []) := by
  unfold decBN
  rw [dif_neg]
  rintro ⟨p, rfl⟩
  have := encP_pos p.1 (encL p.2)
  unfold encBN at h
  omega
 
noncomputable def subB (n : Nat) : List Nat := (decBN n).2.filterMap fun x => x.map Prod.fst
theorem subB_le {n : Nat} (h : n ≤ maxLen) : subB n = [] := by simp [subB, decBN_le h]
 
noncomputable def blkO : Option (Nat × Nat) → List Nat
  | none => []
  | some (b, n) => b :: subB n
theorem blkO_le {b n : Nat} (hn : n ≤ maxLen) : blkO (some (b, n)) = [b] := by simp [blkO, subB_le hn]
noncomputable def blkL (B : Blk) (g : Nat) : List Nat := blkO (B g)
theorem blkL_congr {B B' : Blk} {g g' : Nat} (h : B' g' = B g) : blkL B' g' = blkL B g := by unfold blkL; rw [h]
theorem blkL_of {B : Blk} {g b n : Nat} (h : B g = some (b, n)) : b ∈ blkL B g := by simp [blkL, blkO, h]
theorem blkL_le {B : Blk} {g b n : Nat} (h : B g = some (b, n)) (hn : n ≤ maxLen) : blkL B g = [b] := by simp [blkL, h, blkO_le hn]
theorem blkL_none {B : Blk} {g : Nat} (h : B g = none) : blkL B g = [] := by simp [blkL, blkO, h]
 
def slv (i : Info) (len : Nat) : Value := match i with
  | none => .slice none 0 0
  | some (b, n) => .slice (some ⟨b, 0, none⟩) len n
 
def AV.cell : AV → Bool
  | .d x => !x.isAgg
  | .agg _ | .tup _ | .opt _ _ | .dead => false
  | _ => true
def cellsOK : List AV → Bool
  | [] => true
  | x :: r => x.cell && cellsOK r
mutual
def VR (w : World) (F : Nat → Prop) (B : Blk) (c : Nat) : AV → Value → Prop
  | .d x, v => DRv w F x v
  | .nils, v => v = .slice none 0 0
  | .ref _ g sz off len, v => g < c ∧ (match B g with
      | none => v = .slice none 0 0 ∧ off = 0 ∧ len = 0
      | some (b, n) => ∃ ad : Addr, v = .slice (some ad) len (n - off) ∧ off + len ≤ n ∧ (ad = ⟨b, off * sz, none⟩ ∨ (len = 0 ∧ 0 < off)))
  | .elt _ g sz j o, v => g < c ∧ ∃ b n, B g = some (b, n) ∧ v = .pointer (some ⟨b, j * sz + o, none⟩)
  | .addr _ g o, v => g < c ∧ ∃ b n, B g = some (b, n) ∧ v = .pointer (some ⟨b, o, none⟩)
  | .mp _ g, v => g < c ∧ ∃ b n, B g = some (b, n) ∧ v = .map (some b)
  | .nref _ g len, v => g < c ∧ (match B g with
      | none => v = .slice none 0 0 ∧ len = 0
      | some (b, n) => v = .slice (some ⟨b, 0, none⟩) len (decBN n).1)
  | .sub _ g j _ len, v => g < c ∧ ∃ b n, B g = some (b, n) ∧ v = slv ((decBN n).2.getD j none) len ∧ ((decBN n).2.getD j none = none → len = 0)
  | .selt _ g j sz i, v => g < c ∧ ∃ b n b' n', B g = some (b, n) ∧ (decBN n).2.getD j none = some (b', n') ∧ v = .pointer (some ⟨b', i * sz, none⟩)
  | .agg l, v => ∃ cs, v = .agg cs ∧ cellsOK l = true ∧ VRl w F B c l cs.toList
  | .tup l, v => ∃ vs, v = .tuple vs ∧ VRl w F B c l vs.toList
  | .clo fn f cp, v => ∃ fv cv, v = .func fn fv cv ∧ VRl w F B c f fv.toList ∧ VRl w F B c cp cv.toList
  | .opt q x, v => (q = true → VR w F B c x v) ∧ (q = false → v = undef)
  | .dead, _ => True
def VRl (w : World) (F : Nat → Prop) (B : Blk) (c : Nat) : List AV → List Value → Prop
  | [], vs => vs = []
  | x :: r, vs => ∃ v vs', vs = v :: vs' ∧ VR w F B c x v ∧ VRl w F B c r vs'
end
mutual
theorem VR.mono {w w' : World} {F F' : Nat → Prop} {B B' : Blk} {c c' : Nat} (hk : ∀ b, F b → w'.heap[b]? = w.heap[b]?) (hF : ∀ b, F b → F' b) (hB : ∀ g, g < c → B' g = B g) (hc : c ≤ c') : ∀ (x : AV) (v : Value), VR w F B c x v → VR w' F' B' c' x v
  | .d x, v, h => by simp only [VR] at h ⊢; exact h.mono hk hF
  | .nils, v, h => by simpa [VR] using h
  | .ref _ g sz off len, v, h => by
    simp only [VR] at h ⊢
    obtain ⟨h1, h2⟩ := h
    exact ⟨by omega, by rw [hB g h1]; exact h2⟩
  | .elt _ g sz j o, v, h => by
    simp only [VR] at h ⊢
    obtain ⟨h1, b, n, h2, h3⟩ := h
    exact ⟨by omega, b, n, by rw [hB g h1]; exact h2, h3⟩
  | .addr _ g o, v, h => by
    simp only [VR] at h ⊢
    obtain ⟨h1, b, n, h2, h3⟩ := h
    exact ⟨by omega, b, n, by rw [hB g h1]; exact h2, h3⟩
  | .mp _ g, v, h => by
    simp only [VR] at h ⊢
    obtain ⟨h1, b, n, h2, h3⟩ := h
    exact ⟨by omega, b, n, by rw [hB g h1]; exact h2, h3⟩
  | .nref _ g len, v, h => by
    simp only [VR] at h ⊢
    obtain ⟨h1, h2⟩ := h
    exact ⟨by omega, by rw [hB g h1]; exact h2⟩
  | .sub _ g j _ len, v, h => by
    simp only [VR] at h ⊢
    obtain ⟨h1, b, n, h2, h3⟩ := h
    exact ⟨by omega, b, n, by rw [hB g h1]; exact h2, h3⟩
  | .selt _ g j _ len, v, h => by
    simp only [VR] at h ⊢
    obtain ⟨h1, b, n, b', n', h2, h3⟩ := h
    exact ⟨by omega, b, n, b', n', by rw [hB g h1]; exact h2, h3⟩
  | .agg l, v, h => by
    simp only [VR] at h ⊢
    obtain ⟨cs, e, h0, h⟩ := h
    exact ⟨cs, e, h0, VRl.mono hk hF hB hc l _ h⟩
  | .tup l, v, h => by
    simp only [VR] at h ⊢
    obtain ⟨cs, e, h⟩ := h
    exact ⟨cs, e, VRl.mono hk hF hB hc l _ h⟩
  | .clo fn f cp, v, h => by
    simp only [VR] at h ⊢
    obtain ⟨fv, cv, e, h1, h2⟩ := h
    exact ⟨fv, cv, e, VRl.mono hk hF hB hc f _ h1, VRl.mono hk hF hB hc cp _ h2⟩
  | .opt q x, v, h => by
    simp only [VR] at h ⊢
    exact ⟨fun hq => VR.mono hk hF hB hc x _ (h.1 hq), h.2⟩
  | .dead, v, _ => by simp [VR]
theorem VRl.mono {w w' : World} {F F' : Nat → Prop} {B B' : Blk} {c c' : Nat} (hk : ∀ b, F b → w'.heap[b]? = w.heap[b]?) (hF : ∀ b, F b → F' b) (hB : ∀ g, g < c → B' g = B g) (hc : c ≤ c') : ∀ (l : List AV) (vs : List Value), VRl w F B c l vs → VRl w' F' B' c' l vs
  | [], _, h => by simpa [VRl] using h
  | x :: r, vs, h => by
    simp only [VRl] at h ⊢
    obtain ⟨v, vs', e, h1, h2⟩ := h
    exact ⟨v, vs', e, VR.mono hk hF hB hc x _ h1, VRl.mono hk hF hB hc r _ h2⟩
end
 
def Unf (cs : Array Value) (fr : Nat × Nat) : Prop := ∀ i, i < cs.size → (fr.1 ≤ i && i < fr.2) = false
 
def MR (w : World) (F : Nat → Prop) : Nat → List (Option (D × D)) → List MapEntry → Prop
  | _, [], es => es = []
  | i, none :: r, es => MR w F (i + 1) r es
  | i, some (k, v) :: r, es => ∃ e es', es = e :: es' ∧ DRv w F k e.key ∧ DRv w F v e.val ∧ e.born = i ∧ MR w F (i + 1) r es'
theorem MR.mono {w w' : World} {F F' : Nat → Prop} (hk : ∀ b, F b → w'.heap[b]? = w.heap[b]?) (hF : ∀ b, F b → F' b) : ∀ {i : Nat} {l : List (Option (D × D))} {es : List MapEntry}, MR w F i l es → MR w' F' i l es
  | _, [], es, h => h
  | i, none :: r, es, h => MR.mono hk hF (i := i + 1) (l := r) h
  | i, some (k, v) :: r, es, h => by
    simp only [MR] at h ⊢
    obtain ⟨e, es', h1, h2, h3, h4, h5⟩ := h
    exact ⟨e, es', h1, h2.mono hk hF, h3.mono hk hF, h4, h5.mono hk hF⟩
 
def NR (w : World) (F : Nat → Prop) : NE → Info → Value → Prop
  | .d x, i, v => i = none ∧ x.isAgg = false ∧ DRc w F x [v]
  | .row e sz l, i, v => match i with
    | none => v = .slice none 0 0 ∧ l = []
    | some (b, n) => v = .slice (some ⟨b, 0, none⟩) l.length n ∧ ∃ cs fr, w.heap[b]? = some (.cells cs e fr) ∧ Unf cs fr ∧ 0 < sz ∧ cs.size = n * sz ∧ l.length ≤ n ∧ n ≤ maxLen ∧ DRr w F sz l (cs.toList.take (l.length * sz))
  | .hole, i, v => i = none ∧ ∃ A n c, v = .slice A n c
def NRl (w : World) (F : Nat → Prop) : List NE → List Info → List Value → Prop
  | [], is, vs => is = [] ∧ vs = []
  | x :: r, is, vs => ∃ i is' v vs', is = i :: is' ∧ vs = v :: vs' ∧ NR w F x i v ∧ NRl w F r is' vs'
theorem NR.mono {w w' : World} {F F' : Nat → Prop} (hk : ∀ b, F b → w'.heap[b]? = w.heap[b]?) (hF : ∀ b, F b → F' b) {x : NE} {i : Info} {v : Value} (hi : ∀ b n, i = some (b, n) → w'.heap[b]? = w.heap[b]?) (h : NR w F x i v) : NR w' F' x i v := by
  cases x with
  | d x => simp only [NR] at h ⊢; exact ⟨h.1, h.2.1, DRc.mono hk hF _ _ h.2.2⟩
  | hole => exact h
  | row e sz l =>
    simp only [NR] at h ⊢
    cases i with
    | none => exact h
    | some p =>
      obtain ⟨b, n⟩ := p
      obtain ⟨h0, cs, fr, h1, h2, h3, h4, h5, h6, h7⟩ := h
      exact ⟨h0, cs, fr, by rw [hi b n rfl]; exact h1, h2, h3, h4, h5, h6, DRr.mono hk hF _ _ _ h7⟩
theorem NRl.mono {w w' : World} {F F' : Nat → Prop} (hk : ∀ b, F b → w'.heap[b]? = w.heap[b]?) (hF : ∀ b, F b → F' b) : ∀ {l : List NE} {is : List Info} {vs : List Value}, (∀ b n, some (b, n) ∈ is → w'.heap[b]? = w.heap[b]?) → NRl w F l is vs → NRl w' F' l is vs
  | [], is, vs, hi, h => h
  | x :: r, is, vs, hi, h => by
    simp only [NRl] at h ⊢
    obtain ⟨i, is', v, vs', rfl, rfl, h1, h2⟩ := h
    exact ⟨i, is', v, vs', rfl, rfl, h1.mono hk hF (fun b n e => hi b n (by rw [e]; exact List.mem_cons_self ..)), NRl.mono hk hF (fun b n hm => hi b n (List.mem_cons_of_mem _ hm)) h2⟩
theorem NRl.len {w : World} {F : Nat → Prop} : ∀ {l : List NE} {is : List Info} {vs : List Value}, NRl w F l is vs → is.length = l.length ∧ vs.length = l.length
  | [], is, vs, h => by obtain ⟨rfl, rfl⟩ := h; exact ⟨rfl, rfl⟩
  | x :: r, is, vs, h => by
    obtain ⟨i, is', v, vs', rfl, rfl, _, h2⟩ := h
    have := h2.len
    simp [this.1, this.2]
theorem NRl.get {w : World} {F : Nat → Prop} : ∀ {l : List NE} {is : List Info} {vs : List Value} {j : Nat}, NRl w F l is vs → j < l.length → ∃ v, vs[j]? = some v ∧ NR w F (l.getD j .hole) (is.getD j none) v
  | [], is, vs, j, h, hj => by simp at hj
  | x :: r, is, vs, 0, h, hj => by
    obtain ⟨i, is', v, vs', rfl, rfl, h1, h2⟩ := h
    exact ⟨v, by simp, by simpa using h1⟩
  | x :: r, is, vs, j + 1, h, hj => by
    obtain ⟨i, is', v, vs', rfl, rfl, h1, h2⟩ := h
    obtain ⟨u, e1, e2⟩ := h2.get (j := j) (by simpa using hj)
    exact ⟨u, by simpa using e1, by simpa using e2⟩
theorem NRl.set {w : World} {F : Nat → Prop} {x : NE} {i : Info} {v : Value} (hx : NR w F x i v) : ∀ {l : List NE} {is : List Info} {vs : List Value} {j : Nat}, NRl w F l is vs → j < l.length → NRl w F (l.set j x) (is.set j i) (vs.set j v)
  | [], is, vs, j, h, hj => by simp at hj
  | y :: r, is, vs, 0, h, hj => by
    obtain ⟨i', is', v', vs', rfl, rfl, h1, h2⟩ := h
    exact ⟨i, is', v, vs', by simp, by simp, hx, h2⟩
  | y :: r, is, vs, j + 1, h, hj => by
    obtain ⟨i', is', v', vs', rfl, rfl, h1, h2⟩ := h
    exact ⟨i', is'.set j i, v', vs'.set j v, by simp, by simp, h1, NRl.set hx h2 (by simpa using hj)⟩
theorem NRl.append {w : World} {F : Nat → Prop} : ∀ {l l' : List NE} {is is' : List Info} {vs vs' : List Value}, NRl w F l is vs → NRl w F l' is' vs' → NRl w F (l ++ l') (is ++ is') (vs ++ vs')
  | [], l', is, is', vs, vs', h, h' => by obtain ⟨rfl, rfl⟩ := h; simpa using h'
  | y :: r, l', is, is', vs, vs', h, h' => by
    obtain ⟨i, q, v, u, rfl, rfl, h1, h2⟩ := h
    exact ⟨i, q ++ is', v, u ++ vs', by simp, by simp, h1, NRl.append h2 h'⟩
 
def OR (w : World) (F : Nat → Prop) (B : Blk) (c : Nat) (g : Nat) : AO → Prop
  | .row e sz l => match B g with
    | none => l = []
    | some (b, n) => ∃ cs fr, w.heap[b]? = some (.cells cs e fr) ∧ Unf cs fr ∧ 0 < sz ∧ cs.size = n * sz ∧ l.length ≤ n ∧ n ≤ maxLen ∧ DRr w F sz l (cs.toList.take (l.length * sz))
  | .box e l => ∃ b n cs fr, B g = some (b, n) ∧ w.heap[b]? = some (.cells cs e fr) ∧ Unf cs fr ∧ cellsOK l = true ∧ VRl w F B c l cs.toList
  | .iter s pos => ∃ b n, B g = some (b, n) ∧ w.heap[b]? = some (.stringIter s pos)
  | .map es => ∃ b n ea, B g = some (b, n) ∧ w.heap[b]? = some (.map ea es.length) ∧ MR w F 0 es ea.toList
  | .miter m since last seen cur => m < c ∧ ∃ b n bm nm, B g = some (b, n) ∧ B m = some (bm, nm) ∧ w.heap[b]? = some (.mapIter (some bm) since (seen ++ cur.toList).toArray last) ∧ since ≤ last
  | .nest e l => match B g with
    | none => l = []
    | some (b, n) => ∃ cs fr, w.heap[b]? = some (.cells cs e fr) ∧ Unf cs fr ∧ cs.size = (decBN n).1 ∧ l.length ≤ (decBN n).1 ∧ (decBN n).1 ≤ maxLen ∧ NRl w F l (decBN n).2 (cs.toList.take l.length)
def AO.isNest : AO → Bool
  | .nest .. => true
  | _ => false
 
def OwnOK (B : Blk) (g : Nat) (o : AO) : Prop := (blkL B g).Nodup ∧ (o.isNest = false → (blkL B g).length ≤ 1)
theorem OwnOK.congr {B B' : Blk} {g g' : Nat} {o o' : AO} (h : B' g' = B g) (ho : o'.isNest = false → o.isNest = false) (k : OwnOK B g o) : OwnOK B' g' o' := by
  unfold OwnOK at k ⊢
  rw [blkL_congr h]
  exact ⟨k.1, fun e => k.2 (ho e)⟩
theorem OwnOK.one {B : Blk} {g b n : Nat} {o : AO} (k : OwnOK B g o) (ho : o.isNest = false) (hB : B g = some (b, n)) : blkL B g = [b] := by
  have h := k.2 ho
  simp only [blkL, blkO, hB, List.length_cons] at h ⊢
  have : subB n = [] := List.eq_nil_of_length_eq_zero (by omega)
  rw [this]
 
def NewOK (bo : Option (Nat × Nat)) (o : AO) : Prop := (blkO bo).Nodup ∧ (o.isNest = false → (blkO bo).length ≤ 1)
theorem NewOK.of {bo : Option (Nat × Nat)} {o : AO} (h : ∀ b n, bo = some (b, n) → n ≤ maxLen) : NewOK bo o := by
  cases bo with
  | none => exact ⟨by simp [blkO], by simp [blkO]⟩
  | some p =>
    obtain ⟨b, n⟩ := p
    unfold NewOK
    rw [blkO_le (h b n rfl)]
    exact ⟨by simp, by simp⟩
 
def Own (H : List (Key × Nat × AO)) (B : Blk) (b : Nat) : Prop := ∃ k g o, (k, g, o) ∈ H ∧ b ∈ blkL B g
theorem Own.of {H : List (Key × Nat × AO)} {B : Blk} {b n : Nat} {k : Key} {g : Nat} {o : AO} (hm : (k, g, o) ∈ H) (hB : B g = some (b, n)) : Own H B b := ⟨k, g, o, hm, blkL_of hB⟩
 
def TabsG (F : Nat → Prop) (w : World) : Prop := ∀ x ∈ tabList, F x.1 ∧ ∃ e fr, w.heap[x.1]? = some (.cells (x.2.2.map fun z => Value.int x.2.1 z).toArray e fr)
theorem TabsG.mono {F F' : Nat → Prop} {w w' : World} (hs : ∀ b, F b → F' b) (hk : ∀ b, F b → w'.heap[b]? = w.heap[b]?) (h : TabsG F w) : TabsG F' w' := fun x hx => by
  obtain ⟨h1, h2⟩ := h x hx
  exact ⟨hs _ h1, by rw [hk _ h1]; exact h2⟩
 
def VarsG (F : Nat → Prop) (w : World) : Prop := ∀ x ∈ varList, F x ∧ ∃ m : Int, w.cell? ⟨x, 0, none⟩ = some (.int .i64 m)
theorem VarsG.mono {F F' : Nat → Prop} {w w' : World} (hs : ∀ b, F b → F' b) (hk : ∀ b, F b → w'.heap[b]? = w.heap[b]?) (h : VarsG F w) : VarsG F' w' := fun x hx => by
  obtain ⟨h1, m, h2⟩ := h x hx
  exact ⟨hs _ h1, m, by rw [World.cell?_of_block (w := w) (hk _ h1)]; exact h2⟩
theorem VarsG.none {F : Nat → Prop} {w : World} (h : varList = []) : VarsG F w := fun x hx => by rw [h] at hx; cases hx
 
structure FL (F : Nat → Prop) (w : World) : Prop where
  lt : ∀ b, F b → b < w.heap.size
  tab : TabsG F w
  var : VarsG F w
instance {F : Nat → Prop} {w : World} : CoeFun (FL F w) (fun _ => ∀ b, F b → b < w.heap.size) := ⟨FL.lt⟩
theorem FL.mono {F F' : Nat → Prop} {w w' : World} (h : FL F w) (hs : ∀ b, F b → F' b) (hk : ∀ b, F b → w'.heap[b]? = w.heap[b]?) (hl : ∀ b, F' b → b < w'.heap.size) : FL F' w' := ⟨hl, TabsG.mono hs hk h.tab, VarsG.mono hs hk h.var⟩
structure FR (F : Nat → Prop) (B : Blk) (w : World) (S : St) (a : Act) : Prop where
  slots : ∀ t, VR w F B S.c (getIn S.E t) (a.tmps.getD t undef)
  objs : ∀ k g o, (k, g, o) ∈ S.H → g < S.c ∧ OR w F B S.c g o
  sep : ∀ b, Own S.H B b → ¬ F b ∧ b < w.heap.size
  inj : (S.H.map fun x => x.2.1).Pairwise fun g g' => g ≠ g' ∧ ∀ b, b ∈ blkL B g → ¬ b ∈ blkL B g'
  own1 : ∀ x ∈ S.H, OwnOK B x.2.1 x.2.2
  Flt : FL F w
  defers : a.defers = []
  pin : 16 ≤ S.c
 
structure Tr (N : Nat) (F : Nat → Prop) (B : Blk) (w : World) (S : St) (F' : Nat → Prop) (B' : Blk) (w' : World) (S' : St) (a' : Act) : Prop where
  fr : FR F' B' w' S' a'
  n : a'.tmps.size = N
  sub : ∀ b, F b → F' b
  keep : ∀ b, b < w.heap.size → ¬ Own S.H B b → w'.heap[b]? = w.heap[b]?
  new : ∀ b, F' b ∨ Own S'.H B' b → F b ∨ Own S.H B b ∨ w.heap.size ≤ b
  os : w'.os = w.os
  tape : w'.tape = w.tape
  output : w'.output = w.output
  size : w.heap.size ≤ w'.heap.size
  old : ∀ g, g < 16 → B' g = B g
theorem Tr.refl {N : Nat} {F : Nat → Prop} {B : Blk} {w : World} {S : St} {a : Act} (h : FR F B w S a) (hn : a.tmps.size = N) : Tr N F B w S F B w S a :=
  ⟨h, hn, fun _ h => h, fun _ _ _ => rfl, fun _ h => h.elim .inl (.inr ∘ .inl), rfl, rfl, rfl, Nat.le_refl _, fun _ _ => rfl⟩
theorem Tr.trans {N : Nat} {F F1 F2 : Nat → Prop} {B B1 B2 : Blk} {w w1 w2 : World} {S S1 S2 : St} {a1 a2 : Act}
    (h : Tr N F B w S F1 B1 w1 S1 a1) (k : Tr N F1 B1 w1 S1 F2 B2 w2 S2 a2) : Tr N F B w S F2 B2 w2 S2 a2 := by
  refine ⟨k.fr, k.n, fun b hb => k.sub b (h.sub b hb), fun b hb ho => ?_, fun b hb => ?_, k.os.trans h.os, k.tape.trans h.tape, k.output.trans h.output, Nat.le_trans h.size k.size, fun g hg => by rw [k.old g hg, h.old g hg]⟩
  · have hs := h.size
    rw [k.keep b (by omega) (fun ho1 => ?_), h.keep b hb ho]
    rcases h.new b (.inr ho1) with hf | ho' | hge
    · exact (h.fr.sep b ho1).1 (h.sub b hf)
    · exact ho ho'
    · omega
  · rcases k.new b hb with hf | ho | hge
    · rcases h.new b (.inl hf) with x | x | x
      · exact .inl x
      · exact .inr (.inl x)
      · exact .inr (.inr x)
    · rcases h.new b (.inr ho) with x | x | x
      · exact .inl x
      · exact .inr (.inl x)
      · exact .inr (.inr x)
    · have := h.size
      exact .inr (.inr (by omega))
theorem Own.mono {H H' : List (Key × Nat × AO)} {B : Blk} {b : Nat} (hs : ∀ x, x ∈ H' → x ∈ H) (h : Own H' B b) : Own H B b := by
  obtain ⟨k, g, o, hm, hb⟩ := h
  exact ⟨k, g, o, hs _ hm, hb⟩
 
theorem FR.drop {F : Nat → Prop} {B : Blk} {w : World} {E E' : List (Nat × AV)} {H H' : List (Key × Nat × AO)} {c : Nat} {a : Act} (h : FR F B w ⟨E, H, c⟩ a)
    (hE : ∀ t, getIn E' t = getIn E t ∨ getIn E' t = .dead) (hH : H'.Sublist H) : FR F B w ⟨E', H', c⟩ a where
  slots t := by
    rcases hE t with e | e
    · show VR w F B c (getIn E' t) _
      rw [e]; exact h.slots t
    · show VR w F B c (getIn E' t) _
      rw [e]; simp [VR]
  objs k g o hm := h.objs k g o (hH.subset hm)
  sep b ho := h.sep b (ho.mono fun x hx => hH.subset hx)
  inj := h.inj.sublist (hH.map _)
  own1 x hx := h.own1 x (hH.subset hx)
  Flt := h.Flt
  defers := h.defers
  pin := h.pin
 
def Awp (P : Program) (N : Nat) (c : Code) (Q : Exit → St → Prop) (S : St) : Prop :=
  ∀ F B w a, FR F B w S a → a.tmps.size = N → c.wp P (fun e a' w' => ∃ S' F' B', Q e S' ∧ Tr N F B w S F' B' w' S' a') a w
theorem Awp.mono {P : Program} {N : Nat} {c : Code} {Q Q' : Exit → St → Prop} {S : St} (hq : ∀ e S, Q e S → Q' e S) (h : Awp P N c Q S) : Awp P N c Q' S :=
  fun F B w a hf hn => wp_mono (h F B w a hf hn) fun e a' w' ⟨S', F', B', q, t⟩ => ⟨S', F', B', hq _ _ q, t⟩
theorem Awp.drop {P : Program} {N : Nat} {c : Code} {Q : Exit → St → Prop} {E E' : List (Nat × AV)} {H H' : List (Key × Nat × AO)} {n : Nat}
    (hE : ∀ t, getIn E' t = getIn E t ∨ getIn E' t = .dead) (hH : H'.Sublist H) (h : Awp P N c Q ⟨E', H', n⟩) : Awp P N c Q ⟨E, H, n⟩ :=
  fun F B w a hf hn => wp_mono (h F B w a (hf.drop hE hH) hn) fun e a' w' ⟨S', F', B', q, t⟩ =>
    ⟨S', F', B', q, t.fr, t.n, t.sub, fun b hb ho => t.keep b hb fun ho' => ho (ho'.mono fun x hx => hH.subset hx), fun b hb => by
      rcases t.new b hb with x | x | x
      · exact .inl x
      · exact .inr (.inl (x.mono fun x hx => hH.subset hx))
      · exact .inr (.inr x), t.os, t.tape, t.output, t.size, t.old⟩
end Go.Fw
namespace Go.Fw
open Go
set_option linter.unusedVariables false
set_option linter.unusedSimpArgs false
instance : Inhabited D := ⟨.nilp⟩
 
theorem add_add (ad : Addr) (o i : Nat) : (ad.add o).add i = ad.add (o + i) := by
  unfold Addr.add
  by_cases ho : o = 0 <;> by_cases hi : i = 0 <;> simp [ho, hi]
  omega
theorem add_block (ad : Addr) (o : Nat) : (ad.add o).block = ad.block := by unfold Addr.add; split <;> rfl
theorem add_plain (b o j : Nat) : (⟨b, o, none⟩ : Addr).add j = ⟨b, o + j, none⟩ := by unfold Addr.add; split <;> simp_all
theorem Cells.sub {w : World} {ad : Addr} {cs : List Value} (h : Cells w ad cs) (o s : Nat) : Cells w (ad.add o) ((cs.drop o).take s) := by
  intro i v hv
  rw [add_add]
  refine h (o + i) v ?_
  rw [List.getElem?_take] at hv
  split at hv
  · rwa [List.getElem?_drop] at hv
  · cases hv
theorem DRl.length {w : World} {F : Nat → Prop} : ∀ {l : List D} {vs : List Value}, DRl w F l vs → vs.length = l.length
  | [], vs, h => by simp only [DRl] at h; simp [h]
  | x :: r, vs, h => by
    simp only [DRl] at h
    obtain ⟨v, vs', rfl, _, _, h2⟩ := h
    simp [h2.length]
theorem DRl.drop {w : World} {F : Nat → Prop} : ∀ {l : List D} {vs : List Value} (o : Nat), DRl w F l vs → DRl w F (l.drop o) (vs.drop o)
  | l, vs, 0, h => by simpa using h
  | [], vs, o + 1, h => by simp only [DRl] at h; simp [h, DRl]
  | x :: r, vs, o + 1, h => by
    simp only [DRl] at h
    obtain ⟨v, vs', rfl, _, _, h2⟩ := h
    simpa using h2.drop o
theorem DRl.take {w : World} {F : Nat → Prop} : ∀ {l : List D} {vs : List Value} (o : Nat), DRl w F l vs → DRl w F (l.take o) (vs.take o)
  | l, vs, 0, h => by simp [DRl]
  | [], vs, o + 1, h => by simp only [DRl] at h; simp [h, DRl]
  | x :: r, vs, o + 1, h => by
    simp only [DRl] at h
    obtain ⟨v, vs', rfl, h0, h1, h2⟩ := h
    simp only [List.take_succ_cons, DRl]
    exact ⟨v, _, rfl, h0, h1, h2.take o⟩
theorem DRl.get {w : World} {F : Nat → Prop} : ∀ {l : List D} {vs : List Value} (i : Nat), DRl w F l vs → i < l.length → ∃ v, vs[i]? = some v ∧ (l.getD i default).isAgg = false ∧ DRc w F (l.getD i default) [v]
  | [], vs, i, h, hi => by simp at hi
  | x :: r, vs, 0, h, hi => by
    simp only [DRl] at h
    obtain ⟨v, vs', rfl, h0, h1, h2⟩ := h
    exact ⟨v, by simp, by simpa using h0, by simpa using h1⟩
  | x :: r, vs, i + 1, h, hi => by
    simp only [DRl] at h
    obtain ⟨v, vs', rfl, h0, h1, h2⟩ := h
    obtain ⟨u, h3, h5, h4⟩ := h2.get i (by simpa using hi)
    exact ⟨u, by simpa using h3, by simpa using h5, by simpa using h4⟩
theorem DRr.length {w : World} {F : Nat → Prop} {sz : Nat} : ∀ {l : List D} {vs : List Value}, DRr w F sz l vs → vs.length = l.length * sz
  | [], vs, h => by simp only [DRr] at h; simp [h]
  | x :: r, vs, h => by
    simp only [DRr] at h
    obtain ⟨a, b, rfl, h0, _, h2⟩ := h
    simp [h2.length, h0, Nat.add_mul, Nat.add_comm]
theorem DRr.get {w : World} {F : Nat → Prop} {sz : Nat} : ∀ {l : List D} {vs : List Value} (i : Nat), DRr w F sz l vs → i < l.length → DRc w F (l.getD i default) ((vs.drop (i * sz)).take sz) ∧ ((vs.drop (i * sz)).take sz).length = sz
  | [], vs, i, h, hi => by simp at hi
  | x :: r, vs, 0, h, hi => by
    simp only [DRr] at h
    obtain ⟨a, b, rfl, h0, h1, h2⟩ := h
    subst h0
    simpa using h1
  | x :: r, vs, i + 1, h, hi => by
    simp only [DRr] at h
    obtain ⟨a, b, rfl, h0, h1, h2⟩ := h
    have := h2.get i (by simpa using hi)
    have e : ((a ++ b).drop ((i + 1) * sz)).take sz = (b.drop (i * sz)).take sz := by
      rw [Nat.add_mul, Nat.one_mul, Nat.add_comm, ← h0, ← List.drop_drop, List.drop_left]
    rw [e]
    simpa using this
theorem DRr.append {w : World} {F : Nat → Prop} {sz : Nat} : ∀ {l l' : List D} {vs vs' : List Value}, DRr w F sz l vs → DRr w F sz l' vs' → DRr w F sz (l ++ l') (vs ++ vs')
  | [], l', vs, vs', h, h' => by simp only [DRr] at h; simpa [h] using h'
  | x :: r, l', vs, vs', h, h' => by
    simp only [DRr] at h
    obtain ⟨a, b, rfl, h0, h1, h2⟩ := h
    simp only [List.cons_append, DRr]
    exact ⟨a, b ++ vs', by simp, h0, h1, h2.append h'⟩
theorem DRr.drop {w : World} {F : Nat → Prop} {sz : Nat} : ∀ {l : List D} {vs : List Value} (o : Nat), DRr w F sz l vs → DRr w F sz (l.drop o) (vs.drop (o * sz))
  | l, vs, 0, h => by simpa using h
  | [], vs, o + 1, h => by simp only [DRr] at h; simp [h, DRr]
  | x :: r, vs, o + 1, h => by
    simp only [DRr] at h
    obtain ⟨a, b, rfl, h0, h1, h2⟩ := h
    have e : (a ++ b).drop ((o + 1) * sz) = b.drop (o * sz) := by
      rw [Nat.add_mul, Nat.one_mul, Nat.add_comm, ← h0, ← List.drop_drop, List.drop_left]
    rw [e]
    simpa using h2.drop o
theorem DRr.take {w : World} {F : Nat → Prop} {sz : Nat} : ∀ {l : List D} {vs : List Value} (o : Nat), DRr w F sz l vs → DRr w F sz (l.take o) (vs.take (o * sz))
  | l, vs, 0, h => by simp [DRr]
  | [], vs, o + 1, h => by simp only [DRr] at h; simp [h, DRr]
  | x :: r, vs, o + 1, h => by
    simp only [DRr] at h
    obtain ⟨a, b, rfl, h0, h1, h2⟩ := h
    have e : (a ++ b).take ((o + 1) * sz) = a ++ b.take (o * sz) := by
      rw [Nat.add_mul, Nat.one_mul, Nat.add_comm, ← h0, List.take_append, List.take_of_length_le (by omega)]
      congr 2
      omega
    rw [e]
    simp only [List.take_succ_cons, DRr]
    exact ⟨a, _, rfl, h0, h1, h2.take o⟩
theorem VRl.length {w : World} {F : Nat → Prop} {B : Blk} {c : Nat} : ∀ {l : List AV} {vs : List Value}, VRl w F B c l vs → vs.length = l.length
  | [], vs, h => by simp only [VRl] at h; simp [h]
  | x :: r, vs, h => by
    simp only [VRl] at h
    obtain ⟨v, vs', rfl, _, h2⟩ := h
    simp [h2.length]
theorem VRl.get {w : World} {F : Nat → Prop} {B : Blk} {c : Nat} : ∀ {l : List AV} {vs : List Value} (i : Nat), VRl w F B c l vs → i < l.length → ∃ v, vs[i]? = some v ∧ VR w F B c (l.getD i .dead) v
  | [], vs, i, h, hi => by simp at hi
  | x :: r, vs, 0, h, hi => by
    simp only [VRl] at h
    obtain ⟨v, vs', rfl, h1, h2⟩ := h
    exact ⟨v, by simp, by simpa using h1⟩
  | x :: r, vs, i + 1, h, hi => by
    simp only [VRl] at h
    obtain ⟨v, vs', rfl, h1, h2⟩ := h
    obtain ⟨u, h3, h4⟩ := h2.get i (by simpa using hi)
    exact ⟨u, by simpa using h3, by simpa using h4⟩
theorem VRl.drop {w : World} {F : Nat → Prop} {B : Blk} {c : Nat} : ∀ {l : List AV} {vs : List Value} (o : Nat), VRl w F B c l vs → VRl w F B c (l.drop o) (vs.drop o)
  | l, vs, 0, h => by simpa using h
  | [], vs, o + 1, h => by simp only [VRl] at h; simp [h, VRl]
  | x :: r, vs, o + 1, h => by
    simp only [VRl] at h
    obtain ⟨v, vs', rfl, _, h2⟩ := h
    simpa using h2.drop o
theorem VRl.take {w : World} {F : Nat → Prop} {B : Blk} {c : Nat} : ∀ {l : List AV} {vs : List Value} (o : Nat), VRl w F B c l vs → VRl w F B c (l.take o) (vs.take o)
  | l, vs, 0, h => by simp [VRl]
  | [], vs, o + 1, h => by simp only [VRl] at h; simp [h, VRl]
  | x :: r, vs, o + 1, h => by
    simp only [VRl] at h
    obtain ⟨v, vs', rfl, h1, h2⟩ := h
    simp only [List.take_succ_cons, VRl]
    exact ⟨v, _, rfl, h1, h2.take o⟩
theorem VRl.append {w : World} {F : Nat → Prop} {B : Blk} {c : Nat} : ∀ {l l' : List AV} {vs vs' : List Value}, VRl w F B c l vs → VRl w F B c l' vs' → VRl w F B c (l ++ l') (vs ++ vs')
  | [], l', vs, vs', h, h' => by simp only [VRl] at h; simpa [h] using h'
  | x :: r, l', vs, vs', h, h' => by
    simp only [VRl] at h
    obtain ⟨v, b, rfl, h1, h2⟩ := h
    simp only [List.cons_append, VRl]
    exact ⟨v, b ++ vs', by simp, h1, h2.append h'⟩
 
def AV.dOf : AV → Option D
  | .d x => some x
  | _ => none
def dsOf : List AV → Option (List D)
  | [] => some []
  | x :: r => match x.dOf, dsOf r with | some y, some l => some (y :: l) | _, _ => none
def mkAgg (l : List AV) : AV := match dsOf l with | some xs => .d (.agg xs) | none => .agg l
def mkClo (fn : Fn) (f c : List AV) : AV := match dsOf f, dsOf c with | some fs, some cs => .d (.clo fn fs cs) | _, _ => .clo fn f c
theorem DRv_of_cell {w : World} {F : Nat → Prop} {x : D} {v : Value} (hx : x.isAgg = false) (h : DRc w F x [v]) : DRv w F x v := by
  cases x <;> first | exact h | simp [D.isAgg] at hx
theorem cell_of_DRv {w : World} {F : Nat → Prop} {x : D} {v : Value} (hx : x.isAgg = false) (h : DRv w F x v) : DRc w F x [v] := by
  cases x <;> first | exact h | simp [D.isAgg] at hx
theorem VRl_of_DRl {w : World} {F : Nat → Prop} {B : Blk} {c : Nat} : ∀ {l : List D} {vs : List Value}, DRl w F l vs → VRl w F B c (l.map .d) vs ∧ cellsOK (l.map .d) = true
  | [], vs, h => by simpa [DRl, VRl, cellsOK] using h
  | x :: r, vs, h => by
    simp only [DRl] at h
    obtain ⟨v, vs', rfl, h0, h1, h2⟩ := h
    have := VRl_of_DRl (B := B) (c := c) h2
    simp only [List.map_cons, VRl, cellsOK, AV.cell, h0]
    exact ⟨⟨v, vs', rfl, by simp only [VR]; exact DRv_of_cell h0 h1, this.1⟩, by simpa using this.2⟩
theorem DRl_of_VRl {w : World} {F : Nat → Prop} {B : Blk} {c : Nat} : ∀ {l : List AV} {xs : List D} {vs : List Value}, dsOf l = some xs → cellsOK l = true → VRl w F B c l vs → DRl w F xs vs
  | [], xs, vs, hd, hx, h => by simp only [dsOf, Option.some.injEq] at hd; subst hd; simpa [DRl, VRl] using h
  | x :: r, xs, vs, hd, hx, h => by
    simp only [dsOf] at hd
    cases x <;> simp only [AV.dOf] at hd <;> try (cases hd)
    rename_i y
    cases hr : dsOf r with
    | none => simp [hr] at hd
    | some l =>
      simp only [hr, Option.some.injEq] at hd
      subst hd
      simp only [cellsOK, AV.cell, Bool.and_eq_true, Bool.not_eq_true'] at hx
      simp only [VRl] at h
      obtain ⟨v, vs', rfl, h1, h2⟩ := h
      simp only [DRl]
      simp only [VR] at h1
      exact ⟨v, vs', rfl, hx.1, cell_of_DRv hx.1 h1, DRl_of_VRl hr hx.2 h2⟩
theorem mkAgg_VR {w : World} {F : Nat → Prop} {B : Blk} {c : Nat} {l : List AV} {cs : Array Value} (hc : cellsOK l = true) (h : VRl w F B c l cs.toList) : VR w F B c (mkAgg l) (.agg cs) := by
  unfold mkAgg
  cases hd : dsOf l with
  | none => simp only [VR]; exact ⟨cs, rfl, hc, h⟩
  | some xs => simp only [VR, DRv]; exact ⟨cs, rfl, DRl_of_VRl hd hc h⟩
theorem cellsOK_drop : ∀ {l : List AV} (o : Nat), cellsOK l = true → cellsOK (l.drop o) = true
  | l, 0, h => by simpa using h
  | [], o + 1, h => by simp [cellsOK]
  | x :: r, o + 1, h => by
    simp only [cellsOK, Bool.and_eq_true] at h
    simpa using cellsOK_drop o h.2
theorem cellsOK_take : ∀ {l : List AV} (o : Nat), cellsOK l = true → cellsOK (l.take o) = true
  | l, 0, h => by simp [cellsOK]
  | [], o + 1, h => by simp [cellsOK]
  | x :: r, o + 1, h => by
    simp only [cellsOK, Bool.and_eq_true] at h
    simpa [cellsOK, h.1] using cellsOK_take o h.2
theorem cellsOK_append : ∀ {l l' : List AV}, cellsOK l = true → cellsOK l' = true → cellsOK (l ++ l') = true
  | [], l', _, h => by simpa using h
  | x :: r, l', h, h' => by
    simp only [cellsOK, Bool.and_eq_true] at h
    simpa [cellsOK, h.1] using cellsOK_append h.2 h'
end Go.Fw
