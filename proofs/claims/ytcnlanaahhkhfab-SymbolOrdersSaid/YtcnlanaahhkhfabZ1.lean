/- Whatever it is given, the law SymbolOrders answers true and leaves what it was given as it was: no condition. (part 1: what the proof leans on.) -/
import Derived.Calls
import Derived.Orders
import Derived.Tactics
import Derived.Below
import Derived.Laws.Slices
import Derived.WalkKit
import Derived.Laws.Strings
import Derived.Laws.Cells
import Derived.Laws.Append
import Derived.Laws.BytesArg
import Derived.Lib.ConvBytes
import Derived.Laws.AppendOwn
namespace Go.Fw
open Go
 
inductive D where
  | int (k : IntKind) (n : Int)
  | bool (b : Bool)
  | str (s : ByteArray)
  | nilp
  | nilm
  | nilf
  | sl (sz : Nat) (l : List D)
  | ptr (x : D)
  | agg (l : List D)
  | clo (fn : Fn) (first cap : List D)
 
def Cells (w : World) (ad : Addr) (vs : List Value) : Prop := ∀ i v, vs[i]? = some v → w.cell? (ad.add i) = some v
def D.isAgg : D → Bool
  | .agg _ => true
  | _ => false
mutual
 
def DRc (w : World) (F : Nat → Prop) : D → List Value → Prop
  | .int k n, vs => vs = [.int k n]
  | .bool b, vs => vs = [.bool b]
  | .str s, vs => vs = [.string s]
  | .nilp, vs => vs = [.pointer none]
  | .nilm, vs => vs = [.map none]
  | .nilf, vs => vs = [.nilFunc]
  | .sl sz l, vs => ∃ A c, vs = [.slice A l.length c] ∧ l.length ≤ c ∧ c ≤ maxLen ∧ (l = [] ∨ ∃ ad cs, A = some ad ∧ F ad.block ∧ Cells w ad cs ∧ DRr w F sz l cs)
  | .ptr x, vs => ∃ ad cs, vs = [.pointer (some ad)] ∧ F ad.block ∧ Cells w ad cs ∧ DRc w F x cs
  | .agg l, vs => DRl w F l vs
  | .clo fn f c, vs => ∃ fv cv, vs = [.func fn fv cv] ∧ DRl w F f fv.toList ∧ DRl w F c cv.toList
 
def DRl (w : World) (F : Nat → Prop) : List D → List Value → Prop
  | [], vs => vs = []
  | x :: r, vs => ∃ v vs', vs = v :: vs' ∧ x.isAgg = false ∧ DRc w F x [v] ∧ DRl w F r vs'
 
def DRr (w : World) (F : Nat → Prop) (sz : Nat) : List D → List Value → Prop
  | [], vs => vs = []
  | x :: r, vs => ∃ a b, vs = a ++ b ∧ a.length = sz ∧ DRc w F x a ∧ DRr w F sz r b
end
theorem Cells.keep {w w' : World} {F : Nat → Prop} (hk : ∀ b, F b → w'.heap[b]? = w.heap[b]?) {ad : Addr} {vs : List Value} (hF : F ad.block) (h : Cells w ad vs) : Cells w' ad vs := by
  intro i v hv
  have hb : (ad.add i).block = ad.block := by unfold Addr.add; split <;> rfl
  rw [World.cell?_of_block (w := w) (by rw [hb]; exact hk _ hF)]
  exact h i v hv
mutual
theorem DRc.mono {w w' : World} {F F' : Nat → Prop} (hk : ∀ b, F b → w'.heap[b]? = w.heap[b]?) (hF : ∀ b, F b → F' b) : ∀ (x : D) (vs : List Value), DRc w F x vs → DRc w' F' x vs
  | .int _ _, _, h => by simpa [DRc] using h
  | .bool _, _, h => by simpa [DRc] using h
  | .str _, _, h => by simpa [DRc] using h
  | .nilp, _, h => by simpa [DRc] using h
  | .nilm, _, h => by simpa [DRc] using h
  | .nilf, _, h => by simpa [DRc] using h
  | .sl sz l, vs, h => by
    simp only [DRc] at h ⊢
    obtain ⟨A, c, h1, h2, h3, h4⟩ := h
    refine ⟨A, c, h1, h2, h3, ?_⟩
    rcases h4 with h4 | ⟨ad, cs, e, hf, hc, hr⟩
    · exact .inl h4
    · exact .inr ⟨ad, cs, e, hF _ hf, hc.keep hk hf, DRr.mono hk hF sz l cs hr⟩
  | .ptr x, vs, h => by
    simp only [DRc] at h ⊢
    obtain ⟨ad, cs, e, hf, hc, hr⟩ := h
    exact ⟨ad, cs, e, hF _ hf, hc.keep hk hf, DRc.mono hk hF x cs hr⟩
  | .agg l, vs, h => by
    simp only [DRc] at h ⊢
    exact DRl.mono hk hF l vs h
  | .clo fn f c, vs, h => by
    simp only [DRc] at h ⊢
    obtain ⟨fv, cv, e, h1, h2⟩ := h
    exact ⟨fv, cv, e, DRl.mono hk hF f _ h1, DRl.mono hk hF c _ h2⟩
theorem DRl.mono {w w' : World} {F F' : Nat → Prop} (hk : ∀ b, F b → w'.heap[b]? = w.heap[b]?) (hF : ∀ b, F b → F' b) : ∀ (l : List D) (vs : List Value), DRl w F l vs → DRl w' F' l vs
  | [], _, h => by simpa [DRl] using h
  | x :: r, vs, h => by
    simp only [DRl] at h ⊢
    obtain ⟨v, vs', e, h0, h1, h2⟩ := h
    exact ⟨v, vs', e, h0, DRc.mono hk hF x _ h1, DRl.mono hk hF r _ h2⟩
theorem DRr.mono {w w' : World} {F F' : Nat → Prop} (hk : ∀ b, F b → w'.heap[b]? = w.heap[b]?) (hF : ∀ b, F b → F' b) (sz : Nat) : ∀ (l : List D) (vs : List Value), DRr w F sz l vs → DRr w' F' sz l vs
  | [], _, h => by simpa [DRr] using h
  | x :: r, vs, h => by
    simp only [DRr] at h ⊢
    obtain ⟨a, b, e, hl, h1, h2⟩ := h
    exact ⟨a, b, e, hl, DRc.mono hk hF x _ h1, DRr.mono hk hF sz r _ h2⟩
end
 
def D.flat : D → Bool
  | .sl _ l => l.isEmpty
  | .ptr _ => false
  | .clo _ f c => f.isEmpty && c.isEmpty
  | .agg l => flats l
  | _ => true
where flats : List D → Bool
  | [] => true
  | x :: r => x.flat && flats r
end Go.Fw
namespace Go.Fw
open Go
set_option linter.unusedVariables false
abbrev Key := List Nat
 
inductive AV where
  | d (x : D)
  | nils
  | ref (k : Key) (g sz off len : Nat)
  | elt (k : Key) (g sz j o : Nat)
  | addr (k : Key) (g c : Nat)
  | agg (l : List AV)
  | tup (l : List AV)
  | clo (fn : Fn) (first cap : List AV)
  | dead
 
inductive AO where
  | row (e sz : Nat) (l : List D)
  | box (e : Nat) (l : List AV)
  | iter (s : ByteArray) (pos : Nat)
structure St where
  E : List (Nat × AV)
  H : List (Key × Nat × AO)
  c : Nat
def getIn : List (Nat × AV) → Nat → AV
  | [], _ => .dead
  | (k, v) :: r, t => if k = t then v else getIn r t
def objIn : List (Key × Nat × AO) → Key → Option (Nat × AO)
  | [], _ => none
  | (k', g, o) :: r, k => if k' = k then some (g, o) else objIn r k
def putIn : List (Nat × AV) → Nat → AV → List (Nat × AV)
  | [], t, v => [(t, v)]
  | (k, u) :: r, t, v => if k = t then (k, v) :: r else (k, u) :: putIn r t v
theorem getIn_putIn (E : List (Nat × AV)) (t : Nat) (v : AV) (s : Nat) : getIn (putIn E t v) s = if s = t then v else getIn E s := by
  induction E with
  | nil => simp only [putIn, getIn]; by_cases h : s = t <;> simp [h]; intro h'; exact absurd h'.symm h
  | cons p r ih =>
    obtain ⟨k, u⟩ := p
    simp only [putIn]
    by_cases hk : k = t
    · subst hk
      simp only [if_true, getIn]
      by_cases hs : k = s
      · subst hs; simp
      · simp only [hs, if_false]; rw [if_neg (fun h => hs h.symm)]
    · simp only [hk, if_false, getIn]
      by_cases hs : k = s
      · subst hs; simp [hk]
      · simp only [hs, if_false]; exact ih
theorem mem_of_objIn {H : List (Key × Nat × AO)} {k : Key} {g : Nat} {o : AO} (h : objIn H k = some (g, o)) : (k, g, o) ∈ H := by
  induction H with
  | nil => simp [objIn] at h
  | cons p r ih =>
    obtain ⟨k', g', o'⟩ := p
    simp only [objIn] at h
    by_cases hk : k' = k
    · simp only [hk, if_true, Option.some.injEq, Prod.mk.injEq] at h
      obtain ⟨rfl, rfl⟩ := h
      simp [hk]
    · simp only [hk, if_false] at h
      exact List.mem_cons_of_mem _ (ih h)
 
def DRv (w : World) (F : Nat → Prop) (x : D) (v : Value) : Prop :=
  match x with
  | .agg l => ∃ cs, v = .agg cs ∧ DRl w F l cs.toList
  | x => DRc w F x [v]
theorem DRv.mono {w w' : World} {F F' : Nat → Prop} (hk : ∀ b, F b → w'.heap[b]? = w.heap[b]?) (hF : ∀ b, F b → F' b) {x : D} {v : Value} (h : DRv w F x v) : DRv w' F' x v := by
  cases x <;> simp only [DRv] at h ⊢
  case agg l =>
    obtain ⟨cs, e, h⟩ := h
    exact ⟨cs, e, DRl.mono hk hF _ _ h⟩
  all_goals exact DRc.mono hk hF _ _ h
 
abbrev Blk := Nat → Option (Nat × Nat)
 
def AV.cell : AV → Bool
  | .d x => !x.isAgg
  | .agg _ | .tup _ | .dead => false
  | _ => true
def cellsOK : List AV → Bool
  | [] => true
  | x :: r => x.cell && cellsOK r
mutual
def VR (w : World) (F : Nat → Prop) (B : Blk) (c : Nat) : AV → Value → Prop
  | .d x, v => DRv w F x v
  | .nils, v => v = .slice none 0 0
  | .ref _ g sz off len, v => g < c ∧ (match B g with
      | none => v = .slice none 0 0 ∧ off = 0 ∧ len = 0
      | some (b, n) => ∃ ad : Addr, v = .slice (some ad) len (n - off) ∧ off + len ≤ n ∧ (ad = ⟨b, off * sz, none⟩ ∨ (len = 0 ∧ 0 < off)))
  | .elt _ g sz j o, v => g < c ∧ ∃ b n, B g = some (b, n) ∧ v = .pointer (some ⟨b, j * sz + o, none⟩)
  | .addr _ g o, v => g < c ∧ ∃ b n, B g = some (b, n) ∧ v = .pointer (some ⟨b, o, none⟩)
  | .agg l, v => ∃ cs, v = .agg cs ∧ cellsOK l = true ∧ VRl w F B c l cs.toList
  | .tup l, v => ∃ vs, v = .tuple vs ∧ VRl w F B c l vs.toList
  | .clo fn f cp, v => ∃ fv cv, v = .func fn fv cv ∧ VRl w F B c f fv.toList ∧ VRl w F B c cp cv.toList
  | .dead, _ => True
def VRl (w : World) (F : Nat → Prop) (B : Blk) (c : Nat) : List AV → List Value → Prop
  | [], vs => vs = []
  | x :: r, vs => ∃ v vs', vs = v :: vs' ∧ VR w F B c x v ∧ VRl w F B c r vs'
end
mutual
theorem VR.mono {w w' : World} {F F' : Nat → Prop} {B B' : Blk} {c c' : Nat} (hk : ∀ b, F b → w'.heap[b]? = w.heap[b]?) (hF : ∀ b, F b → F' b) (hB : ∀ g, g < c → B' g = B g) (hc : c ≤ c') : ∀ (x : AV) (v : Value), VR w F B c x v → VR w' F' B' c' x v
  | .d x, v, h => by simp only [VR] at h ⊢; exact h.mono hk hF
  | .nils, v, h => by simpa [VR] using h
  | .ref _ g sz off len, v, h => by
    simp only [VR] at h ⊢
    obtain ⟨h1, h2⟩ := h
    exact ⟨by omega, by rw [hB g h1]; exact h2⟩
  | .elt _ g sz j o, v, h => by
    simp only [VR] at h ⊢
    obtain ⟨h1, b, n, h2, h3⟩ := h
    exact ⟨by omega, b, n, by rw [hB g h1]; exact h2, h3⟩
  | .addr _ g o, v, h => by
    simp only [VR] at h ⊢
    obtain ⟨h1, b, n, h2, h3⟩ := h
    exact ⟨by omega, b, n, by rw [hB g h1]; exact h2, h3⟩
  | .agg l, v, h => by
    simp only [VR] at h ⊢
    obtain ⟨cs, e, h0, h⟩ := h
    exact ⟨cs, e, h0, VRl.mono hk hF hB hc l _ h⟩
  | .tup l, v, h => by
    simp only [VR] at h ⊢
    obtain ⟨cs, e, h⟩ := h
    exact ⟨cs, e, VRl.mono hk hF hB hc l _ h⟩
  | .clo fn f cp, v, h => by
    simp only [VR] at h ⊢
    obtain ⟨fv, cv, e, h1, h2⟩ := h
    exact ⟨fv, cv, e, VRl.mono hk hF hB hc f _ h1, VRl.mono hk hF hB hc cp _ h2⟩
  | .dead, v, _ => by simp [VR]
theorem VRl.mono {w w' : World} {F F' : Nat → Prop} {B B' : Blk} {c c' : Nat} (hk : ∀ b, F b → w'.heap[b]? = w.heap[b]?) (hF : ∀ b, F b → F' b) (hB : ∀ g, g < c → B' g = B g) (hc : c ≤ c') : ∀ (l : List AV) (vs : List Value), VRl w F B c l vs → VRl w' F' B' c' l vs
  | [], _, h => by simpa [VRl] using h
  | x :: r, vs, h => by
    simp only [VRl] at h ⊢
    obtain ⟨v, vs', e, h1, h2⟩ := h
    exact ⟨v, vs', e, VR.mono hk hF hB hc x _ h1, VRl.mono hk hF hB hc r _ h2⟩
end
 
def Unf (cs : Array Value) (fr : Nat × Nat) : Prop := ∀ i, i < cs.size → (fr.1 ≤ i && i < fr.2) = false
 
def OR (w : World) (F : Nat → Prop) (B : Blk) (c : Nat) (g : Nat) : AO → Prop
  | .row e sz l => match B g with
    | none => l = []
    | some (b, n) => ∃ cs fr, w.heap[b]? = some (.cells cs e fr) ∧ Unf cs fr ∧ 0 < sz ∧ cs.size = n * sz ∧ l.length ≤ n ∧ n ≤ maxLen ∧ DRr w F sz l (cs.toList.take (l.length * sz))
  | .box e l => ∃ b n cs fr, B g = some (b, n) ∧ w.heap[b]? = some (.cells cs e fr) ∧ Unf cs fr ∧ cellsOK l = true ∧ VRl w F B c l cs.toList
  | .iter s pos => ∃ b n, B g = some (b, n) ∧ w.heap[b]? = some (.stringIter s pos)
 
def Own (H : List (Key × Nat × AO)) (B : Blk) (b : Nat) : Prop := ∃ k g o n, (k, g, o) ∈ H ∧ B g = some (b, n)
structure FR (F : Nat → Prop) (B : Blk) (w : World) (S : St) (a : Act) : Prop where
  slots : ∀ t, VR w F B S.c (getIn S.E t) (a.tmps.getD t undef)
  objs : ∀ k g o, (k, g, o) ∈ S.H → g < S.c ∧ OR w F B S.c g o
  sep : ∀ b, Own S.H B b → ¬ F b ∧ b < w.heap.size
  inj : (S.H.map fun x => x.2.1).Pairwise fun g g' => g ≠ g' ∧ ∀ b n n', B g = some (b, n) → B g' ≠ some (b, n')
  Flt : ∀ b, F b → b < w.heap.size
  defers : a.defers = []
  pin : 16 ≤ S.c
 
structure Tr (N : Nat) (F : Nat → Prop) (B : Blk) (w : World) (S : St) (F' : Nat → Prop) (B' : Blk) (w' : World) (S' : St) (a' : Act) : Prop where
  fr : FR F' B' w' S' a'
  n : a'.tmps.size = N
  sub : ∀ b, F b → F' b
  keep : ∀ b, b < w.heap.size → ¬ Own S.H B b → w'.heap[b]? = w.heap[b]?
  new : ∀ b, F' b ∨ Own S'.H B' b → F b ∨ Own S.H B b ∨ w.heap.size ≤ b
  os : w'.os = w.os
  tape : w'.tape = w.tape
  output : w'.output = w.output
  size : w.heap.size ≤ w'.heap.size
  old : ∀ g, g < 16 → B' g = B g
theorem Tr.refl {N : Nat} {F : Nat → Prop} {B : Blk} {w : World} {S : St} {a : Act} (h : FR F B w S a) (hn : a.tmps.size = N) : Tr N F B w S F B w S a :=
  ⟨h, hn, fun _ h => h, fun _ _ _ => rfl, fun _ h => h.elim .inl (.inr ∘ .inl), rfl, rfl, rfl, Nat.le_refl _, fun _ _ => rfl⟩
theorem Tr.trans {N : Nat} {F F1 F2 : Nat → Prop} {B B1 B2 : Blk} {w w1 w2 : World} {S S1 S2 : St} {a1 a2 : Act}
    (h : Tr N F B w S F1 B1 w1 S1 a1) (k : Tr N F1 B1 w1 S1 F2 B2 w2 S2 a2) : Tr N F B w S F2 B2 w2 S2 a2 := by
  refine ⟨k.fr, k.n, fun b hb => k.sub b (h.sub b hb), fun b hb ho => ?_, fun b hb => ?_, k.os.trans h.os, k.tape.trans h.tape, k.output.trans h.output, Nat.le_trans h.size k.size, fun g hg => by rw [k.old g hg, h.old g hg]⟩
  · have hs := h.size
    rw [k.keep b (by omega) (fun ho1 => ?_), h.keep b hb ho]
    rcases h.new b (.inr ho1) with hf | ho' | hge
    · exact (h.fr.sep b ho1).1 (h.sub b hf)
    · exact ho ho'
    · omega
  · rcases k.new b hb with hf | ho | hge
    · rcases h.new b (.inl hf) with x | x | x
      · exact .inl x
      · exact .inr (.inl x)
      · exact .inr (.inr x)
    · rcases h.new b (.inr ho) with x | x | x
      · exact .inl x
      · exact .inr (.inl x)
      · exact .inr (.inr x)
    · have := h.size
      exact .inr (.inr (by omega))
theorem Own.mono {H H' : List (Key × Nat × AO)} {B : Blk} {b : Nat} (hs : ∀ x, x ∈ H' → x ∈ H) (h : Own H' B b) : Own H B b := by
  obtain ⟨k, g, o, n, hm, hb⟩ := h
  exact ⟨k, g, o, n, hs _ hm, hb⟩
 
theorem FR.drop {F : Nat → Prop} {B : Blk} {w : World} {E E' : List (Nat × AV)} {H H' : List (Key × Nat × AO)} {c : Nat} {a : Act} (h : FR F B w ⟨E, H, c⟩ a)
    (hE : ∀ t, getIn E' t = getIn E t ∨ getIn E' t = .dead) (hH : H'.Sublist H) : FR F B w ⟨E', H', c⟩ a where
  slots t := by
    rcases hE t with e | e
    · show VR w F B c (getIn E' t) _
      rw [e]; exact h.slots t
    · show VR w F B c (getIn E' t) _
      rw [e]; simp [VR]
  objs k g o hm := h.objs k g o (hH.subset hm)
  sep b ho := h.sep b (ho.mono fun x hx => hH.subset hx)
  inj := h.inj.sublist (hH.map _)
  Flt := h.Flt
  defers := h.defers
  pin := h.pin
 
def Awp (P : Program) (N : Nat) (c : Code) (Q : Exit → St → Prop) (S : St) : Prop :=
  ∀ F B w a, FR F B w S a → a.tmps.size = N → c.wp P (fun e a' w' => ∃ S' F' B', Q e S' ∧ Tr N F B w S F' B' w' S' a') a w
theorem Awp.mono {P : Program} {N : Nat} {c : Code} {Q Q' : Exit → St → Prop} {S : St} (hq : ∀ e S, Q e S → Q' e S) (h : Awp P N c Q S) : Awp P N c Q' S :=
  fun F B w a hf hn => wp_mono (h F B w a hf hn) fun e a' w' ⟨S', F', B', q, t⟩ => ⟨S', F', B', hq _ _ q, t⟩
theorem Awp.drop {P : Program} {N : Nat} {c : Code} {Q : Exit → St → Prop} {E E' : List (Nat × AV)} {H H' : List (Key × Nat × AO)} {n : Nat}
    (hE : ∀ t, getIn E' t = getIn E t ∨ getIn E' t = .dead) (hH : H'.Sublist H) (h : Awp P N c Q ⟨E', H', n⟩) : Awp P N c Q ⟨E, H, n⟩ :=
  fun F B w a hf hn => wp_mono (h F B w a (hf.drop hE hH) hn) fun e a' w' ⟨S', F', B', q, t⟩ =>
    ⟨S', F', B', q, t.fr, t.n, t.sub, fun b hb ho => t.keep b hb fun ho' => ho (ho'.mono fun x hx => hH.subset hx), fun b hb => by
      rcases t.new b hb with x | x | x
      · exact .inl x
      · exact .inr (.inl (x.mono fun x hx => hH.subset hx))
      · exact .inr (.inr x), t.os, t.tape, t.output, t.size, t.old⟩
end Go.Fw
namespace Go.Fw
open Go
set_option linter.unusedVariables false
set_option linter.unusedSimpArgs false
instance : Inhabited D := ⟨.nilp⟩
 
theorem add_add (ad : Addr) (o i : Nat) : (ad.add o).add i = ad.add (o + i) := by
  unfold Addr.add
  by_cases ho : o = 0 <;> by_cases hi : i = 0 <;> simp [ho, hi]
  omega
theorem add_block (ad : Addr) (o : Nat) : (ad.add o).block = ad.block := by unfold Addr.add; split <;> rfl
theorem add_plain (b o j : Nat) : (⟨b, o, none⟩ : Addr).add j = ⟨b, o + j, none⟩ := by unfold Addr.add; split <;> simp_all
theorem Cells.sub {w : World} {ad : Addr} {cs : List Value} (h : Cells w ad cs) (o s : Nat) : Cells w (ad.add o) ((cs.drop o).take s) := by
  intro i v hv
  rw [add_add]
  refine h (o + i) v ?_
  rw [List.getElem?_take] at hv
  split at hv
  · rwa [List.getElem?_drop] at hv
  · cases hv
theorem DRl.length {w : World} {F : Nat → Prop} : ∀ {l : List D} {vs : List Value}, DRl w F l vs → vs.length = l.length
  | [], vs, h => by simp only [DRl] at h; simp [h]
  | x :: r, vs, h => by
    simp only [DRl] at h
    obtain ⟨v, vs', rfl, _, _, h2⟩ := h
    simp [h2.length]
theorem DRl.drop {w : World} {F : Nat → Prop} : ∀ {l : List D} {vs : List Value} (o : Nat), DRl w F l vs → DRl w F (l.drop o) (vs.drop o)
  | l, vs, 0, h => by simpa using h
  | [], vs, o + 1, h => by simp only [DRl] at h; simp [h, DRl]
  | x :: r, vs, o + 1, h => by
    simp only [DRl] at h
    obtain ⟨v, vs', rfl, _, _, h2⟩ := h
    simpa using h2.drop o
theorem DRl.take {w : World} {F : Nat → Prop} : ∀ {l : List D} {vs : List Value} (o : Nat), DRl w F l vs → DRl w F (l.take o) (vs.take o)
  | l, vs, 0, h => by simp [DRl]
  | [], vs, o + 1, h => by simp only [DRl] at h; simp [h, DRl]
  | x :: r, vs, o + 1, h => by
    simp only [DRl] at h
    obtain ⟨v, vs', rfl, h0, h1, h2⟩ := h
    simp only [List.take_succ_cons, DRl]
    exact ⟨v, _, rfl, h0, h1, h2.take o⟩
theorem DRl.get {w : World} {F : Nat → Prop} : ∀ {l : List D} {vs : List Value} (i : Nat), DRl w F l vs → i < l.length → ∃ v, vs[i]? = some v ∧ (l.getD i default).isAgg = false ∧ DRc w F (l.getD i default) [v]
  | [], vs, i, h, hi => by simp at hi
  | x :: r, vs, 0, h, hi => by
    simp only [DRl] at h
    obtain ⟨v, vs', rfl, h0, h1, h2⟩ := h
    exact ⟨v, by simp, by simpa using h0, by simpa using h1⟩
  | x :: r, vs, i + 1, h, hi => by
    simp only [DRl] at h
    obtain ⟨v, vs', rfl, h0, h1, h2⟩ := h
    obtain ⟨u, h3, h5, h4⟩ := h2.get i (by simpa using hi)
    exact ⟨u, by simpa using h3, by simpa using h5, by simpa using h4⟩
theorem DRr.length {w : World} {F : Nat → Prop} {sz : Nat} : ∀ {l : List D} {vs : List Value}, DRr w F sz l vs → vs.length = l.length * sz
  | [], vs, h => by simp only [DRr] at h; simp [h]
  | x :: r, vs, h => by
    simp only [DRr] at h
    obtain ⟨a, b, rfl, h0, _, h2⟩ := h
    simp [h2.length, h0, Nat.add_mul, Nat.add_comm]
theorem DRr.get {w : World} {F : Nat → Prop} {sz : Nat} : ∀ {l : List D} {vs : List Value} (i : Nat), DRr w F sz l vs → i < l.length → DRc w F (l.getD i default) ((vs.drop (i * sz)).take sz) ∧ ((vs.drop (i * sz)).take sz).length = sz
  | [], vs, i, h, hi => by simp at hi
  | x :: r, vs, 0, h, hi => by
    simp only [DRr] at h
    obtain ⟨a, b, rfl, h0, h1, h2⟩ := h
    subst h0
    simpa using h1
  | x :: r, vs, i + 1, h, hi => by
    simp only [DRr] at h
    obtain ⟨a, b, rfl, h0, h1, h2⟩ := h
    have := h2.get i (by simpa using hi)
    have e : ((a ++ b).drop ((i + 1) * sz)).take sz = (b.drop (i * sz)).take sz := by
      rw [Nat.add_mul, Nat.one_mul, Nat.add_comm, ← h0, ← List.drop_drop, List.drop_left]
    rw [e]
    simpa using this
theorem DRr.append {w : World} {F : Nat → Prop} {sz : Nat} : ∀ {l l' : List D} {vs vs' : List Value}, DRr w F sz l vs → DRr w F sz l' vs' → DRr w F sz (l ++ l') (vs ++ vs')
  | [], l', vs, vs', h, h' => by simp only [DRr] at h; simpa [h] using h'
  | x :: r, l', vs, vs', h, h' => by
    simp only [DRr] at h
    obtain ⟨a, b, rfl, h0, h1, h2⟩ := h
    simp only [List.cons_append, DRr]
    exact ⟨a, b ++ vs', by simp, h0, h1, h2.append h'⟩
theorem DRr.drop {w : World} {F : Nat → Prop} {sz : Nat} : ∀ {l : List D} {vs : List Value} (o : Nat), DRr w F sz l vs → DRr w F sz (l.drop o) (vs.drop (o * sz))
  | l, vs, 0, h => by simpa using h
  | [], vs, o + 1, h => by simp only [DRr] at h; simp [h, DRr]
  | x :: r, vs, o + 1, h => by
    simp only [DRr] at h
    obtain ⟨a, b, rfl, h0, h1, h2⟩ := h
    have e : (a ++ b).drop ((o + 1) * sz) = b.drop (o * sz) := by
      rw [Nat.add_mul, Nat.one_mul, Nat.add_comm, ← h0, ← List.drop_drop, List.drop_left]
    rw [e]
    simpa using h2.drop o
theorem DRr.take {w : World} {F : Nat → Prop} {sz : Nat} : ∀ {l : List D} {vs : List Value} (o : Nat), DRr w F sz l vs → DRr w F sz (l.take o) (vs.take (o * sz))
  | l, vs, 0, h => by simp [DRr]
  | [], vs, o + 1, h => by simp only [DRr] at h; simp [h, DRr]
  | x :: r, vs, o + 1, h => by
    simp only [DRr] at h
    obtain ⟨a, b, rfl, h0, h1, h2⟩ := h
    have e : (a ++ b).take ((o + 1) * sz) = a ++ b.take (o * sz) := by
      rw [Nat.add_mul, Nat.one_mul, Nat.add_comm, ← h0, List.take_append, List.take_of_length_le (by omega)]
      congr 2
      omega
    rw [e]
    simp only [List.take_succ_cons, DRr]
    exact ⟨a, _, rfl, h0, h1, h2.take o⟩
theorem VRl.length {w : World} {F : Nat → Prop} {B : Blk} {c : Nat} : ∀ {l : List AV} {vs : List Value}, VRl w F B c l vs → vs.length = l.length
  | [], vs, h => by simp only [VRl] at h; simp [h]
  | x :: r, vs, h => by
    simp only [VRl] at h
    obtain ⟨v, vs', rfl, _, h2⟩ := h
    simp [h2.length]
theorem VRl.get {w : World} {F : Nat → Prop} {B : Blk} {c : Nat} : ∀ {l : List AV} {vs : List Value} (i : Nat), VRl w F B c l vs → i < l.length → ∃ v, vs[i]? = some v ∧ VR w F B c (l.getD i .dead) v
  | [], vs, i, h, hi => by simp at hi
  | x :: r, vs, 0, h, hi => by
    simp only [VRl] at h
    obtain ⟨v, vs', rfl, h1, h2⟩ := h
    exact ⟨v, by simp, by simpa using h1⟩
  | x :: r, vs, i + 1, h, hi => by
    simp only [VRl] at h
    obtain ⟨v, vs', rfl, h1, h2⟩ := h
    obtain ⟨u, h3, h4⟩ := h2.get i (by simpa using hi)
    exact ⟨u, by simpa using h3, by simpa using h4⟩
theorem VRl.drop {w : World} {F : Nat → Prop} {B : Blk} {c : Nat} : ∀ {l : List AV} {vs : List Value} (o : Nat), VRl w F B c l vs → VRl w F B c (l.drop o) (vs.drop o)
  | l, vs, 0, h => by simpa using h
  | [], vs, o + 1, h => by simp only [VRl] at h; simp [h, VRl]
  | x :: r, vs, o + 1, h => by
    simp only [VRl] at h
    obtain ⟨v, vs', rfl, _, h2⟩ := h
    simpa using h2.drop o
theorem VRl.take {w : World} {F : Nat → Prop} {B : Blk} {c : Nat} : ∀ {l : List AV} {vs : List Value} (o : Nat), VRl w F B c l vs → VRl w F B c (l.take o) (vs.take o)
  | l, vs, 0, h => by simp [VRl]
  | [], vs, o + 1, h => by simp only [VRl] at h; simp [h, VRl]
  | x :: r, vs, o + 1, h => by
    simp only [VRl] at h
    obtain ⟨v, vs', rfl, h1, h2⟩ := h
    simp only [List.take_succ_cons, VRl]
    exact ⟨v, _, rfl, h1, h2.take o⟩
theorem VRl.append {w : World} {F : Nat → Prop} {B : Blk} {c : Nat} : ∀ {l l' : List AV} {vs vs' : List Value}, VRl w F B c l vs → VRl w F B c l' vs' → VRl w F B c (l ++ l') (vs ++ vs')
  | [], l', vs, vs', h, h' => by simp only [VRl] at h; simpa [h] using h'
  | x :: r, l', vs, vs', h, h' => by
    simp only [VRl] at h
    obtain ⟨v, b, rfl, h1, h2⟩ := h
    simp only [List.cons_append, VRl]
    exact ⟨v, b ++ vs', by simp, h1, h2.append h'⟩
 
def AV.dOf : AV → Option D
  | .d x => some x
  | _ => none
def dsOf : List AV → Option (List D)
  | [] => some []
  | x :: r => match x.dOf, dsOf r with | some y, some l => some (y :: l) | _, _ => none
def mkAgg (l : List AV) : AV := match dsOf l with | some xs => .d (.agg xs) | none => .agg l
def mkClo (fn : Fn) (f c : List AV) : AV := match dsOf f, dsOf c with | some fs, some cs => .d (.clo fn fs cs) | _, _ => .clo fn f c
theorem DRv_of_cell {w : World} {F : Nat → Prop} {x : D} {v : Value} (hx : x.isAgg = false) (h : DRc w F x [v]) : DRv w F x v := by
  cases x <;> first | exact h | simp [D.isAgg] at hx
theorem cell_of_DRv {w : World} {F : Nat → Prop} {x : D} {v : Value} (hx : x.isAgg = false) (h : DRv w F x v) : DRc w F x [v] := by
  cases x <;> first | exact h | simp [D.isAgg] at hx
theorem VRl_of_DRl {w : World} {F : Nat → Prop} {B : Blk} {c : Nat} : ∀ {l : List D} {vs : List Value}, DRl w F l vs → VRl w F B c (l.map .d) vs ∧ cellsOK (l.map .d) = true
  | [], vs, h => by simpa [DRl, VRl, cellsOK] using h
  | x :: r, vs, h => by
    simp only [DRl] at h
    obtain ⟨v, vs', rfl, h0, h1, h2⟩ := h
    have := VRl_of_DRl (B := B) (c := c) h2
    simp only [List.map_cons, VRl, cellsOK, AV.cell, h0]
    exact ⟨⟨v, vs', rfl, by simp only [VR]; exact DRv_of_cell h0 h1, this.1⟩, by simpa using this.2⟩
theorem DRl_of_VRl {w : World} {F : Nat → Prop} {B : Blk} {c : Nat} : ∀ {l : List AV} {xs : List D} {vs : List Value}, dsOf l = some xs → cellsOK l = true → VRl w F B c l vs → DRl w F xs vs
  | [], xs, vs, hd, hx, h => by simp only [dsOf, Option.some.injEq] at hd; subst hd; simpa [DRl, VRl] using h
  | x :: r, xs, vs, hd, hx, h => by
    simp only [dsOf] at hd
    cases x <;> simp only [AV.dOf] at hd <;> try (cases hd)
    rename_i y
    cases hr : dsOf r with
    | none => simp [hr] at hd
    | some l =>
      simp only [hr, Option.some.injEq] at hd
      subst hd
      simp only [cellsOK, AV.cell, Bool.and_eq_true, Bool.not_eq_true'] at hx
      simp only [VRl] at h
      obtain ⟨v, vs', rfl, h1, h2⟩ := h
      simp only [DRl]
      simp only [VR] at h1
      exact ⟨v, vs', rfl, hx.1, cell_of_DRv hx.1 h1, DRl_of_VRl hr hx.2 h2⟩
theorem mkAgg_VR {w : World} {F : Nat → Prop} {B : Blk} {c : Nat} {l : List AV} {cs : Array Value} (hc : cellsOK l = true) (h : VRl w F B c l cs.toList) : VR w F B c (mkAgg l) (.agg cs) := by
  unfold mkAgg
  cases hd : dsOf l with
  | none => simp only [VR]; exact ⟨cs, rfl, hc, h⟩
  | some xs => simp only [VR, DRv]; exact ⟨cs, rfl, DRl_of_VRl hd hc h⟩
theorem cellsOK_drop : ∀ {l : List AV} (o : Nat), cellsOK l = true → cellsOK (l.drop o) = true
  | l, 0, h => by simpa using h
  | [], o + 1, h => by simp [cellsOK]
  | x :: r, o + 1, h => by
    simp only [cellsOK, Bool.and_eq_true] at h
    simpa using cellsOK_drop o h.2
theorem cellsOK_take : ∀ {l : List AV} (o : Nat), cellsOK l = true → cellsOK (l.take o) = true
  | l, 0, h => by simp [cellsOK]
  | [], o + 1, h => by simp [cellsOK]
  | x :: r, o + 1, h => by
    simp only [cellsOK, Bool.and_eq_true] at h
    simpa [cellsOK, h.1] using cellsOK_take o h.2
theorem cellsOK_append : ∀ {l l' : List AV}, cellsOK l = true → cellsOK l' = true → cellsOK (l ++ l') = true
  | [], l', _, h => by simpa using h
  | x :: r, l', h, h' => by
    simp only [cellsOK, Bool.and_eq_true] at h
    simpa [cellsOK, h.1] using cellsOK_append h.2 h'
end Go.Fw
namespace Go.Fw
open Go
set_option linter.unusedVariables false
set_option linter.unusedSimpArgs false
 
def aggT (P : Program) (t : TypeId) : Option Bool := match P.underlying t with
  | some (.struct _) | some (.array _ _) => some true
  | some _ => some false
  | none => none
 
def fieldI (P : Program) (s : TypeId) (f : Nat) : Option (Nat × Nat × Bool) := match P.underlying s with
  | some (.struct fs) => match fs[f]? with
    | some fd => match P.info? fd.type, aggT P fd.type with
      | some i, some b => if 0 < i.size ∧ (b = true ∨ i.size = 1) then some (fd.offset, i.size, b) else none
      | _, _ => none
    | none => none
  | _ => none
 
def elemI (P : Program) (t : TypeId) : Option (Nat × Nat × Bool) := match P.underlying t with
  | some (.slice e) => match P.info? e, aggT P e with
    | some i, some b => if 0 < i.size ∧ (b = true ∨ i.size = 1) then some (e, i.size, b) else none
    | _, _ => none
  | _ => none
inductive Shape where
  | str | int (k : IntKind) | bool | slice | other
  deriving DecidableEq
def shapeT (P : Program) (t : TypeId) : Shape := match P.underlying t with
  | some .string => .str
  | some (.int k) => .int k
  | some .bool => .bool
  | some (.slice _) => .slice
  | _ => .other
theorem fieldI_spec {P : Program} {s f off sz : Nat} {b : Bool} (h : fieldI P s f = some (off, sz, b)) :
    ∃ fs fd i, P.underlying s = some (.struct fs) ∧ fs[f]? = some fd ∧ fd.offset = off ∧ P.info? fd.type = some i ∧ i.size = sz ∧ 0 < sz ∧ aggT P fd.type = some b ∧ (b = false → sz = 1) := by
  unfold fieldI at h
  split at h
  · rename_i fs hu
    split at h
    · rename_i fd hfd
      split at h
      · rename_i i b' hi hb
        split at h
        · simp only [Option.some.injEq, Prod.mk.injEq] at h
          rename_i hc
          obtain ⟨rfl, rfl, rfl⟩ := h
          exact ⟨fs, fd, i, hu, hfd, rfl, hi, rfl, hc.1, hb, fun h => by rcases hc.2 with h' | h' <;> simp_all⟩
        · cases h
      · cases h
    · cases h
  · cases h
theorem elemI_spec {P : Program} {t e sz : Nat} {b : Bool} (h : elemI P t = some (e, sz, b)) :
    ∃ i, P.underlying t = some (.slice e) ∧ P.info? e = some i ∧ i.size = sz ∧ 0 < sz ∧ aggT P e = some b ∧ (b = false → sz = 1) := by
  unfold elemI at h
  split at h
  · rename_i e' hu
    split at h
    · rename_i i b' hi hb
      split at h
      · simp only [Option.some.injEq, Prod.mk.injEq] at h
        rename_i hc
        obtain ⟨rfl, rfl, rfl⟩ := h
        exact ⟨i, hu, hi, rfl, hc.1, hb, fun h => by rcases hc.2 with h' | h' <;> simp_all⟩
      · cases h
    · cases h
  · cases h
theorem shapeT_str {P : Program} {t : TypeId} (h : shapeT P t = .str) : P.underlying t = some .string := by
  unfold shapeT at h; split at h <;> first | assumption | cases h
theorem shapeT_int {P : Program} {t : TypeId} {k : IntKind} (h : shapeT P t = .int k) : P.underlying t = some (.int k) := by
  unfold shapeT at h; split at h <;> first | (cases h; assumption) | cases h
theorem shapeT_slice {P : Program} {t : TypeId} (h : shapeT P t = .slice) : ∃ e, P.underlying t = some (.slice e) := by
  unfold shapeT at h; split at h <;> first | (cases h; exact ⟨_, by assumption⟩) | cases h
 
def cAV : Value → AV
  | .int k n => .d (.int k n)
  | .bool b => .d (.bool b)
  | .string s => .d (.str s)
  | .pointer none => .d .nilp
  | .map none => .d .nilm
  | .nilFunc => .d .nilf
  | .slice none 0 0 => .nils
  | _ => .dead
def St.ev (S : St) : Operand → AV
  | .tmp t => getIn S.E t
  | .const v => cAV v
  | .func f => .d (.clo (.func f) [] [])
  | .global _ => .dead
theorem cAV_VR (w : World) (F : Nat → Prop) (B : Blk) (c : Nat) (v : Value) : VR w F B c (cAV v) v := by
  unfold cAV
  split <;> simp [VR, DRv, DRc]
theorem ev_VR {F : Nat → Prop} {B : Blk} {w : World} {S : St} {a : Act} (h : FR F B w S a) (x : Operand) : VR w F B S.c (S.ev x) (a.eval x) := by
  cases x with
  | tmp t => exact h.slots t
  | const v => exact cAV_VR ..
  | func f => simp [St.ev, Act.eval, VR, DRv, DRc, DRl]
  | global g => simp [St.ev, VR]
def St.put (S : St) (dst : Option Tmp) (v : AV) : St := match dst with
  | some t => { S with E := putIn S.E t v }
  | none => S
def dstOK (N : Nat) (dst : Option Tmp) : Bool := match dst with
  | some t => t < N
  | none => true
theorem FR.put {F : Nat → Prop} {B : Blk} {w : World} {S : St} {a : Act} (h : FR F B w S a) {N : Nat} (hN : a.tmps.size = N) {dst : Option Tmp} (hd : dstOK N dst = true) {av : AV} {v : Value} (hv : VR w F B S.c av v) : FR F B w (S.put dst av) (a.put dst v) := by
  cases dst with
  | none => exact h
  | some t =>
    have hd' : t < a.tmps.size := by rw [hN]; exact of_decide_eq_true hd
    refine ⟨fun s => ?_, h.objs, h.sep, h.inj, h.Flt, h.defers, h.pin⟩
    simp only [St.put, getIn_putIn, Act.put]
    by_cases hs : s = t
    · subst hs
      simp only [if_true, Array.getD_eq_getD_getElem?, Array.getElem?_setIfInBounds_self_of_lt hd', Option.getD_some]
      exact hv
    · rw [if_neg hs]
      have := h.slots s
      simp only [Array.getD_eq_getD_getElem?] at this ⊢
      rw [Array.getElem?_setIfInBounds_ne (by omega)]
      exact this
theorem Act.put_size (a : Act) (dst : Option Tmp) (v : Value) : (a.put dst v).tmps.size = a.tmps.size := by cases dst <;> simp [Act.put]
 
def slt (a b : ByteArray) : Bool := Op.bytesLess a.data.toList b.data.toList
def bitI (op : BinOp) (k : IntKind) (x y : Int) : Int :=
  let a := BitVec.ofInt k.bits x
  let b := BitVec.ofInt k.bits y
  k.wrap (match op with | .and => a &&& b | .or => a ||| b | .xor => a ^^^ b | _ => a &&& ~~~b).toNat
def in64 (n : Int) : Prop := -9223372036854775808 ≤ n ∧ n ≤ 9223372036854775807
 
def arI (k : IntKind) (n : Int) (K : AV → Prop) : Prop := match k with
  | .i64 => (in64 n ∧ K (.d (.int .i64 n))) ∨ K (.d (.int .i64 (IntKind.i64.wrap n)))
  | .i8 => K (.d (.int .i8 (IntKind.i8.wrap n)))
  | .i16 => K (.d (.int .i16 (IntKind.i16.wrap n)))
  | .i32 => K (.d (.int .i32 (IntKind.i32.wrap n)))
  | .u8 => K (.d (.int .u8 (IntKind.u8.wrap n)))
  | .u16 => K (.d (.int .u16 (IntKind.u16.wrap n)))
  | .u32 => K (.d (.int .u32 (IntKind.u32.wrap n)))
  | .u64 => K (.d (.int .u64 (IntKind.u64.wrap n)))
theorem wrap_id {n : Int} (h1 : -9223372036854775808 ≤ n) (h2 : n ≤ 9223372036854775807) : IntKind.i64.wrap n = n := by
  simp [IntKind.wrap, IntKind.bits, IntKind.signed]
  omega
theorem arI_imp {k : IntKind} {n : Int} {K : AV → Prop} (h : arI k n K) : K (.d (.int k (k.wrap n))) := by
  cases k <;> simp only [arI] at h <;> try exact h
  rcases h with h | h
  · rw [wrap_id h.1.1 h.1.2]; exact h.2
  · exact h
def intBin (op : BinOp) (k : IntKind) (a b : Int) (K : AV → Prop) : Prop := match op with
  | .add => arI k (a + b) K
  | .sub => arI k (a - b) K
  | .mul => arI k (a * b) K
  | .quo => b ≠ 0 ∧ arI k (a.tdiv b) K
  | .rem => b ≠ 0 ∧ K (.d (.int k (a.tmod b)))
  | .and => K (.d (.int k (bitI .and k a b)))
  | .or => K (.d (.int k (bitI .or k a b)))
  | .xor => K (.d (.int k (bitI .xor k a b)))
  | .andNot => K (.d (.int k (bitI .andNot k a b)))
  | .eql => K (.d (.bool (decide (a = b))))
  | .neq => K (.d (.bool (!decide (a = b))))
  | .lss => K (.d (.bool (decide (a < b))))
  | .leq => K (.d (.bool (decide (a ≤ b))))
  | .gtr => K (.d (.bool (decide (b < a))))
  | .geq => K (.d (.bool (decide (b ≤ a))))
  | _ => False
def strBin (op : BinOp) (a b : ByteArray) (K : AV → Prop) : Prop := match op with
  | .add => a.size + b.size ≤ 9223372036854775807 ∧ K (.d (.str (a ++ b)))
  | .eql => K (.d (.bool (decide (a = b))))
  | .neq => K (.d (.bool (!decide (a = b))))
  | .lss => K (.d (.bool (slt a b)))
  | .leq => K (.d (.bool (slt a b || decide (a = b))))
  | .gtr => K (.d (.bool (!(slt a b || decide (a = b)))))
  | .geq => K (.d (.bool (!slt a b)))
  | _ => False
def boolBin (op : BinOp) (a b : Bool) (K : AV → Prop) : Prop := match op with
  | .eql => K (.d (.bool (a == b)))
  | .neq => K (.d (.bool (!(a == b))))
  | _ => False
def shlI (k : IntKind) (a : Int) (n : Nat) : Int := k.wrap (a * 2 ^ (min n k.bits))
def shrI (k : IntKind) (a : Int) (n : Nat) : Int := a.fdiv (2 ^ (min n k.bits))
theorem shr_lt {k : IntKind} {a : Int} {n : Nat} (h : n ≤ k.bits) : shrI k a n = a / 2 ^ n := by
  have h1 : (0 : Int) ≤ 2 ^ n := Int.le_of_lt (Int.pow_pos (by decide))
  rw [shrI, Nat.min_eq_left h, Int.fdiv_eq_ediv_of_nonneg _ h1]
theorem shr_i64 {a : Int} {n : Nat} (h : n ≤ 64) : shrI .i64 a n = a / 2 ^ n := shr_lt h
theorem shr_u64 {a : Int} {n : Nat} (h : n ≤ 64) : shrI .u64 a n = a / 2 ^ n := shr_lt h
theorem shr_u32 {a : Int} {n : Nat} (h : n ≤ 32) : shrI .u32 a n = a / 2 ^ n := shr_lt h
theorem shl_lt {k : IntKind} {a : Int} {n : Nat} (h : n ≤ k.bits) : shlI k a n = k.wrap (a * 2 ^ n) := by rw [shlI, Nat.min_eq_left h]
theorem shl_i64 {a : Int} {n : Nat} (h : n ≤ 64) : shlI .i64 a n = IntKind.i64.wrap (a * 2 ^ n) := shl_lt h
theorem shl_u64 {a : Int} {n : Nat} (h : n ≤ 64) : shlI .u64 a n = IntKind.u64.wrap (a * 2 ^ n) := shl_lt h
theorem wrap_u64 {n : Int} (h1 : 0 ≤ n) (h2 : n < 18446744073709551616) : IntKind.u64.wrap n = n := by
  simp [IntKind.wrap, IntKind.bits, IntKind.signed]
  omega
theorem wrap_u32 {n : Int} (h1 : 0 ≤ n) (h2 : n < 4294967296) : IntKind.u32.wrap n = n := by
  simp [IntKind.wrap, IntKind.bits, IntKind.signed]
  omega
def binV (P : Program) (op : BinOp) (t : TypeId) (x y : AV) (K : AV → Prop) : Prop := match op, x, y with
  | .shl, .d (.int k a), .d (.int _ b) => 0 ≤ b ∧ ∀ m, shlI k a b.toNat = m → K (.d (.int k m))
  | .shr, .d (.int k a), .d (.int _ b) => 0 ≤ b ∧ ∀ m, shrI k a b.toNat = m → K (.d (.int k m))
  | op, .d (.int k a), .d (.int k' b) => k = k' ∧ intBin op k a b K
  | op, .d (.str a), .d (.str b) => strBin op a b K
  | op, .d (.bool a), .d (.bool b) => shapeT P t = .bool ∧ boolBin op a b K
  | _, _, _ => False
theorem toList_data (s : ByteArray) : s.toList = s.data.toList := ByteArray.toList_eq s
theorem toList_beq (a b : ByteArray) : (a.toList == b.toList) = decide (a = b) := by
  rw [toList_data, toList_data]
  by_cases h : a = b
  · subst h; simp
  · rw [decide_eq_false h]
    refine beq_eq_false_iff_ne.2 fun e => h ?_
    cases a; cases b
    simp only [ByteArray.mk.injEq]
    exact Array.ext' e
 
def valD : D → Value
  | .int k n => .int k n
  | .bool b => .bool b
  | .str s => .string s
  | _ => undef
def D.scalar : D → Bool
  | .int _ _ | .bool _ | .str _ => true
  | _ => false
theorem valD_VR {w : World} {F : Nat → Prop} {B : Blk} {c : Nat} {x : D} (h : x.scalar = true) : VR w F B c (.d x) (valD x) := by
  cases x <;> simp [D.scalar] at h <;> simp [VR, DRv, DRc, valD]
theorem val_of_scalar {w : World} {F : Nat → Prop} {B : Blk} {c : Nat} {x : D} {v : Value} (h : x.scalar = true) (hv : VR w F B c (.d x) v) : v = valD x := by
  cases x <;> simp [D.scalar] at h <;> simpa [VR, DRv, DRc, valD] using hv
section
variable {P : Program}
theorem bin_int {op : BinOp} {k : IntKind} {a b : Int} {K : AV → Prop} (h : intBin op k a b K) :
    ∃ x : D, x.scalar = true ∧ (∀ t W, (binOp op t (.int k a) (.int k b)).run P W = .ok (valD x) W) ∧ K (.d x) := by
  cases op <;> simp only [intBin] at h
  case add => refine ⟨_, ?_, ?_, arI_imp h⟩ <;> intros <;> simp [D.scalar, binOp, Op.intArith, valD]
  case sub => refine ⟨_, ?_, ?_, arI_imp h⟩ <;> intros <;> simp [D.scalar, binOp, Op.intArith, valD]
  case mul => refine ⟨_, ?_, ?_, arI_imp h⟩ <;> intros <;> simp [D.scalar, binOp, Op.intArith, valD]
  case quo => refine ⟨_, ?_, ?_, arI_imp h.2⟩ <;> intros <;> simp [D.scalar, binOp, Op.intDiv, valD, h.1]
  case rem => refine ⟨_, ?_, ?_, h.2⟩ <;> intros <;> simp [D.scalar, binOp, Op.intDiv, valD, h.1]
  case and => refine ⟨_, ?_, ?_, h⟩ <;> intros <;> simp [D.scalar, binOp, Op.intBits, valD, bitI]
  case or => refine ⟨_, ?_, ?_, h⟩ <;> intros <;> simp [D.scalar, binOp, Op.intBits, valD, bitI]
  case xor => refine ⟨_, ?_, ?_, h⟩ <;> intros <;> simp [D.scalar, binOp, Op.intBits, valD, bitI]
  case andNot => refine ⟨_, ?_, ?_, h⟩ <;> intros <;> simp [D.scalar, binOp, Op.intBits, valD, bitI]
  case eql => refine ⟨_, ?_, ?_, h⟩ <;> intros <;> simp [D.scalar, binOp, Op.intCmp, valD] <;> rfl
  case neq => refine ⟨_, ?_, ?_, h⟩ <;> intros <;> simp [D.scalar, binOp, Op.intCmp, valD] <;> rfl
  case lss => refine ⟨_, ?_, ?_, h⟩ <;> intros <;> simp [D.scalar, binOp, Op.intCmp, valD]
  case leq => refine ⟨_, ?_, ?_, h⟩ <;> intros <;> simp [D.scalar, binOp, Op.intCmp, valD]
  case gtr => refine ⟨_, ?_, ?_, h⟩ <;> intros <;> simp [D.scalar, binOp, Op.intCmp, valD]
  case geq => refine ⟨_, ?_, ?_, h⟩ <;> intros <;> simp [D.scalar, binOp, Op.intCmp, valD]
theorem bin_str {op : BinOp} {a b : ByteArray} {K : AV → Prop} (h : strBin op a b K) :
    ∃ x : D, x.scalar = true ∧ (∀ t W, (binOp op t (.string a) (.string b)).run P W = .ok (valD x) W) ∧ K (.d x) := by
  cases op <;> simp only [strBin] at h
  case add =>
    refine ⟨_, ?_, ?_, h.2⟩ <;> intros
    · rfl
    · have h1 := h.1
      have : ¬ (((a.size + b.size : Nat) : Int) > IntKind.i64.max) := by simp [IntKind.max, IntKind.bits, IntKind.signed]; omega
      simp only [binOp, Op.stringOp, if_neg this]
      rfl
  case eql => refine ⟨_, ?_, ?_, h⟩ <;> intros <;> simp [D.scalar, binOp, Op.stringOp, valD, toList_beq]
  case neq => refine ⟨_, ?_, ?_, h⟩ <;> intros <;> simp [D.scalar, binOp, Op.stringOp, valD, toList_beq]
  case lss => refine ⟨_, ?_, ?_, h⟩ <;> intros <;> simp [D.scalar, binOp, Op.stringOp, valD, toList_data, slt]
  case leq => refine ⟨_, ?_, ?_, h⟩ <;> intros <;> simp [D.scalar, binOp, Op.stringOp, valD, toList_beq] <;> simp [toList_data, slt]
  case gtr => refine ⟨_, ?_, ?_, h⟩ <;> intros <;> simp [D.scalar, binOp, Op.stringOp, valD, toList_beq] <;> simp [toList_data, slt]
  case geq => refine ⟨_, ?_, ?_, h⟩ <;> intros <;> simp [D.scalar, binOp, Op.stringOp, valD, toList_data, slt]
theorem shapeT_bool {P : Program} {t : TypeId} (h : shapeT P t = .bool) : P.underlying t = some .bool := by
  unfold shapeT at h; split at h <;> first | assumption | cases h
theorem equal_succ (t : TypeId) (x y : Value) : Op.equal t x y = Op.equalIn (9999 + 1) t x y := rfl
theorem equalIn_bool {t : TypeId} (hu : P.underlying t = some .bool) (n : Nat) (a b : Bool) (W : World) : (Op.equalIn (n + 1) t (.bool a) (.bool b)).run P W = .ok (a == b) W := by
  simp [Op.equalIn, run_underlying hu]
theorem bin_bool {op : BinOp} {a b : Bool} {t : TypeId} {K : AV → Prop} (ht : shapeT P t = .bool) (h : boolBin op a b K) :
    ∃ x : D, x.scalar = true ∧ (∀ W, (binOp op t (.bool a) (.bool b)).run P W = .ok (valD x) W) ∧ K (.d x) := by
  have hu := shapeT_bool ht
  cases op <;> simp only [boolBin] at h
  case eql => refine ⟨_, ?_, ?_, h⟩ <;> intros <;> simp only [D.scalar, binOp, equal_succ, valD, Sem.run_bind, equalIn_bool hu, Result.andThen_ok, Sem.run_pure]
  case neq => refine ⟨_, ?_, ?_, h⟩ <;> intros <;> simp only [D.scalar, binOp, equal_succ, valD, Sem.run_bind, equalIn_bool hu, Result.andThen_ok, Sem.run_pure]
theorem bin_shift {op : BinOp} {k k' : IntKind} {a b : Int} {K : AV → Prop} {t : TypeId} (hop : op = .shl ∨ op = .shr) (h : binV P op t (.d (.int k a)) (.d (.int k' b)) K) :
    ∃ x : D, x.scalar = true ∧ (∀ W, (binOp op t (.int k a) (.int k' b)).run P W = .ok (valD x) W) ∧ K (.d x) := by
  rcases hop with rfl | rfl <;> simp only [binV] at h
  · refine ⟨_, ?_, ?_, h.2 _ rfl⟩ <;> intros <;> simp [D.scalar, binOp, Op.shift, Int.not_lt.2 h.1, valD, shlI]
  · refine ⟨_, ?_, ?_, h.2 _ rfl⟩ <;> intros <;> simp [D.scalar, binOp, Op.shift, Int.not_lt.2 h.1, valD, shrI]
theorem binV_run {op : BinOp} {t : TypeId} {x y : AV} {K : AV → Prop} {w : World} {F : Nat → Prop} {B : Blk} {c : Nat} {u v : Value}
    (hx : VR w F B c x u) (hy : VR w F B c y v) (h : binV P op t x y K) :
    ∃ r : D, r.scalar = true ∧ (∀ p q W, (do eqGuard op t p q u v; binOp op t u v : Sem Value).run P W = .ok (valD r) W) ∧ K (.d r) := by
  unfold binV at h
  split at h
  · have hu := val_of_scalar rfl hx
    have hv := val_of_scalar rfl hy
    subst hu; subst hv
    obtain ⟨r, h1, h2, h3⟩ := bin_shift (P := P) (t := t) (.inl rfl) (by simpa only [binV] using h)
    exact ⟨r, h1, fun p q W => by simp [eqGuard, valD] at h2 ⊢; exact h2 W, h3⟩
  · have hu := val_of_scalar rfl hx
    have hv := val_of_scalar rfl hy
    subst hu; subst hv
    obtain ⟨r, h1, h2, h3⟩ := bin_shift (P := P) (t := t) (.inr rfl) (by simpa only [binV] using h)
    exact ⟨r, h1, fun p q W => by simp [eqGuard, valD] at h2 ⊢; exact h2 W, h3⟩
  · have hu := val_of_scalar rfl hx
    have hv := val_of_scalar rfl hy
    subst hu; subst hv
    obtain ⟨rfl, h⟩ := h
    obtain ⟨r, h1, h2, h3⟩ := bin_int (P := P) h
    refine ⟨r, h1, fun p q W => ?_, h3⟩
    have h2 := h2 t W
    simp only [valD] at h2 ⊢
    simp only [eqGuard]
    split <;> simpa using h2
  · have hu := val_of_scalar rfl hx
    have hv := val_of_scalar rfl hy
    subst hu; subst hv
    obtain ⟨r, h1, h2, h3⟩ := bin_str (P := P) h
    refine ⟨r, h1, fun p q W => ?_, h3⟩
    have h2 := h2 t W
    simp only [valD] at h2 ⊢
    simp only [eqGuard]
    split <;> simpa using h2
  · have hu := val_of_scalar rfl hx
    have hv := val_of_scalar rfl hy
    subst hu; subst hv
    obtain ⟨ht, h⟩ := h
    obtain ⟨r, h1, h2, h3⟩ := bin_bool (P := P) ht h
    refine ⟨r, h1, fun p q W => ?_, h3⟩
    have h2 := h2 W
    simp only [valD] at h2 ⊢
    simp only [eqGuard]
    split <;> simpa using h2
  · exact h.elim
end
end Go.Fw
namespace Go.Fw
open Go
set_option linter.unusedVariables false
set_option linter.unusedSimpArgs false
def dsub (l : List D) (off sz : Nat) (b : Bool) : D := if b then .agg ((l.drop off).take sz) else l.getD off default
def asub (l : List AV) (off sz : Nat) (b : Bool) : AV := if b then mkAgg ((l.drop off).take sz) else l.getD off .dead
def unV : UnOp → AV → (AV → Prop) → Prop
  | .not, .d (.bool b), K => K (.d (.bool (!b)))
  | .neg, .d (.int k n), K => arI k (0 - n) K
  | .xor, .d (.int k n), K => K (.d (.int k (bitI .xor k (if k.signed then -1 else k.max) n)))
  | _, _, _ => False
def convV (P : Program) (src dst : TypeId) (x : AV) (K : AV → Prop) : Prop := match shapeT P src, shapeT P dst, x with
  | .int _, .int k, .d (.int _ n) => ∀ m, k.wrap n = m → K (.d (.int k m))
  | .str, .str, .d (.str s) => K (.d (.str s))
  | _, _, _ => False
def fieldAddrV (P : Program) (s : TypeId) (f : Nat) (x : AV) (K : AV → Prop) : Prop := match fieldI P s f with
  | some (off, sz, b) => match x with
    | .addr k g c => K (.addr k g (c + off))
    | .elt k g z j o => K (.elt k g z j (o + off))
    | .d (.ptr (.agg l)) => off + sz ≤ l.length ∧ K (.d (.ptr (dsub l off sz b)))
    | _ => False
  | none => False
def fieldV (P : Program) (s : TypeId) (f : Nat) (x : AV) (K : AV → Prop) : Prop := match fieldI P s f with
  | some (off, sz, b) => match x with
    | .d (.agg l) => off + sz ≤ l.length ∧ K (.d (dsub l off sz b))
    | .agg l => off + sz ≤ l.length ∧ K (asub l off sz b)
    | _ => False
  | none => False
def indexAddrV (P : Program) (t : TypeId) (x i : AV) (K : AV → Prop) : Prop := match elemI P t with
  | some (_, sz, _) => match x, i with
    | .d (.sl z l), .d (.int _ n) => 0 ≤ n ∧ n.toNat < l.length ∧ z = sz ∧ ∀ y, l.getD n.toNat default = y → K (.d (.ptr y))
    | .ref k g z off len, .d (.int _ n) => 0 ≤ n ∧ n.toNat < len ∧ z = sz ∧ K (.elt k g z (off + n.toNat) 0)
    | _, _ => False
  | none => False
def bAt (s : ByteArray) (i : Nat) : Int := ((s.data.toList.getD i 0).toNat : Int)
def indexV (P : Program) (t : TypeId) (x i : AV) (K : AV → Prop) : Prop := match shapeT P t, x, i with
  | .str, .d (.str s), .d (.int _ n) => 0 ≤ n ∧ n.toNat < s.size ∧ (0 ≤ bAt s n.toNat ∧ bAt s n.toNat < 256 → K (.d (.int .u8 (bAt s n.toNat))))
  | _, _, _ => False
def bndV : Option AV → Nat → (Nat → Prop) → Prop
  | none, d, K => K d
  | some (.d (.int _ n)), _, K => 0 ≤ n ∧ K n.toNat
  | some _, _, _ => False
def sliceV (P : Program) (t : TypeId) (x : AV) (lo hi : Option AV) (K : AV → Prop) : Prop := match shapeT P t, x with
  | .str, .d (.str s) => bndV hi s.size fun h => h ≤ s.size ∧ bndV lo 0 fun l => l ≤ h ∧ K (.d (.str (s.extract l h)))
  | .slice, .d (.sl z xs) => match elemI P t with
    | some (_, sz, _) => z = sz ∧ bndV hi xs.length fun h => h ≤ xs.length ∧ bndV lo 0 fun l => l ≤ h ∧ K (.d (.sl z ((xs.take h).drop l)))
    | none => False
  | .slice, .ref k g z off len => match elemI P t with
    | some (_, sz, _) => z = sz ∧ bndV hi len fun h => h ≤ len ∧ bndV lo 0 fun l => l ≤ h ∧ K (.ref k g z (off + l) (h - l))
    | none => False
  | _, _ => False
def extractV (x : AV) (i : Nat) (K : AV → Prop) : Prop := match x with
  | .tup l => i < l.length ∧ K (l.getD i .dead)
  | _ => False
def nilCheckV (x : AV) (K : AV → Prop) : Prop := match x with
  | .addr .. | .elt .. | .d (.ptr _) => K x
  | _ => False
def lenV (P : Program) (t : TypeId) (x : AV) (K : AV → Prop) : Prop := match shapeT P t, x with
  | .str, .d (.str s) => K (.d (.int .i64 s.size))
  | .slice, .d (.sl _ l) => ∀ m : Nat, l.length = m → m ≤ 9223372036854775807 → K (.d (.int .i64 m))
  | .slice, .ref _ _ _ _ len => ∀ m : Nat, len = m → K (.d (.int .i64 m))
  | .slice, .nils => K (.d (.int .i64 0))
  | _, _ => False
def avCells : AV → List AV
  | .agg l => l
  | .d (.agg l) => l.map .d
  | .dead => []
  | .tup _ => []
  | x => [x]
def setCells (cs : List AV) (off : Nat) (new : List AV) : List AV := cs.take off ++ new ++ cs.drop (off + new.length)
def fillV (P : Program) (t : TypeId) : List AV → List (Nat × AV) → (List AV → Prop) → Prop
  | cs, [], K => K cs
  | cs, (i, v) :: r, K => match fieldI P t i with
    | some (off, sz, _) => (avCells v).length = sz ∧ off + sz ≤ cs.length ∧ cellsOK (avCells v) = true ∧ fillV P t (setCells cs off (avCells v)) r K
    | none => False
def zeroI (P : Program) (t : TypeId) : Option (List AV) := match P.info? t with
  | some i => match i.zero with
    | some z => some (z.cells.toList.map cAV)
    | none => none
  | none => none
 
def buildOK (P : Program) (t : TypeId) : Bool := match P.underlying t with
  | some (.struct fs) => fs.toList.all fun f => (P.info? f.type).isSome
  | _ => false
def buildV (P : Program) (t : TypeId) (parts : List (Nat × AV)) (K : AV → Prop) : Prop :=
  buildOK P t = true ∧ match zeroI P t with
  | some z => cellsOK z = true ∧ fillV P t z parts fun cs => K (mkAgg cs)
  | none => False
def intAV : AV → Option (IntKind × Int)
  | .d (.int k n) => some (k, n)
  | _ => none
def mmV (mx : Bool) : List AV → (AV → Prop) → Prop
  | [.d (.int k a), .d (.int _ b)], K => ∀ m, (if mx then max a b else min a b) = m → K (.d (.int k m))
  | [.d (.int k a), .d (.int _ b), .d (.int _ c)], K => ∀ m, (if mx then max (max a b) c else min (min a b) c) = m → K (.d (.int k m))
  | _, _ => False
 
def builtinV (P : Program) (b : Builtin) (ats : Array TypeId) (xs : List AV) (K : AV → Prop) : Prop := match b, xs with
  | .len, [x] => match ats[0]? with | some t => lenV P t x K | none => False
  | .min, xs => mmV false xs K
  | .max, xs => mmV true xs K
  | _, _ => False
 
def valV (P : Program) (op : Op) (S : St) (K : AV → Prop) : Prop := match op with
  | .move x => K (S.ev x)
  | .pick c a b => match S.ev c with
    | .d (.bool x) => (x = true → K (S.ev a)) ∧ (x = false → K (S.ev b))
    | _ => False
  | .binOp op t x y _ => binV P op t (S.ev x) (S.ev y) K
  | .unOp op _ x => unV op (S.ev x) K
  | .convert src dst x => convV P src dst (S.ev x) K
  | .fieldAddr s x f => fieldAddrV P s f (S.ev x) K
  | .field s x f => fieldV P s f (S.ev x) K
  | .indexAddr t x i => indexAddrV P t (S.ev x) (S.ev i) K
  | .index t x i => indexV P t (S.ev x) (S.ev i) K
  | .slice t x lo hi none => sliceV P t (S.ev x) (lo.map S.ev) (hi.map S.ev) K
  | .extract x i => extractV (S.ev x) i K
  | .nilCheck x => nilCheckV (S.ev x) K
  | .build t parts => buildV P t (parts.toList.map fun p => (p.1, S.ev p.2)) K
  | .makeFunc fn f c => cellsOK (f.toList.map S.ev) = true ∧ cellsOK (c.toList.map S.ev) = true ∧ K (mkClo fn (f.toList.map S.ev) (c.toList.map S.ev))
  | .call c => match c.callee with
    | .builtin b => builtinV P b c.argTypes (c.args.toList.map S.ev) K
    | _ => False
  | _ => False
end Go.Fw
namespace Go.Fw
open Go
set_option linter.unusedVariables false
set_option linter.unusedSimpArgs false
section
variable {P : Program} {w : World} {F : Nat → Prop} {B : Blk} {c : Nat} {K : AV → Prop}
theorem run_isAgg {t : TypeId} {b : Bool} (h : aggT P t = some b) (W : World) : (isAgg t).run P W = .ok b W := by
  unfold aggT at h
  unfold isAgg
  split at h
  · rename_i fs hu; cases h; simp [run_underlying hu]
  · rename_i n e hu; cases h; simp [run_underlying hu]
  · rename_i d h1 h2 hu
    cases h
    simp only [Sem.run_bind, run_underlying hu, Result.andThen_ok]
    cases d <;> first | rfl | exact absurd hu (h1 _) | exact absurd hu (h2 _ _)
  · cases h
theorem run_sizeOf {t : TypeId} {i : TypeInfo} (h : P.info? t = some i) (W : World) : (sizeOf t).run P W = .ok i.size W := by simp [sizeOf, typeInfo, h]
theorem unV_run {op : UnOp} {x : AV} {u : Value} (hx : VR w F B c x u) (h : unV op x K) : ∃ r : D, r.scalar = true ∧ (∀ W, (Op.unary op u).run P W = .ok (valD r) W) ∧ K (.d r) := by
  unfold unV at h
  split at h
  · have := val_of_scalar rfl hx; subst this; exact ⟨_, rfl, fun W => by simp [Op.unary, valD], h⟩
  · have := val_of_scalar rfl hx; subst this; exact ⟨_, rfl, fun W => by simp [Op.unary, Op.intArith, valD], arI_imp h⟩
  · have := val_of_scalar rfl hx; subst this; exact ⟨_, rfl, fun W => by simp [Op.unary, Op.intBits, valD, bitI], h⟩
  · exact h.elim
theorem convV_run {src dst : TypeId} {x : AV} {u : Value} (hx : VR w F B c x u) (h : convV P src dst x K) : ∃ r : D, r.scalar = true ∧ (∀ W, (convert src dst u).run P W = .ok (valD r) W) ∧ K (.d r) := by
  unfold convV at h
  split at h
  · rename_i hs hd
    have := val_of_scalar rfl hx; subst this
    exact ⟨_, rfl, fun W => by simp [convert, run_underlying (shapeT_int hs), run_underlying (shapeT_int hd), Conv.intToInt, valD], h _ rfl⟩
  · rename_i hs hd
    have := val_of_scalar rfl hx; subst this
    exact ⟨_, rfl, fun W => by simp [convert, run_underlying (shapeT_str hs), run_underlying (shapeT_str hd), valD], h⟩
  · exact h.elim
 
theorem dsub_cells {l : List D} {off sz : Nat} {b : Bool} {cs : List Value} (hl : off + sz ≤ l.length) (hb : b = false → sz = 1) (h : DRl w F l cs) : DRc w F (dsub l off sz b) ((cs.drop off).take sz) := by
  unfold dsub
  cases b
  · have hs := hb rfl
    subst hs
    obtain ⟨v, h1, h2, h3⟩ := h.get off (by omega)
    have e : (cs.drop off).take 1 = [v] := by
      have hlt := (List.getElem?_eq_some_iff.1 h1).1
      have hv := (List.getElem?_eq_some_iff.1 h1).2
      rw [List.drop_eq_getElem_cons hlt, List.take_succ_cons, List.take_zero, hv]
    rw [e]
    simpa using h3
  · simp only [if_true, DRc]
    exact (h.drop off).take sz
theorem dsub_val {l : List D} {off sz : Nat} {b : Bool} {cs : Array Value} (hl : off + sz ≤ l.length) (hb : b = false → sz = 1) (h : DRl w F l cs.toList) :
    ∃ v, (∀ t i, aggT P t = some b → P.info? t = some i → i.size = sz → ∀ W, (part t cs off).run P W = .ok v W) ∧ VR w F B c (.d (dsub l off sz b)) v := by
  cases b
  · have hs := hb rfl
    subst hs
    obtain ⟨v, h1, h2, h3⟩ := h.get off (by omega)
    refine ⟨v, fun t i ht hi hz W => ?_, ?_⟩
    · have h1' : cs[off]? = some v := by simpa using h1
      simp [part, run_isAgg ht, h1']
    · simp only [dsub, VR]
      exact DRv_of_cell h2 h3
  · refine ⟨.agg (cs.extract off (off + sz)), fun t i ht hi hz W => ?_, ?_⟩
    · simp [part, run_isAgg ht, run_sizeOf hi, hz]
    · simp only [dsub, VR, DRv, if_true]
      refine ⟨_, rfl, ?_⟩
      have := (h.drop off).take sz
      rw [Array.toList_extract]
      simpa [List.extract_eq_take_drop] using this
theorem asub_val {l : List AV} {off sz : Nat} {b : Bool} {cs : Array Value} (hl : off + sz ≤ l.length) (hb : b = false → sz = 1) (hc : cellsOK l = true) (h : VRl w F B c l cs.toList) :
    ∃ v, (∀ t i, aggT P t = some b → P.info? t = some i → i.size = sz → ∀ W, (part t cs off).run P W = .ok v W) ∧ VR w F B c (asub l off sz b) v := by
  cases b
  · have hs := hb rfl
    subst hs
    obtain ⟨v, h1, h2⟩ := h.get off (by omega)
    refine ⟨v, fun t i ht hi hz W => ?_, ?_⟩
    · have h1' : cs[off]? = some v := by simpa using h1
      simp [part, run_isAgg ht, h1']
    · simpa [asub] using h2
  · refine ⟨.agg (cs.extract off (off + sz)), fun t i ht hi hz W => ?_, ?_⟩
    · simp [part, run_isAgg ht, run_sizeOf hi, hz]
    · simp only [asub, if_true]
      refine mkAgg_VR (cellsOK_take _ (cellsOK_drop _ hc)) ?_
      have := (h.drop off).take sz
      rw [Array.toList_extract]
      simpa [List.extract_eq_take_drop] using this
theorem fieldAddrV_run {s : TypeId} {f : Nat} {x : AV} {u : Value} (hx : VR w F B c x u) (h : fieldAddrV P s f x K) :
    ∃ v av, (∀ W, (Instr.fieldAt s u f).run P W = .ok v W) ∧ VR w F B c av v ∧ K av := by
  unfold fieldAddrV at h
  split at h
  · rename_i off sz b hfi
    obtain ⟨fs, fd, i, hu, hfd, rfl, hi, hz, h0, hag, hb⟩ := fieldI_spec hfi
    have key : ∀ ad : Addr, u = .pointer (some ad) → ∀ W, (Instr.fieldAt s u f).run P W = .ok (.pointer (some (ad.add fd.offset))) W := by
      intro ad e W
      subst e
      have : ¬ i.size = 0 := by omega
      simp [Instr.fieldAt, run_underlying hu, hfd, Instr.sureAddr, fieldPlace, run_sizeOf hi, this]
    split at h
    · simp only [VR] at hx
      obtain ⟨hg, bb, n, hB, rfl⟩ := hx
      exact ⟨_, _, key _ rfl, by simp only [VR]; exact ⟨hg, bb, n, hB, by rw [add_plain]⟩, h⟩
    · simp only [VR] at hx
      obtain ⟨hg, bb, n, hB, rfl⟩ := hx
      exact ⟨_, _, key _ rfl, by simp only [VR]; exact ⟨hg, bb, n, hB, by rw [add_plain, Nat.add_assoc]⟩, h⟩
    · rename_i l
      simp only [VR, DRv, DRc] at hx
      obtain ⟨ad, cs, hu', hF, hC, hD⟩ := hx
      simp only [List.cons.injEq, and_true] at hu'
      subst hu'
      refine ⟨_, _, key _ rfl, ?_, h.2⟩
      simp only [VR, DRv, DRc]
      exact ⟨_, _, rfl, by rw [add_block]; exact hF, hC.sub _ _, dsub_cells h.1 hb hD⟩
    · exact h.elim
  · exact h.elim
theorem fieldV_run {s : TypeId} {f : Nat} {x : AV} {u : Value} (hx : VR w F B c x u) (h : fieldV P s f x K) :
    ∃ v av, (∀ W, (Instr.field s u f).run P W = .ok v W) ∧ VR w F B c av v ∧ K av := by
  unfold fieldV at h
  split at h
  · rename_i off sz b hfi
    obtain ⟨fs, fd, i, hu, hfd, rfl, hi, hz, h0, hag, hb⟩ := fieldI_spec hfi
    split at h
    · rename_i l
      simp only [VR, DRv] at hx
      obtain ⟨cs, rfl, hD⟩ := hx
      obtain ⟨v, h1, h2⟩ := dsub_val (P := P) (B := B) (c := c) h.1 hb hD
      exact ⟨v, _, fun W => by simp [Instr.field, run_underlying hu, hfd, asAgg, h1 _ i hag hi hz], h2, h.2⟩
    · rename_i l
      simp only [VR] at hx
      obtain ⟨cs, rfl, hc, hD⟩ := hx
      obtain ⟨v, h1, h2⟩ := asub_val (P := P) h.1 hb hc hD
      exact ⟨v, _, fun W => by simp [Instr.field, run_underlying hu, hfd, asAgg, h1 _ i hag hi hz], h2, h.2⟩
    · exact h.elim
  · exact h.elim
theorem indexAddrV_run {t : TypeId} {x i : AV} {u v : Value} (hx : VR w F B c x u) (hi : VR w F B c i v) (h : indexAddrV P t x i K) :
    ∃ r av, (∀ W, (Instr.indexAt t u v).run P W = .ok r W) ∧ VR w F B c av r ∧ K av := by
  unfold indexAddrV at h
  split at h
  · rename_i e sz b hei
    obtain ⟨ti, hu, hti, hz, h0, hag, hb⟩ := elemI_spec hei
    have key : ∀ (ad : Addr) (len cap : Nat) (k : IntKind) (n : Int), 0 ≤ n → n.toNat < len → ∀ W, (Instr.indexAt t (.slice (some ad) len cap) (.int k n)).run P W = .ok (.pointer (some (ad.add (n.toNat * sz)))) W := by
      intro ad len cap k n h1 h2 W
      have h3 : 0 ≤ n ∧ n < (len : Int) := ⟨h1, by omega⟩
      subst hz
      simp [Instr.indexAt, asIntOf, run_underlying hu, h3, run_sizeOf hti]
    split at h
    · rename_i z l k n
      obtain ⟨h1, h2, rfl, h3⟩ := h
      have := val_of_scalar rfl hi; subst this
      simp only [VR, DRv, DRc] at hx
      obtain ⟨A, cc, hu', hl, hm, hr⟩ := hx
      simp only [List.cons.injEq, and_true] at hu'
      subst hu'
      rcases hr with rfl | ⟨ad, cs, rfl, hF, hC, hD⟩
      · simp at h2
      · refine ⟨_, _, key ad _ _ _ _ h1 h2, ?_, h3 _ rfl⟩
        have hg := hD.get n.toNat h2
        simp only [VR, DRv, DRc]
        exact ⟨_, _, rfl, by rw [add_block]; exact hF, hC.sub _ _, hg.1⟩
    · rename_i k g z off len k' n
      obtain ⟨h1, h2, rfl, h3⟩ := h
      have := val_of_scalar rfl hi; subst this
      simp only [VR] at hx
      obtain ⟨hg, hx⟩ := hx
      split at hx
      · omega
      · rename_i bb m hB
        obtain ⟨ad, rfl, hcap, had⟩ := hx
        have had' : ad = ⟨bb, off * z, none⟩ := by rcases had with h | ⟨h, _⟩; exact h; omega
        subst had'
        refine ⟨_, _, key _ _ _ _ _ h1 h2, ?_, h3⟩
        simp only [VR]
        exact ⟨hg, bb, m, hB, by rw [add_plain, Nat.add_mul, Nat.add_zero]⟩
    · exact h.elim
  · exact h.elim
theorem indexV_run {t : TypeId} {x i : AV} {u v : Value} (hx : VR w F B c x u) (hi : VR w F B c i v) (h : indexV P t x i K) :
    ∃ r av, (∀ W, (Instr.index t u v).run P W = .ok r W) ∧ VR w F B c av r ∧ K av := by
  unfold indexV at h
  split at h
  · rename_i s k n hs
    have e1 := val_of_scalar rfl hx; subst e1
    have e2 := val_of_scalar rfl hi; subst e2
    obtain ⟨h1, h2, h3⟩ := h
    refine ⟨.int .u8 (bAt s n.toNat), _, fun W => ?_, by simp [VR, DRv, DRc], h3 (by unfold bAt; have := (s.data.toList.getD n.toNat 0).toNat_lt; omega)⟩
    have e : s[n.toNat]? = some (s[n.toNat]'h2) := by simp [h2]
    simp only [valD, Instr.index, asIntOf, Sem.run_bind, Sem.run_pure, Result.andThen_ok, run_underlying (shapeT_str hs), if_pos h1, e]
    simp only [Sem.run_pure, bAt]
    congr 3
    have e4 : s[n.toNat]'h2 = s.data[n.toNat]'h2 := rfl
    rw [e4, List.getD_eq_getElem?_getD]
    have h2' : n.toNat < s.data.size := h2
    simp [Array.getElem?_eq_getElem h2']
  · exact h.elim
theorem extractV_run {x : AV} {i : Nat} {u : Value} (hx : VR w F B c x u) (h : extractV x i K) : ∃ r av, (∀ W, (Instr.extract u i).run P W = .ok r W) ∧ VR w F B c av r ∧ K av := by
  unfold extractV at h
  split at h
  · rename_i l
    simp only [VR] at hx
    obtain ⟨vs, rfl, hl⟩ := hx
    obtain ⟨v, h1, h2⟩ := hl.get i h.1
    have h1' : vs[i]? = some v := by simpa using h1
    exact ⟨v, _, fun W => by simp [Instr.extract, h1'], h2, h.2⟩
  · exact h.elim
theorem lenV_run {t : TypeId} {x : AV} {u : Value} {ats : Array TypeId} {ty : TypeId} (ha : ats[0]? = some t) (hx : VR w F B c x u) (h : lenV P t x K) :
    ∃ r : D, r.scalar = true ∧ (∀ W, (Builtin.len_ ats ty #[u]).run P W = .ok (valD r) W) ∧ K (.d r) := by
  unfold lenV at h
  split at h
  · rename_i s hs
    have e1 := val_of_scalar rfl hx; subst e1
    exact ⟨_, rfl, fun W => by simp [Builtin.len_, ha, run_underlying (shapeT_str hs), valD, goInt], h⟩
  · rename_i z l hs
    obtain ⟨e, hu⟩ := shapeT_slice hs
    simp only [VR, DRv, DRc] at hx
    obtain ⟨A, cc, hu', hl, hm, hr⟩ := hx
    simp only [List.cons.injEq, and_true] at hu'
    subst hu'
    exact ⟨_, rfl, fun W => by simp [Builtin.len_, ha, run_underlying hu, valD, goInt], h _ rfl (by have : maxLen = 9223372036854775807 := rfl; omega)⟩
  · rename_i k g z off len hs
    obtain ⟨e, hu⟩ := shapeT_slice hs
    simp only [VR] at hx
    obtain ⟨hg, hx⟩ := hx
    split at hx
    · obtain ⟨rfl, rfl, rfl⟩ := hx
      exact ⟨_, rfl, fun W => by simp [Builtin.len_, ha, run_underlying hu, valD, goInt], h _ rfl⟩
    · obtain ⟨ad, rfl, had⟩ := hx
      exact ⟨_, rfl, fun W => by simp [Builtin.len_, ha, run_underlying hu, valD, goInt], h _ rfl⟩
  · rename_i hs
    obtain ⟨e, hu⟩ := shapeT_slice hs
    simp only [VR] at hx
    subst hx
    exact ⟨_, rfl, fun W => by simp [Builtin.len_, ha, run_underlying hu, valD, goInt], h⟩
  · exact h.elim
theorem nilCheckV_run {x : AV} {u : Value} (hx : VR w F B c x u) (h : nilCheckV x K) : K x ∧ ∃ a, u = .pointer (some a) := by
  unfold nilCheckV at h
  split at h
  · simp only [VR] at hx
    obtain ⟨hg, bb, n, hB, rfl⟩ := hx
    exact ⟨h, _, rfl⟩
  · simp only [VR] at hx
    obtain ⟨hg, bb, n, hB, rfl⟩ := hx
    exact ⟨h, _, rfl⟩
  · simp only [VR, DRv, DRc] at hx
    obtain ⟨ad, cs, hu', hF, hC, hD⟩ := hx
    simp only [List.cons.injEq, and_true] at hu'
    exact ⟨h, _, hu'⟩
  · exact h.elim
theorem mmV_run {mx : Bool} {xs : List AV} {us : List Value} (hx : VRl w F B c xs us) (h : mmV mx xs K) :
    ∃ r : D, r.scalar = true ∧ (∀ W ats ty, ((if mx then Builtin.max_ ats ty us.toArray else Builtin.min_ ats ty us.toArray)).run P W = .ok (valD r) W) ∧ K (.d r) := by
  unfold mmV at h
  split at h
  · simp only [VRl] at hx
    obtain ⟨v1, _, rfl, h1, v2, _, rfl, h2, rfl⟩ := hx
    have e1 := val_of_scalar rfl h1; subst e1
    have e2 := val_of_scalar rfl h2; subst e2
    refine ⟨_, rfl, fun W ats ty => ?_, h _ rfl⟩
    cases mx
    · simp only [Bool.false_eq_true, if_false, Builtin.min_, valD, List.foldlM_cons, List.foldlM_nil, Sem.run_bind, Builtin.min2, Sem.run_pure, Result.andThen_ok]
      congr 2
      split <;> omega
    · simp only [if_true, Builtin.max_, valD, List.foldlM_cons, List.foldlM_nil, Sem.run_bind, Builtin.max2, Sem.run_pure, Result.andThen_ok]
      congr 2
      split <;> omega
  · simp only [VRl] at hx
    obtain ⟨v1, _, rfl, h1, v2, _, rfl, h2, v3, _, rfl, h3, rfl⟩ := hx
    have e1 := val_of_scalar rfl h1; subst e1
    have e2 := val_of_scalar rfl h2; subst e2
    have e3 := val_of_scalar rfl h3; subst e3
    refine ⟨_, rfl, fun W ats ty => ?_, h _ rfl⟩
    cases mx
    · simp only [Bool.false_eq_true, if_false, Builtin.min_, valD, List.foldlM_cons, List.foldlM_nil, Sem.run_bind, Builtin.min2, Sem.run_pure, Result.andThen_ok]
      congr 2
      split <;> split <;> omega
    · simp only [if_true, Builtin.max_, valD, List.foldlM_cons, List.foldlM_nil, Sem.run_bind, Builtin.max2, Sem.run_pure, Result.andThen_ok]
      congr 2
      split <;> split <;> omega
  · exact h.elim
 
def bndOf (o : Option Value) (d : Nat) : Option Nat := match o with
  | none => some d
  | some (.int _ n) => if 0 ≤ n then some n.toNat else none
  | _ => none
theorem bndV_spec {o : Option AV} {o' : Option Value} {d : Nat} {k : Nat → Prop} (ho : match o, o' with | none, none => True | some x, some v => VR w F B c x v | _, _ => False) (h : bndV o d k) :
    ∃ n, k n ∧ ((o' = none ∧ n = d) ∨ ∃ ki i, o' = some (.int ki i) ∧ 0 ≤ i ∧ n = i.toNat) := by
  unfold bndV at h
  split at h
  · cases o' <;> simp at ho
    exact ⟨_, h, .inl ⟨rfl, rfl⟩⟩
  · cases o' with
    | none => simp at ho
    | some v =>
      have e := val_of_scalar rfl ho
      subst e
      exact ⟨_, h.2, .inr ⟨_, _, rfl, h.1, rfl⟩⟩
  · exact h.elim
theorem run_sliceBounds {isS : Bool} {len cap l h : Nat} {lo hi : Option Value} (hh : (hi = none ∧ h = len) ∨ ∃ ki i, hi = some (.int ki i) ∧ 0 ≤ i ∧ h = i.toNat) (hl : (lo = none ∧ l = 0) ∨ ∃ ki i, lo = some (.int ki i) ∧ 0 ≤ i ∧ l = i.toNat)
    (h1 : h ≤ cap) (h2 : l ≤ h) (W : World) : (Instr.sliceBounds isS len cap lo hi none).run P W = .ok (l, h, cap) W := by
  unfold Instr.sliceBounds
  rcases hh with ⟨rfl, rfl⟩ | ⟨ki, i, rfl, hi0, rfl⟩
  · rcases hl with ⟨rfl, rfl⟩ | ⟨kj, j, rfl, hj0, rfl⟩
    · simp
    · have : 0 ≤ j ∧ j ≤ (h : Int) := ⟨hj0, by omega⟩
      simp [Instr.sliceBound, asIntOf, this]
  · have hb : 0 ≤ i ∧ i ≤ (cap : Int) := ⟨hi0, by omega⟩
    rcases hl with ⟨rfl, rfl⟩ | ⟨kj, j, rfl, hj0, rfl⟩
    · simp [Instr.sliceBound, asIntOf, hb]
    · have : 0 ≤ j ∧ j ≤ (i.toNat : Int) := ⟨hj0, by omega⟩
      simp [Instr.sliceBound, asIntOf, hb, this]
      omega
theorem sliceV_run {t : TypeId} {x : AV} {lo hi : Option AV} {lo' hi' : Option Value} {u : Value} (hx : VR w F B c x u)
    (hlo : match lo, lo' with | none, none => True | some x, some v => VR w F B c x v | _, _ => False) (hhi : match hi, hi' with | none, none => True | some x, some v => VR w F B c x v | _, _ => False)
    (h : sliceV P t x lo hi K) : ∃ r av, (∀ W, (Instr.sliceAt t u lo' hi' none).run P W = .ok r W) ∧ VR w F B c av r ∧ K av := by
  unfold sliceV at h
  split at h
  · rename_i s hs
    have e1 := val_of_scalar rfl hx; subst e1
    obtain ⟨hn, ⟨h1, h2⟩, hhn⟩ := bndV_spec hhi h
    obtain ⟨ln, ⟨h3, h4⟩, hln⟩ := bndV_spec hlo h2
    refine ⟨.string (s.extract ln hn), _, fun W => ?_, ?_, h4⟩
    · have := run_sliceBounds (P := P) (isS := false) (len := s.size) (cap := s.size) hhn hln h1 h3 W
      simp [Instr.sliceAt, Instr.slice, run_underlying (shapeT_str hs), valD, this]
    · simp [VR, DRv, DRc]
  · rename_i z xs hs
    split at h
    · rename_i e sz b hei
      obtain ⟨ti, hu, hti, hz, h0, hag, hb⟩ := elemI_spec hei
      obtain ⟨rfl, h⟩ := h
      simp only [VR, DRv, DRc] at hx
      obtain ⟨A, cc, hu', hl, hm, hr⟩ := hx
      simp only [List.cons.injEq, and_true] at hu'
      subst hu'
      obtain ⟨hn, ⟨h1, h2⟩, hhn⟩ := bndV_spec hhi h
      obtain ⟨ln, ⟨h3, h4⟩, hln⟩ := bndV_spec hlo h2
      refine ⟨.slice (if cc = ln then A else A.map (·.add (ln * z))) (hn - ln) (cc - ln), _, fun W => ?_, ?_, h4⟩
      · have := run_sliceBounds (P := P) (isS := true) (len := xs.length) (cap := cc) hhn hln (by omega) h3 W
        simp only [Instr.sliceAt, Instr.slice, Sem.run_bind, run_underlying hu, Result.andThen_ok, this, run_sizeOf hti, hz, Sem.run_pure]
      · simp only [VR, DRv, DRc]
        have hlen : (List.drop ln (List.take hn xs)).length = hn - ln := by simp; omega
        refine ⟨_, _, by rw [hlen], by rw [hlen]; omega, by omega, ?_⟩
        by_cases he : List.drop ln (List.take hn xs) = []
        · exact .inl he
        · right
          rcases hr with rfl | ⟨ad, cs, rfl, hF, hC, hD⟩
          · simp at he
          · have hlt : ln < hn := by
              rcases Nat.lt_or_ge ln hn with h' | h'
              · exact h'
              · exact absurd (List.drop_eq_nil_of_le (by simp; omega)) he
            rw [if_neg (by omega)]
            refine ⟨_, _, rfl, by rw [add_block]; exact hF, hC.sub (ln * z) ((hn - ln) * z), ?_⟩
            have := (hD.drop ln).take (hn - ln)
            rw [List.drop_take]
            exact this
    · exact h.elim
  · rename_i k g z off len hs
    split at h
    · rename_i e sz b hei
      obtain ⟨ti, hu, hti, hz, h0, hag, hb⟩ := elemI_spec hei
      obtain ⟨rfl, h⟩ := h
      obtain ⟨hn, ⟨h1, h2⟩, hhn⟩ := bndV_spec hhi h
      obtain ⟨ln, ⟨h3, h4⟩, hln⟩ := bndV_spec hlo h2
      simp only [VR] at hx
      obtain ⟨hg, hx⟩ := hx
      split at hx
      · rename_i hB
        obtain ⟨rfl, rfl, rfl⟩ := hx
        have e1 : hn = 0 := by omega
        have e2 : ln = 0 := by omega
        subst e1; subst e2
        refine ⟨.slice none 0 0, _, fun W => ?_, ?_, h4⟩
        · have := run_sliceBounds (P := P) (isS := true) (len := 0) (cap := 0) hhn hln (by omega) (by omega) W
          simp [Instr.sliceAt, Instr.slice, run_underlying hu, this, run_sizeOf hti, hz]
        · simp only [VR, hB]
          exact ⟨hg, by simp⟩
      · rename_i bb m hB
        obtain ⟨ad, rfl, hcap, had⟩ := hx
        refine ⟨.slice (if m - off = ln then some ad else some (ad.add (ln * z))) (hn - ln) (m - off - ln), _, fun W => ?_, ?_, h4⟩
        · have := run_sliceBounds (P := P) (isS := true) (len := len) (cap := m - off) hhn hln (by omega) h3 W
          simp only [Instr.sliceAt, Instr.slice, Sem.run_bind, run_underlying hu, Result.andThen_ok, this, run_sizeOf hti, hz, Sem.run_pure]
          rfl
        · simp only [VR, hB]
          refine ⟨hg, if m - off = ln then ad else ad.add (ln * z), ?_, by omega, ?_⟩
          · rw [Nat.sub_sub]; split <;> rfl
          · rcases Nat.eq_zero_or_pos ln with rfl | hpos
            · simp only [Nat.zero_mul, Nat.add_zero, Nat.sub_zero]
              have e : ad.add 0 = ad := by simp [Addr.add]
              rw [e, ite_self]
              rcases had with rfl | ⟨e1, e2⟩
              · exact .inl rfl
              · exact .inr ⟨by omega, e2⟩
            · by_cases hm : m - off = ln
              · exact .inr ⟨by omega, by omega⟩
              · rw [if_neg hm]
                rcases had with rfl | ⟨e1, e2⟩
                · exact .inl (by rw [add_plain, Nat.add_mul])
                · omega
    · exact h.elim
  · exact h.elim
end
end Go.Fw
namespace Go.Fw
open Go
set_option linter.unusedVariables false
set_option linter.unusedSimpArgs false
section
variable {P : Program} {w : World} {F : Nat → Prop} {B : Blk} {c : Nat} {K : AV → Prop}
theorem run_mapM_list {α β : Type} (f : α → Sem β) (g : α → β) (W : World) : ∀ (l : List α), (∀ x ∈ l, (f x).run P W = .ok (g x) W) → (l.mapM f).run P W = .ok (l.map g) W
  | [], _ => by simp
  | x :: r, h => by
    rw [List.mapM_cons]
    simp [h x (by simp), run_mapM_list f g W r (fun y hy => h y (by simp [hy]))]
theorem foldl_set (new : List Value) : ∀ (cells : Array Value) (off k : Nat), off + k + new.length ≤ cells.size →
    ((new.zipIdx k).foldl (fun (cs : Array Value) (x : Value × Nat) => cs.setIfInBounds (off + x.2) x.1) cells).toList = cells.toList.take (off + k) ++ new ++ cells.toList.drop (off + k + new.length) := by
  induction new with
  | nil => intro cells off k h; simp
  | cons v r ih =>
    intro cells off k h
    simp only [List.length_cons] at h
    simp only [List.zipIdx_cons, List.foldl_cons]
    rw [ih _ off (k + 1) (by simp; omega)]
    rw [Array.toList_setIfInBounds]
    have hlt : off + k < cells.toList.length := by simp; omega
    have e1 : (cells.toList.set (off + k) v).take (off + (k + 1)) = cells.toList.take (off + k) ++ [v] := by
      rw [← Nat.add_assoc, List.take_succ_eq_append_getElem (by simpa using hlt)]
      rw [List.take_set_of_le (Nat.le_refl _)]
      simp
    have e2 : (cells.toList.set (off + k) v).drop (off + (k + 1) + r.length) = cells.toList.drop (off + k + (r.length + 1)) := by
      rw [List.drop_set_of_lt (by omega)]
      congr 1
      omega
    rw [e1, e2]
    simp
theorem VRl_setCells {cs new : List AV} {vs nv : List Value} {off : Nat} (h : VRl w F B c cs vs) (hn : VRl w F B c new nv) : VRl w F B c (setCells cs off new) (vs.take off ++ nv ++ vs.drop (off + nv.length)) := by
  unfold setCells
  rw [hn.length]
  exact ((h.take off).append hn).append (h.drop _)
theorem cellsOK_setCells {cs new : List AV} {off : Nat} (h : cellsOK cs = true) (hn : cellsOK new = true) : cellsOK (setCells cs off new) = true := by
  unfold setCells
  exact cellsOK_append (cellsOK_append (cellsOK_take _ h) hn) (cellsOK_drop _ h)
theorem avCells_VR {x : AV} {v : Value} (h : VR w F B c x v) (hne : avCells x ≠ []) : VRl w F B c (avCells x) v.cells.toList := by
  have one : ∀ {y : AV} {u : Value}, VR w F B c y u → u.cells = #[u] → VRl w F B c [y] u.cells.toList := by
    intro y u h1 h2
    rw [h2]
    simp only [VRl]
    exact ⟨u, [], rfl, h1, rfl⟩
  cases x with
  | d x =>
    cases x with
    | agg l =>
      simp only [VR, DRv] at h
      obtain ⟨cs, rfl, hl⟩ := h
      exact (VRl_of_DRl hl).1
    | sl z l =>
      refine one h ?_
      simp only [VR, DRv, DRc] at h
      obtain ⟨A, cc, hu, _⟩ := h
      simp only [List.cons.injEq, and_true] at hu
      subst hu; rfl
    | ptr y =>
      refine one h ?_
      simp only [VR, DRv, DRc] at h
      obtain ⟨A, cc, hu, _⟩ := h
      simp only [List.cons.injEq, and_true] at hu
      subst hu; rfl
    | clo fn f cp =>
      refine one h ?_
      simp only [VR, DRv, DRc] at h
      obtain ⟨A, cc, hu, _⟩ := h
      simp only [List.cons.injEq, and_true] at hu
      subst hu; rfl
    | _ => refine one h ?_; simp only [VR, DRv, DRc, List.cons.injEq, and_true] at h; subst h; rfl
  | nils => refine one h ?_; simp only [VR] at h; subst h; rfl
  | ref k g z off len =>
    refine one h ?_
    simp only [VR] at h
    obtain ⟨_, h⟩ := h
    split at h
    · obtain ⟨rfl, _⟩ := h; rfl
    · obtain ⟨ad, rfl, _⟩ := h; rfl
  | elt k g z j o => refine one h ?_; simp only [VR] at h; obtain ⟨_, b, n, _, rfl⟩ := h; rfl
  | addr k g o => refine one h ?_; simp only [VR] at h; obtain ⟨_, b, n, _, rfl⟩ := h; rfl
  | agg l => simp only [VR] at h; obtain ⟨cs, rfl, _, hl⟩ := h; exact hl
  | tup l => exact absurd rfl hne
  | clo fn f cp => refine one h ?_; simp only [VR] at h; obtain ⟨fv, cv, rfl, _⟩ := h; rfl
  | dead => exact absurd rfl hne
 
def PartsVR (w : World) (F : Nat → Prop) (B : Blk) (c : Nat) : List (Nat × AV) → List (Nat × Value) → Prop
  | [], vs => vs = []
  | (i, x) :: r, vs => ∃ v vs', vs = (i, v) :: vs' ∧ VR w F B c x v ∧ PartsVR w F B c r vs'
theorem fillV_run {t : TypeId} {place : Nat → Option (Nat × Nat)} (hpl : ∀ i off sz b, fieldI P t i = some (off, sz, b) → place i = some (off, sz)) {K : List AV → Prop} :
    ∀ {parts : List (Nat × AV)} {vs : List (Nat × Value)} {cs : List AV} {cells : Array Value}, PartsVR w F B c parts vs → cellsOK cs = true → VRl w F B c cs cells.toList → fillV P t cs parts K →
      ∃ cells' cs', Instr.fill place cells vs = some cells' ∧ cellsOK cs' = true ∧ VRl w F B c cs' cells'.toList ∧ K cs'
  | [], vs, cs, cells, hp, hc, hv, h => by
    simp only [PartsVR] at hp
    subst hp
    exact ⟨cells, cs, rfl, hc, hv, h⟩
  | (i, x) :: r, vs, cs, cells, hp, hc, hv, h => by
    simp only [PartsVR] at hp
    obtain ⟨v, vs', rfl, hx, hr⟩ := hp
    simp only [fillV] at h
    split at h
    · rename_i off sz b hfi
      obtain ⟨h1, h2, h3, h4⟩ := h
      obtain ⟨fs, fd, ti, hu, hfd, hoff, hi, hz, h0, hag, hb⟩ := fieldI_spec hfi
      have hne : avCells x ≠ [] := by intro e; rw [e] at h1; simp at h1; omega
      have hcx := avCells_VR hx hne
      have hlen : v.cells.size = sz := by have := hcx.length; rw [← h1, ← this]; simp
      have hcl : cs.length = cells.size := by have := hv.length; simpa using this.symm
      have hfold : (v.cells.zipIdx.foldl (fun (cs : Array Value) (x : Value × Nat) => cs.setIfInBounds (off + x.2) x.1) cells).toList = cells.toList.take off ++ v.cells.toList ++ cells.toList.drop (off + v.cells.toList.length) := by
        have := foldl_set v.cells.toList cells off 0 (by simp; omega)
        rw [← Array.foldl_toList, Array.toList_zipIdx]
        simpa using this
      have hv' : VRl w F B c (setCells cs off (avCells x)) (v.cells.zipIdx.foldl (fun (cs : Array Value) (x : Value × Nat) => cs.setIfInBounds (off + x.2) x.1) cells).toList := by
        rw [hfold]
        exact VRl_setCells hv hcx
      obtain ⟨cells', cs', e, hc', hv'', hk⟩ := fillV_run hpl hr (cellsOK_setCells hc h3) hv' h4
      refine ⟨cells', cs', ?_, hc', hv'', hk⟩
      simp only [Instr.fill, hpl i off sz b hfi]
      rw [if_neg (by simp [hlen]; omega)]
      exact e
    · exact h.elim
theorem zero_VR (z : Value) (w : World) (F : Nat → Prop) (B : Blk) (c : Nat) : ∀ l : List Value, VRl w F B c (l.map cAV) l
  | [] => by simp [VRl]
  | v :: r => by simp only [List.map_cons, VRl]; exact ⟨v, r, rfl, cAV_VR .., zero_VR z w F B c r⟩
theorem buildV_run {t : TypeId} {parts : List (Nat × AV)} {vs : Array (Nat × Value)} (hp : PartsVR w F B c parts vs.toList) (h : buildV P t parts K) :
    ∃ v av, (∀ W, (Instr.build t vs).run P W = .ok v W) ∧ VR w F B c av v ∧ K av := by
  obtain ⟨hok, h⟩ := h
  unfold buildOK at hok
  split at hok
  · rename_i fs hu
    split at h
    · rename_i z hz
      obtain ⟨hcz, h⟩ := h
      unfold zeroI at hz
      split at hz
      · rename_i ti hti
        split at hz
        · rename_i zv hzv
          simp only [Option.some.injEq] at hz
          subst hz
          have hpl : ∀ i off sz b, fieldI P t i = some (off, sz, b) → (fs.map fun f => (f.offset, P.cellsOf f.type))[i]? = some (off, sz) := by
            intro i off sz b hfi
            obtain ⟨fs', fd, i', hu', hfd, hoff, hi, hsz, _⟩ := fieldI_spec hfi
            rw [hu] at hu'
            simp only [Option.some.injEq, TypeDesc.struct.injEq] at hu'
            subst hu'
            simp [hfd, hoff, Program.cellsOf, hi, hsz]
          obtain ⟨cells', cs', e, hc', hv', hk⟩ := fillV_run (P := P) hpl hp hcz (zero_VR zv w F B c _) h
          refine ⟨.agg cells', _, fun W => ?_, mkAgg_VR hc' hv', hk⟩
          have hm : (fs.mapM fun f => do pure (f.offset, ← sizeOf f.type) : Sem (Array (Nat × Nat))).run P W = .ok (fs.map fun f => (f.offset, P.cellsOf f.type)) W := by
            rw [Array.mapM_eq_mapM_toList]
            rw [Sem.run_map, run_mapM_list (P := P) _ (fun f => (f.offset, P.cellsOf f.type)) W fs.toList ?_]
            · simp
              exact Array.ext' (by simp)
            · intro f hf
              have := List.all_eq_true.1 hok f hf
              obtain ⟨i, hi⟩ := Option.isSome_iff_exists.1 this
              simp [run_sizeOf hi, Program.cellsOf, hi]
          have hzr : (zeroValue t).run P W = .ok zv W := by simp [zeroValue, typeInfo, hti, hzv]
          simp only [Instr.build, Sem.run_bind, Result.andThen_ok, hzr, run_underlying hu, hm, e, Sem.run_pure]
        · cases hz
      · cases hz
    · exact h.elim
  · cases hok
theorem mkClo_VR {fn : Fn} {f cp : List AV} {fv cv : Array Value} (hf : VRl w F B c f fv.toList) (hc : VRl w F B c cp cv.toList) (h1 : cellsOK f = true) (h2 : cellsOK cp = true) : VR w F B c (mkClo fn f cp) (.func fn fv cv) := by
  unfold mkClo
  split
  · rename_i fs cs e1 e2
    simp only [VR, DRv, DRc]
    exact ⟨fv, cv, rfl, DRl_of_VRl e1 h1 hf, DRl_of_VRl e2 h2 hc⟩
  · simp only [VR]; exact ⟨fv, cv, rfl, hf, hc⟩
end
 
theorem valV_run {P : Program} {F : Nat → Prop} {B : Blk} {w : World} {S : St} {a : Act} {K : AV → Prop} (hf : FR F B w S a) (o : Oper) (h : valV P o.op S K) :
    ∃ v av, (∀ W, (execOp a.eval o).run P W = .ok (.value v) W) ∧ VR w F B S.c av v ∧ K av := by
  obtain ⟨dst, op, ty, pos, after, guard⟩ := o
  have sc : ∀ {r : D}, r.scalar = true → VR w F B S.c (.d r) (valD r) := fun h => valD_VR h
  cases op <;> simp only [valV] at h <;> try exact h.elim
  case move x => exact ⟨a.eval x, S.ev x, fun W => by simp [execOp], ev_VR hf x, h⟩
  case pick c x y =>
    have hc := ev_VR hf c
    split at h
    · rename_i b e
      rw [e] at hc
      have := val_of_scalar rfl hc
      cases b
      · exact ⟨a.eval y, S.ev y, fun W => by simp [execOp, this, valD, asBool], ev_VR hf y, h.2 rfl⟩
      · exact ⟨a.eval x, S.ev x, fun W => by simp [execOp, this, valD, asBool], ev_VR hf x, h.1 rfl⟩
    · exact h.elim
  case binOp op t x y yt =>
    obtain ⟨r, h1, h2, h3⟩ := binV_run (ev_VR hf x) (ev_VR hf y) h
    exact ⟨_, _, fun W => by simp only [execOp, Sem.run_bind, h2 x y W, Result.andThen_ok, Sem.run_pure], sc h1, h3⟩
  case unOp op t x =>
    obtain ⟨r, h1, h2, h3⟩ := unV_run (P := P) (ev_VR hf x) h
    exact ⟨_, _, fun W => by simp only [execOp, Sem.run_bind, h2 W, Result.andThen_ok, Sem.run_pure], sc h1, h3⟩
  case convert src dst x =>
    obtain ⟨r, h1, h2, h3⟩ := convV_run (ev_VR hf x) h
    exact ⟨_, _, fun W => by simp only [execOp, Sem.run_bind, h2 W, Result.andThen_ok, Sem.run_pure], sc h1, h3⟩
  case fieldAddr s x f =>
    obtain ⟨v, av, h1, h2, h3⟩ := fieldAddrV_run (ev_VR hf x) h
    exact ⟨_, _, fun W => by simp only [execOp, Sem.run_bind, h1 W, Result.andThen_ok, Sem.run_pure], h2, h3⟩
  case field s x f =>
    obtain ⟨v, av, h1, h2, h3⟩ := fieldV_run (ev_VR hf x) h
    exact ⟨_, _, fun W => by simp only [execOp, Sem.run_bind, h1 W, Result.andThen_ok, Sem.run_pure], h2, h3⟩
  case indexAddr t x i =>
    obtain ⟨v, av, h1, h2, h3⟩ := indexAddrV_run (ev_VR hf x) (ev_VR hf i) h
    exact ⟨_, _, fun W => by simp only [execOp, Sem.run_bind, h1 W, Result.andThen_ok, Sem.run_pure], h2, h3⟩
  case index t x i =>
    obtain ⟨v, av, h1, h2, h3⟩ := indexV_run (ev_VR hf x) (ev_VR hf i) h
    exact ⟨_, _, fun W => by simp only [execOp, Sem.run_bind, h1 W, Result.andThen_ok, Sem.run_pure], h2, h3⟩
  case slice t x lo hi mx =>
    cases mx with
    | some m => exact h.elim
    | none =>
      obtain ⟨v, av, h1, h2, h3⟩ := sliceV_run (P := P) (lo' := lo.map a.eval) (hi' := hi.map a.eval) (ev_VR hf x) (by cases lo <;> simp [ev_VR hf]) (by cases hi <;> simp [ev_VR hf]) h
      exact ⟨_, _, fun W => by simp only [execOp, Sem.run_bind, Option.map_none, h1 W, Result.andThen_ok, Sem.run_pure], h2, h3⟩
  case extract x i =>
    obtain ⟨v, av, h1, h2, h3⟩ := extractV_run (P := P) (ev_VR hf x) h
    exact ⟨_, _, fun W => by simp only [execOp, Sem.run_bind, h1 W, Result.andThen_ok, Sem.run_pure], h2, h3⟩
  case nilCheck x =>
    obtain ⟨h1, ad, h2⟩ := nilCheckV_run (ev_VR hf x) h
    exact ⟨.pointer (some ad), _, fun W => by simp only [execOp, h2, Sem.run_pure], by rw [← h2]; exact ev_VR hf x, h1⟩
  case build t parts =>
    have hp : PartsVR w F B S.c (parts.toList.map fun p => (p.1, S.ev p.2)) (parts.map fun p => (p.1, a.eval p.2)).toList := by
      rw [Array.toList_map]
      generalize parts.toList = l
      induction l with
      | nil => simp [PartsVR]
      | cons p r ih => simp only [List.map_cons, PartsVR]; exact ⟨_, _, rfl, ev_VR hf _, ih⟩
    obtain ⟨v, av, h1, h2, h3⟩ := buildV_run (P := P) hp h
    exact ⟨_, _, fun W => by simp only [execOp, Sem.run_bind, h1 W, Result.andThen_ok, Sem.run_pure], h2, h3⟩
  case makeFunc fn f cp =>
    have hl : ∀ l : List Operand, VRl w F B S.c (l.map S.ev) (l.map a.eval) := by
      intro l
      induction l with
      | nil => simp [VRl]
      | cons x r ih => simp only [List.map_cons, VRl]; exact ⟨_, _, rfl, ev_VR hf x, ih⟩
    exact ⟨.func fn (f.map a.eval) (cp.map a.eval), _, fun W => by simp [execOp, Instr.makeFunc], mkClo_VR (by rw [Array.toList_map]; exact hl _) (by rw [Array.toList_map]; exact hl _) h.1 h.2.1, h.2.2⟩
  case call cl =>
    obtain ⟨callee, args, ats⟩ := cl
    cases callee <;> simp only at h <;> try exact h.elim
    rename_i b
    have hl : ∀ l : List Operand, VRl w F B S.c (l.map S.ev) (l.map a.eval) := by
      intro l
      induction l with
      | nil => simp [VRl]
      | cons x r ih => simp only [List.map_cons, VRl]; exact ⟨_, _, rfl, ev_VR hf x, ih⟩
    have hh := hl args.toList
    have hargs : args.map a.eval = (args.toList.map a.eval).toArray := Array.ext' (by simp)
    generalize hxs : args.toList.map S.ev = xs at h hh
    unfold builtinV at h
    split at h
    · split at h
      · rename_i x t ha
        simp only [VRl] at hh
        obtain ⟨v, vs', e, hv, rfl⟩ := hh
        obtain ⟨r, h1, h2, h3⟩ := lenV_run (P := P) (ty := ty) ha hv h
        exact ⟨_, _, fun W => by simp only [execOp, resolve, invoke, builtin, Sem.run_bind, Sem.run_pure, Result.andThen_ok, hargs, e, h2 W], sc h1, h3⟩
      · exact h.elim
    · obtain ⟨r, h1, h2, h3⟩ := mmV_run (P := P) hh h
      exact ⟨_, _, fun W => by
        have := h2 W ats ty
        simp only [Bool.false_eq_true, if_false] at this
        simp only [execOp, resolve, invoke, builtin, Sem.run_bind, Sem.run_pure, Result.andThen_ok, hargs, this], sc h1, h3⟩
    · obtain ⟨r, h1, h2, h3⟩ := mmV_run (P := P) hh h
      exact ⟨_, _, fun W => by
        have := h2 W ats ty
        simp only [if_true] at this
        simp only [execOp, resolve, invoke, builtin, Sem.run_bind, Sem.run_pure, Result.andThen_ok, hargs, this], sc h1, h3⟩
    · exact h.elim
end Go.Fw
namespace Go.Fw
open Go
set_option linter.unusedVariables false
set_option linter.unusedSimpArgs false
 
def Ext (w w' : World) : Prop := ∀ b, b < w.heap.size → w'.heap[b]? = w.heap[b]?
theorem Ext.refl (w : World) : Ext w w := fun _ _ => rfl
theorem Ext.size {w w' : World} (h : Ext w w') : w.heap.size ≤ w'.heap.size := by
  rcases Nat.eq_zero_or_pos w.heap.size with h0 | h0
  · omega
  · have := h (w.heap.size - 1) (by omega)
    have h1 : w.heap[w.heap.size - 1]? = some (w.heap[w.heap.size - 1]'(by omega)) := by simp [h0]
    rw [h1] at this
    have := (Array.getElem?_eq_some_iff.1 this).1
    omega
theorem Ext.trans {a b c : World} (h : Ext a b) (k : Ext b c) : Ext a c := fun i hi => (k i (Nat.lt_of_lt_of_le hi h.size)).trans (h i hi)
theorem Ext.cells {w w' : World} (h : Ext w w') {ad : Addr} {vs : List Value} (hb : ad.block < w.heap.size) (hc : Cells w ad vs) : Cells w' ad vs :=
  hc.keep (F := fun b => b < w.heap.size) h hb
def D.ncells : D → Nat
  | .agg l => l.length
  | _ => 1
 
def varI (P : Program) (t : TypeId) : Option (Nat × Bool) := match P.info? t, aggT P t with
  | some i, some b => if 0 < i.size ∧ (b = true ∨ i.size = 1) then some (i.size, b) else none
  | _, _ => none
theorem varI_spec {P : Program} {t sz : Nat} {b : Bool} (h : varI P t = some (sz, b)) : ∃ i, P.info? t = some i ∧ i.size = sz ∧ 0 < sz ∧ aggT P t = some b ∧ (b = false → sz = 1) := by
  unfold varI at h
  split at h
  · rename_i i b' hi hb
    split at h
    · rename_i hc
      simp only [Option.some.injEq, Prod.mk.injEq] at h
      obtain ⟨rfl, rfl⟩ := h
      exact ⟨i, hi, rfl, hc.1, hb, fun h => by rcases hc.2 with h' | h' <;> simp_all⟩
    · cases h
  · cases h
 
def dByte : D → UInt8
  | .int _ n => UInt8.ofNat n.toNat
  | _ => 0
def allU8 : List D → Bool
  | [] => true
  | .int .u8 _ :: r => allU8 r
  | _ :: _ => false
def byteD (b : UInt8) : D := .int .u8 b.toNat
def loadV (P : Program) (t : TypeId) (S : St) (x : AV) (K : AV → Prop) : Prop := match varI P t with
  | some (sz, b) => match x with
    | .d (.ptr y) => y.isAgg = b ∧ y.ncells = sz ∧ K (.d y)
    | .addr k g c => match objIn S.H k with
      | some (g', .box _ l) => g' = g ∧ c + sz ≤ l.length ∧ K (asub l c sz b)
      | _ => False
    | .elt k g z j o => match objIn S.H k with
      | some (g', .row _ z' l) => g' = g ∧ z' = z ∧ j < l.length ∧ ∀ y, l.getD j default = y →
          ((o = 0 ∧ y.isAgg = b ∧ y.ncells = sz ∧ z = sz ∧ K (.d y)) ∨
           (match y with
            | .agg fs => o + sz ≤ fs.length ∧ K (.d (dsub fs o sz b))
            | _ => False))
      | _ => False
    | _ => False
  | none => False
def rdBytesV (P : Program) (src dst : TypeId) (S : St) (x : AV) (K : AV → Prop) : Prop := match P.underlying src, shapeT P dst, x with
  | some (.slice e), .str, .d (.sl z l) => shapeT P e = .int .u8 ∧ z = 1 ∧ allU8 l = true ∧ K (.d (.str ⟨(l.map dByte).toArray⟩))
  | some (.slice e), .str, .ref k g z off len => match objIn S.H k with
    | some (g', .row _ z' l) => shapeT P e = .int .u8 ∧ g' = g ∧ z' = 1 ∧ z = 1 ∧ off + len ≤ l.length ∧ allU8 ((l.drop off).take len) = true ∧ K (.d (.str ⟨(((l.drop off).take len).map dByte).toArray⟩))
    | _ => False
  | some (.slice e), .str, .nils => shapeT P e = .int .u8 ∧ K (.d (.str ⟨#[]⟩))
  | _, _, _ => False
 
def readV (P : Program) (op : Op) (S : St) (K : AV → Prop) : Prop := match op with
  | .load t x => loadV P t S (S.ev x) K
  | .convert src dst x => rdBytesV P src dst S (S.ev x) K
  | _ => False
section
variable {P : Program} {w : World} {F : Nat → Prop} {B : Blk} {c : Nat} {K : AV → Prop}
theorem DRc.len {x : D} {cs : List Value} (h : DRc w F x cs) : cs.length = x.ncells := by
  cases x with
  | agg l => simp only [DRc] at h; simpa [D.ncells] using h.length
  | sl z l => simp only [DRc] at h; obtain ⟨A, cc, rfl, _⟩ := h; rfl
  | ptr y => simp only [DRc] at h; obtain ⟨A, cc, rfl, _⟩ := h; rfl
  | clo fn f cp => simp only [DRc] at h; obtain ⟨A, cc, rfl, _⟩ := h; rfl
  | _ => simp only [DRc] at h; subst h; rfl
theorem run_loadVar {t : TypeId} {i : TypeInfo} {b : Bool} (hi : P.info? t = some i) (hb : aggT P t = some b) (h1 : b = false → i.size = 1) {ad : Addr} {cs : List Value} (hl : cs.length = i.size) {W : World} (hc : Cells W ad cs) :
    (loadVar t ad).run P W = .ok (if b then .agg cs.toArray else cs.headD undef) W := by
  cases b
  · have hs := h1 rfl
    rw [hs] at hl
    match cs, hl with
    | [v], _ =>
      have := hc 0 v rfl
      have e : ad.add 0 = ad := by simp [Addr.add]
      rw [e] at this
      simp [loadVar, run_isAgg hb, this]
  · simp [loadVar, run_isAgg hb, run_sizeOf hi]
    rw [← hl, run_loadCells_list W ad cs hc]
    rfl
 
theorem val_of_cells {x : D} {b : Bool} {cs : List Value} (hb : x.isAgg = b) (h : DRc w F x cs) : DRv w F x (if b then .agg cs.toArray else cs.headD undef) := by
  subst hb
  cases x with
  | agg l => simp only [D.isAgg, if_true, DRv]; simp only [DRc] at h; exact ⟨_, rfl, by simpa using h⟩
  | sl z l => simp only [D.isAgg, DRv]; have hh := h; simp only [DRc] at h; obtain ⟨A, cc, rfl, _⟩ := h; exact hh
  | ptr y => simp only [D.isAgg, DRv]; have hh := h; simp only [DRc] at h; obtain ⟨A, cc, rfl, _⟩ := h; exact hh
  | clo fn f cp => simp only [D.isAgg, DRv]; have hh := h; simp only [DRc] at h; obtain ⟨A, cc, rfl, _⟩ := h; exact hh
  | _ => simp only [D.isAgg, DRv]; have hh := h; simp only [DRc] at h; subst h; exact hh
theorem cell_at {w : World} {b : Nat} {cs : Array Value} {e : Nat} {fr : Nat × Nat} (h : w.heap[b]? = some (.cells cs e fr)) (i : Nat) : w.cell? ⟨b, i, none⟩ = cs[i]? := by
  simp [World.cell?, h]
theorem Cells_of_block {w : World} {b : Nat} {cs : Array Value} {e : Nat} {fr : Nat × Nat} (h : w.heap[b]? = some (.cells cs e fr)) (o s : Nat) : Cells w ⟨b, o, none⟩ ((cs.toList.drop o).take s) := by
  intro i v hv
  rw [add_plain, cell_at h]
  rw [List.getElem?_take] at hv
  split at hv
  · rw [List.getElem?_drop] at hv
    simpa using hv
  · cases hv
theorem FR.objsIn {S : St} {a : Act} (hf : FR F B w S a) {k : Key} {g : Nat} {o : AO} (h : objIn S.H k = some (g, o)) : OR w F B S.c g o := (hf.objs k g o (mem_of_objIn h)).2
theorem lt_heap {w : World} {b : Nat} {o : Obj} (h : w.heap[b]? = some o) : b < w.heap.size := (Array.getElem?_eq_some_iff.1 h).1
theorem loadV_run {t : TypeId} {S : St} {a : Act} {x : AV} {u : Value} (hf : FR F B w S a) (hx : VR w F B S.c x u) (h : loadV P t S x K) :
    ∃ v av, (∀ W, Ext w W → (Instr.loadAt t u).run P W = .ok v W) ∧ VR w F B S.c av v ∧ K av := by
  unfold loadV at h
  split at h
  · rename_i sz b hvi
    obtain ⟨i, hi, hsz, h0, hag, hb1⟩ := varI_spec hvi
    have key : ∀ (ad : Addr) (cs : List Value), u = .pointer (some ad) → ad.block < w.heap.size → Cells w ad cs → cs.length = sz → ∀ W, Ext w W → (Instr.loadAt t u).run P W = .ok (if b then .agg cs.toArray else cs.headD undef) W := by
      intro ad cs e hlt hc hl W hW
      subst e
      have := run_loadVar (P := P) hi hag (fun hb => by rw [hsz]; exact hb1 hb) (by rw [hsz]; exact hl) (hW.cells hlt hc)
      simp [Instr.loadAt, Instr.sureAddr, this]
    split at h
    · rename_i y
      obtain ⟨h1, h2, h3⟩ := h
      simp only [VR, DRv, DRc] at hx
      obtain ⟨ad, cs, hu, hF, hC, hD⟩ := hx
      simp only [List.cons.injEq, and_true] at hu
      refine ⟨_, _, key ad cs hu (hf.Flt _ hF) hC (by rw [hD.len, h2]), ?_, h3⟩
      simp only [VR]
      exact val_of_cells h1 hD
    · rename_i k g o
      split at h
      · rename_i g' e l hob
        obtain ⟨rfl, h1, h2⟩ := h
        have hor := hf.objsIn hob
        simp only [OR] at hor
        obtain ⟨bb, n, cs, fr, hB, hh, hun, hco, hvl⟩ := hor
        simp only [VR] at hx
        obtain ⟨hg, bb', n', hB', rfl⟩ := hx
        rw [hB] at hB'
        simp only [Option.some.injEq, Prod.mk.injEq] at hB'
        obtain ⟨rfl, rfl⟩ := hB'
        have hlen : l.length = cs.size := by have := hvl.length; simpa using this.symm
        have hk := key ⟨bb, o, none⟩ ((cs.toList.drop o).take sz) rfl (lt_heap hh) (Cells_of_block hh o sz) (by simp; omega)
        refine ⟨_, _, hk, ?_, h2⟩
        cases b
        · have hs := hb1 rfl
          subst hs
          obtain ⟨v, hv1, hv2⟩ := hvl.get o (by omega)
          have hlt := (List.getElem?_eq_some_iff.1 hv1).1
          have hv := (List.getElem?_eq_some_iff.1 hv1).2
          rw [List.drop_eq_getElem_cons hlt, List.take_succ_cons, List.take_zero, hv]
          simpa [asub] using hv2
        · simp only [asub, if_true]
          refine mkAgg_VR (cellsOK_take _ (cellsOK_drop _ hco)) ?_
          simpa using (hvl.drop o).take sz
      · exact h.elim
    · rename_i k g z j o
      split at h
      · rename_i g' e z' l hob
        obtain ⟨rfl, rfl, hj, h⟩ := h
        replace h := h _ rfl
        have hor := hf.objsIn hob
        simp only [VR] at hx
        obtain ⟨hg, bb, n, hB, rfl⟩ := hx
        simp only [OR, hB] at hor
        obtain ⟨cs, fr, hh, hun, hz0, hcs, hln, hmx, hdr⟩ := hor
        have hlt := lt_heap hh
        have hget := hdr.get j hj
        have hjn : (j + 1) * z' ≤ l.length * z' := Nat.mul_le_mul_right _ hj
        rw [Nat.add_mul, Nat.one_mul] at hjn
        have htk : (List.drop (j * z') (List.take (l.length * z') cs.toList)).take z' = (cs.toList.drop (j * z')).take z' := by
          rw [List.drop_take, List.take_take, Nat.min_eq_left (by omega)]
        rw [htk] at hget
        rcases h with ⟨rfl, h1, h2, rfl, h3⟩ | h
        · refine ⟨_, _, key ⟨bb, j * z' + 0, none⟩ ((cs.toList.drop (j * z')).take z') rfl hlt (Cells_of_block hh _ _) (by rw [hget.1.len, h2]), ?_, h3⟩
          simp only [VR]
          exact val_of_cells h1 hget.1
        · split at h
          · rename_i fs hfs
            rw [hfs] at hget
            obtain ⟨h1, h2⟩ := h
            have hd := hget.1
            simp only [DRc] at hd
            have hfl : fs.length = z' := by have := hd.length; rw [hget.2] at this; exact this.symm
            have hsub := dsub_cells h1 hb1 hd
            have e1 : (List.drop o ((cs.toList.drop (j * z')).take z')).take sz = (cs.toList.drop (j * z' + o)).take sz := by
              rw [List.drop_take, List.take_take, List.drop_drop, Nat.min_eq_left (by omega)]
            rw [e1] at hsub
            have hlen2 : ((cs.toList.drop (j * z' + o)).take sz).length = sz := by
              have h5 : n * z' = cs.size := hcs.symm
              have h6 : l.length * z' ≤ n * z' := Nat.mul_le_mul_right _ hln
              simp; omega
            refine ⟨_, _, key ⟨bb, j * z' + o, none⟩ _ rfl hlt (Cells_of_block hh _ sz) hlen2, ?_, h2⟩
            simp only [VR]
            refine val_of_cells ?_ hsub
            cases b
            · have hs := hb1 rfl
              subst hs
              obtain ⟨v, _, hv, _⟩ := hd.get o (by omega)
              simpa [dsub] using hv
            · rfl
          · exact h.elim
      · exact h.elim
    · exact h.elim
  · exact h.elim
end
end Go.Fw
namespace Go.Fw
open Go
set_option linter.unusedVariables false
set_option linter.unusedSimpArgs false
section
variable {P : Program} {w : World} {F : Nat → Prop} {B : Blk} {c : Nat} {K : AV → Prop}
def dNum : D → Int
  | .int _ n => n
  | _ => 0
theorem bytes_cells : ∀ {l : List D} {cs : List Value}, allU8 l = true → DRr w F 1 l cs → cs = (l.map dNum).map (Value.int .u8)
  | [], cs, _, h => by simpa [DRr] using h
  | x :: r, cs, ha, h => by
    simp only [DRr] at h
    obtain ⟨a, b, rfl, h0, h1, h2⟩ := h
    unfold allU8 at ha
    split at ha
    · rename_i e; cases e
    · rename_i n r' e
      cases e
      simp only [DRc] at h1
      subst h1
      simp [bytes_cells ha h2, dNum]
    · cases ha
theorem strOfNums_eq {l : List D} (_ : allU8 l = true) : strOfNums (l.map dNum) = ⟨(l.map dByte).toArray⟩ := by
  simp only [strOfNums, ByteArray.mk.injEq, List.map_map]
  congr 1
  refine List.map_congr_left fun x _ => ?_
  cases x <;> rfl
theorem conv_bytes {src dst e : TypeId} (hs : P.underlying src = some (.slice e)) (he : P.underlying e = some (.int .u8)) (hd : P.underlying dst = some .string) {ad : Addr} {xs : List Int} {cap : Nat} {W : World} (h : Cells W ad (xs.map (Value.int .u8))) :
    (convert src dst (.slice (some ad) xs.length cap)).run P W = .ok (.string (strOfNums xs)) W := by
  have hl : (loadCells ad xs.length).run P W = .ok (xs.map (Value.int .u8)).toArray W := by
    have := run_loadCells_list (P := P) W ad (xs.map (Value.int .u8)) h
    simpa using this
  rw [run_convert_bytes_string W src dst e _ _ cap hs he hd, run_bytesToString W _ _ cap xs hl, foldl_push_bytes]
  simp [strOfNums, ByteArray.empty, ByteArray.emptyWithCapacity]
  rfl
theorem rdBytesV_run {src dst : TypeId} {S : St} {a : Act} {x : AV} {u : Value} (hf : FR F B w S a) (hx : VR w F B S.c x u) (h : rdBytesV P src dst S x K) :
    ∃ v av, (∀ W, Ext w W → (convert src dst u).run P W = .ok v W) ∧ VR w F B S.c av v ∧ K av := by
  unfold rdBytesV at h
  split at h
  · rename_i e z l hs hd
    obtain ⟨he, rfl, ha, hk⟩ := h
    simp only [VR, DRv, DRc] at hx
    obtain ⟨A, cc, hu, hl, hm, hr⟩ := hx
    simp only [List.cons.injEq, and_true] at hu
    subst hu
    refine ⟨.string ⟨(l.map dByte).toArray⟩, _, fun W hW => ?_, by simp [VR, DRv, DRc], hk⟩
    rw [← strOfNums_eq ha]
    rcases hr with rfl | ⟨ad, cs, rfl, hF, hC, hD⟩
    · cases A with
      | none => exact run_convert_bytes_nil (P := P) W src e hs (shapeT_int he) _ _ dst (shapeT_str hd)
      | some ad => exact conv_bytes (P := P) (xs := []) hs (shapeT_int he) (shapeT_str hd) (fun i v hv => by simp at hv)
    · have := conv_bytes (P := P) (xs := l.map dNum) (cap := cc) hs (shapeT_int he) (shapeT_str hd) (by rw [← bytes_cells ha hD]; exact hW.cells (hf.Flt _ hF) hC)
      simpa using this
  · rename_i e k g z off len hs hd
    split at h
    · rename_i g' e' z' l hob
      obtain ⟨he, rfl, rfl, rfl, hol, ha, hk⟩ := h
      have hor := hf.objsIn hob
      simp only [VR] at hx
      obtain ⟨hg, hx⟩ := hx
      refine ⟨.string ⟨(((l.drop off).take len).map dByte).toArray⟩, _, fun W hW => ?_, by simp [VR, DRv, DRc], hk⟩
      rw [← strOfNums_eq ha]
      split at hx
      · obtain ⟨rfl, rfl, rfl⟩ := hx
        exact run_convert_bytes_nil (P := P) W src e hs (shapeT_int he) _ _ dst (shapeT_str hd)
      · rename_i bb n hB
        obtain ⟨ad, rfl, hcap, had⟩ := hx
        simp only [OR, hB] at hor
        obtain ⟨cs, fr, hh, hun, hz0, hcs, hln, hmx, hdr⟩ := hor
        have hlen : (((l.drop off).take len).map dNum).length = len := by simp; omega
        rcases had with rfl | ⟨rfl, _⟩
        · have hD := (hdr.drop off).take len
          have hc : Cells w ⟨bb, off * 1, none⟩ ((((l.drop off).take len).map dNum).map (Value.int .u8)) := by
            rw [← bytes_cells ha hD]
            have : ((cs.toList.take (l.length * 1)).drop (off * 1)).take (len * 1) = (cs.toList.drop (off * 1)).take (len * 1) := by
              rw [List.drop_take, List.take_take, Nat.min_eq_left (by omega)]
            rw [this]
            exact Cells_of_block hh _ _
          have := conv_bytes (P := P) (cap := n - off) hs (shapeT_int he) (shapeT_str hd) (hW.cells (lt_heap hh) hc)
          rw [hlen] at this
          exact this
        · exact conv_bytes (P := P) (xs := []) hs (shapeT_int he) (shapeT_str hd) (fun i v hv => by simp at hv)
    · exact h.elim
  · rename_i e hs hd
    simp only [VR] at hx
    subst hx
    exact ⟨.string ⟨#[]⟩, _, fun W hW => run_convert_bytes_nil (P := P) W src e hs (shapeT_int h.1) _ _ dst (shapeT_str hd), by simp [VR, DRv, DRc], h.2⟩
  · exact h.elim
 
theorem readV_run {S : St} {a : Act} (hf : FR F B w S a) (o : Oper) (h : readV P o.op S K) :
    ∃ v av, (∀ W, Ext w W → (execOp a.eval o).run P W = .ok (.value v) W) ∧ VR w F B S.c av v ∧ K av := by
  obtain ⟨dst, op, ty, pos, after, guard⟩ := o
  cases op <;> simp only [readV] at h <;> try exact h.elim
  case load t x =>
    obtain ⟨v, av, h1, h2, h3⟩ := loadV_run hf (ev_VR hf x) h
    exact ⟨_, _, fun W hW => by simp only [execOp, Sem.run_bind, h1 W hW, Result.andThen_ok, Sem.run_pure], h2, h3⟩
  case convert src dst x =>
    obtain ⟨v, av, h1, h2, h3⟩ := rdBytesV_run hf (ev_VR hf x) h
    exact ⟨_, _, fun W hW => by simp only [execOp, Sem.run_bind, h1 W hW, Result.andThen_ok, Sem.run_pure], h2, h3⟩
end
end Go.Fw
namespace Go.Fw
open Go
set_option linter.unusedVariables false
set_option linter.unusedSimpArgs false
def dropKey (k : Key) (H : List (Key × Nat × AO)) : List (Key × Nat × AO) := H.filter fun x => !(k.isPrefixOf x.1)
theorem dropKey_sub (k : Key) (H : List (Key × Nat × AO)) : (dropKey k H).Sublist H := List.filter_sublist
def updB (B : Blk) (c : Nat) (o : Option (Nat × Nat)) : Blk := fun g => if g = c then o else B g
theorem updB_old {B : Blk} {c : Nat} {o : Option (Nat × Nat)} {g : Nat} (h : g < c) : updB B c o g = B g := by unfold updB; rw [if_neg (by omega)]
theorem updB_new {B : Blk} {c : Nat} {o : Option (Nat × Nat)} : updB B c o c = o := by simp [updB]
def setO : List (Key × Nat × AO) → Key → AO → List (Key × Nat × AO)
  | [], _, _ => []
  | (k', g, o') :: r, k, o => if k' = k then (k', g, o) :: r else (k', g, o') :: setO r k o
theorem OR.mono {w w' : World} {F F' : Nat → Prop} {B B' : Blk} {c c' g : Nat} (hk : ∀ b, F b → w'.heap[b]? = w.heap[b]?) (hF : ∀ b, F b → F' b) (hB : ∀ g, g < c → B' g = B g) (hc : c ≤ c') (hg : g < c) (hown : ∀ b n, B g = some (b, n) → w'.heap[b]? = w.heap[b]?) :
    ∀ {o : AO}, OR w F B c g o → OR w' F' B' c' g o
  | .row e sz l, h => by
    simp only [OR, hB g hg] at h ⊢
    split at h
    · rename_i hn; simpa [hn] using h
    · rename_i b n hn
      obtain ⟨cs, fr, h1, h2, h3, h4, h5, h6, h7⟩ := h
      exact ⟨cs, fr, by rw [hown b n hn]; exact h1, h2, h3, h4, h5, h6, DRr.mono hk hF _ _ _ h7⟩
  | .box e l, h => by
    simp only [OR, hB g hg] at h ⊢
    obtain ⟨b, n, cs, fr, h1, h2, h3, h4, h5⟩ := h
    exact ⟨b, n, cs, fr, h1, by rw [hown b n h1]; exact h2, h3, h4, VRl.mono hk hF hB hc _ _ h5⟩
  | .iter s pos, h => by
    simp only [OR, hB g hg] at h ⊢
    obtain ⟨b, n, h1, h2⟩ := h
    exact ⟨b, n, h1, by rw [hown b n h1]; exact h2⟩
section
variable {F : Nat → Prop} {B : Blk} {w w' : World} {S : St} {a : Act}
 
theorem FR.add (hf : FR F B w S a) {H' : List (Key × Nat × AO)} (hs : H'.Sublist S.H) (hsz : w.heap.size ≤ w'.heap.size) (hF : ∀ b, F b → w'.heap[b]? = w.heap[b]?)
    (hH : ∀ x ∈ H', ∀ b n, B x.2.1 = some (b, n) → w'.heap[b]? = w.heap[b]?) {bo : Option (Nat × Nat)}
    (hbo : ∀ b n, bo = some (b, n) → ¬ F b ∧ b < w'.heap.size ∧ ∀ x ∈ H', ∀ n', B x.2.1 ≠ some (b, n')) {k : Key} {o : AO} (ho : OR w' F (updB B S.c bo) (S.c + 1) S.c o) :
    FR F (updB B S.c bo) w' ⟨S.E, (k, S.c, o) :: H', S.c + 1⟩ a where
  slots t := VR.mono hF (fun _ h => h) (fun g hg => updB_old hg) (Nat.le_succ _) _ _ (hf.slots t)
  objs k' g o' hm := by
    rcases List.mem_cons.1 hm with h | h
    · simp only [Prod.mk.injEq] at h
      obtain ⟨rfl, rfl, rfl⟩ := h
      exact ⟨Nat.lt_succ_self _, ho⟩
    · have := hf.objs k' g o' (hs.subset h)
      exact ⟨Nat.lt_succ_of_lt this.1, OR.mono hF (fun _ h => h) (fun g hg => updB_old hg) (Nat.le_succ _) this.1 (fun b n hb => hH _ h b n hb) this.2⟩
  sep b := by
    rintro ⟨k', g, o', n, hm, hb⟩
    rcases List.mem_cons.1 hm with h | h
    · simp only [Prod.mk.injEq] at h
      obtain ⟨rfl, rfl, rfl⟩ := h
      rw [updB_new] at hb
      exact ⟨(hbo b n hb).1, (hbo b n hb).2.1⟩
    · have hg := (hf.objs k' g o' (hs.subset h)).1
      rw [updB_old hg] at hb
      have := hf.sep b ⟨k', g, o', n, hs.subset h, hb⟩
      exact ⟨this.1, by omega⟩
  inj := by
    simp only [List.map_cons, List.pairwise_cons]
    refine ⟨fun g hg => ?_, ?_⟩
    · obtain ⟨x, hx, rfl⟩ := List.mem_map.1 hg
      have hlt := (hf.objs x.1 x.2.1 x.2.2 (hs.subset hx)).1
      refine ⟨by omega, fun b n n' h1 h2 => ?_⟩
      rw [updB_new] at h1
      rw [updB_old hlt] at h2
      exact (hbo b n h1).2.2 x hx n' h2
    · have := hf.inj.sublist (hs.map fun x => x.2.1)
      refine List.Pairwise.imp_of_mem (fun {g g'} hg hg' h => ?_) this
      obtain ⟨x, hx, rfl⟩ := List.mem_map.1 hg
      obtain ⟨y, hy, rfl⟩ := List.mem_map.1 hg'
      have hlx := (hf.objs x.1 x.2.1 x.2.2 (hs.subset hx)).1
      have hly := (hf.objs y.1 y.2.1 y.2.2 (hs.subset hy)).1
      refine ⟨h.1, fun b n n' => ?_⟩
      rw [updB_old hlx, updB_old hly]
      exact h.2 b n n'
  Flt b hb := by have := hf.Flt b hb; omega
  defers := hf.defers
  pin := Nat.le_succ_of_le hf.pin
theorem setO_gens : ∀ (H : List (Key × Nat × AO)) (k : Key) (o : AO), (setO H k o).map (fun x => x.2.1) = H.map fun x => x.2.1
  | [], _, _ => rfl
  | (k', g, o') :: r, k, o => by
    simp only [setO]
    split
    · simp
    · simp [setO_gens r k o]
theorem mem_setO : ∀ {H : List (Key × Nat × AO)} {k : Key} {g : Nat} {o o0 : AO}, objIn H k = some (g, o0) → ∀ x ∈ setO H k o, x = (k, g, o) ∨ (x ∈ H ∧ x.2.1 ≠ g) ∨ (x ∈ H ∧ ¬ (H.map fun x => x.2.1).Nodup)
  | [], k, g, o, o0, h, x, hx => by simp [objIn] at h
  | (k', g', o') :: r, k, g, o, o0, h, x, hx => by
    simp only [objIn] at h
    simp only [setO] at hx
    by_cases hk : k' = k
    · simp only [hk, if_true, Option.some.injEq, Prod.mk.injEq] at h hx
      obtain ⟨rfl, rfl⟩ := h
      rcases List.mem_cons.1 hx with h1 | h1
      · exact .inl h1
      · by_cases hg : x.2.1 = g'
        · refine .inr (.inr ⟨List.mem_cons_of_mem _ h1, fun hn => ?_⟩)
          simp only [List.map_cons, List.nodup_cons] at hn
          exact hn.1 (List.mem_map.2 ⟨x, h1, hg⟩)
        · exact .inr (.inl ⟨List.mem_cons_of_mem _ h1, hg⟩)
    · simp only [hk, if_false] at h hx
      rcases List.mem_cons.1 hx with h1 | h1
      · by_cases hg : x.2.1 = g
        · refine .inr (.inr ⟨by rw [h1]; exact List.mem_cons_self, fun hn => ?_⟩)
          simp only [List.map_cons, List.nodup_cons] at hn
          have := mem_of_objIn h
          refine hn.1 (List.mem_map.2 ⟨_, this, ?_⟩)
          rw [h1] at hg
          exact hg.symm
        · exact .inr (.inl ⟨by rw [h1]; exact List.mem_cons_self, hg⟩)
      · rcases mem_setO h x h1 with h2 | ⟨h2, h3⟩ | ⟨h2, h3⟩
        · exact .inl h2
        · exact .inr (.inl ⟨List.mem_cons_of_mem _ h2, h3⟩)
        · refine .inr (.inr ⟨List.mem_cons_of_mem _ h2, fun hn => h3 ?_⟩)
          simp only [List.map_cons, List.nodup_cons] at hn
          exact hn.2
theorem FR.gensNodup (hf : FR F B w S a) : (S.H.map fun x => x.2.1).Nodup := hf.inj.imp fun h => h.1
 
theorem FR.upd (hf : FR F B w S a) {k : Key} {g : Nat} {o0 o : AO} (hob : objIn S.H k = some (g, o0)) {b n : Nat} (hB : B g = some (b, n)) (hsz : w.heap.size ≤ w'.heap.size) (hw : ∀ i, i < w.heap.size → i ≠ b → w'.heap[i]? = w.heap[i]?)
    (ho : OR w' F B S.c g o) : FR F B w' ⟨S.E, setO S.H k o, S.c⟩ a := by
  have hm := mem_of_objIn hob
  have hFb : ∀ i, F i → w'.heap[i]? = w.heap[i]? := fun i hi => hw i (hf.Flt i hi) fun e => (hf.sep b ⟨k, g, o0, n, hm, hB⟩).1 (e ▸ hi)
  have hother : ∀ x ∈ S.H, x.2.1 ≠ g → ∀ i m, B x.2.1 = some (i, m) → i ≠ b := by
    intro x hx hne i m hi e
    subst e
    have hp := hf.inj
    have h1 : x.2.1 ∈ S.H.map fun x => x.2.1 := List.mem_map.2 ⟨x, hx, rfl⟩
    have h2 : g ∈ S.H.map fun x => x.2.1 := List.mem_map.2 ⟨_, hm, rfl⟩
    have q := List.pairwise_iff_getElem.1 hp
    obtain ⟨i1, hi1, e1⟩ := List.mem_iff_getElem.1 h1
    obtain ⟨i2, hi2, e2⟩ := List.mem_iff_getElem.1 h2
    rcases Nat.lt_trichotomy i1 i2 with hlt | heq | hlt
    · have := q i1 i2 hi1 hi2 hlt
      rw [e1, e2] at this
      exact this.2 _ _ _ hi hB
    · subst heq
      exact hne (e1.symm.trans e2)
    · have := q i2 i1 hi2 hi1 hlt
      rw [e1, e2] at this
      exact this.2 _ _ _ hB hi
  have hown : ∀ i, Own (setO S.H k o) B i → Own S.H B i := by
    rintro i ⟨k', g', o', m, hm', hb'⟩
    rcases mem_setO hob _ hm' with h | h | h
    · simp only [Prod.mk.injEq] at h
      obtain ⟨rfl, rfl, rfl⟩ := h
      exact ⟨_, _, _, _, hm, hb'⟩
    · exact ⟨_, _, _, _, h.1, hb'⟩
    · exact ⟨_, _, _, _, h.1, hb'⟩
  refine ⟨fun t => VR.mono hFb (fun _ h => h) (fun _ _ => rfl) (Nat.le_refl _) _ _ (hf.slots t), fun k' g' o' hm' => ?_, fun i hi => ?_, ?_, fun i hi => by have := hf.Flt i hi; omega, hf.defers, hf.pin⟩
  · rcases mem_setO hob _ hm' with h | h | h
    · simp only [Prod.mk.injEq] at h
      obtain ⟨rfl, rfl, rfl⟩ := h
      exact ⟨(hf.objs _ _ _ hm).1, ho⟩
    · have := hf.objs _ _ _ h.1
      exact ⟨this.1, OR.mono hFb (fun _ h => h) (fun _ _ => rfl) (Nat.le_refl _) this.1 (fun i m hi => hw i (hf.sep i ⟨_, _, _, _, h.1, hi⟩).2 (hother _ h.1 h.2 i m hi)) this.2⟩
    · exact absurd hf.gensNodup h.2
  · have := hf.sep i (hown i hi)
    exact ⟨this.1, by omega⟩
  · rw [setO_gens]
    exact hf.inj
end
end Go.Fw
namespace Go.Fw
open Go
set_option linter.unusedVariables false
set_option linter.unusedSimpArgs false
mutual
 
def toD (P : Program) (H : List (Key × Nat × AO)) : Nat → AV → Option (D × List Key)
  | 0, _ => none
  | n + 1, .d x => some (x, [])
  | n + 1, .nils => some (.sl 0 [], [])
  | n + 1, .ref k g sz off len => match objIn H k with
    | some (g', .row _ z l) => if g' = g ∧ z = sz ∧ off + len ≤ l.length then some (.sl sz ((l.drop off).take len), [k]) else none
    | _ => none
  | n + 1, .addr k g c => match objIn H k with
    | some (g', .box e l) => if g' = g ∧ c = 0 then match toDl P H n l with
        | some (xs, ks) => match aggT P e with
          | some true => some (.ptr (.agg xs), k :: ks)
          | some false => match xs with
            | [y] => some (.ptr y, k :: ks)
            | _ => none
          | none => none
        | none => none
      else none
    | _ => none
  | n + 1, .agg l => match toDl P H n l with
    | some (xs, ks) => some (.agg xs, ks)
    | none => none
  | n + 1, .clo fn f c => if cellsOK f && cellsOK c then match toDl P H n f, toDl P H n c with
    | some (fs, k1), some (cs, k2) => some (.clo fn fs cs, k1 ++ k2)
    | _, _ => none
    else none
  | n + 1, _ => none
def toDl (P : Program) (H : List (Key × Nat × AO)) : Nat → List AV → Option (List D × List Key)
  | 0, _ => none
  | n + 1, [] => some ([], [])
  | n + 1, x :: r => match toD P H n x, toDl P H n r with
    | some (y, k1), some (ys, k2) => some (y :: ys, k1 ++ k2)
    | _, _ => none
end
 
def FK (H : List (Key × Nat × AO)) (B : Blk) (ks : List Key) (b : Nat) : Prop := ∃ k g o n, k ∈ ks ∧ (k, g, o) ∈ H ∧ B g = some (b, n)
section
variable {P : Program} {F : Nat → Prop} {B : Blk} {w : World} {S : St} {a : Act}
theorem toD_isAgg {n : Nat} {x : AV} {y : D} {ks : List Key} (h : toD P S.H n x = some (y, ks)) (hc : x.cell = true) : y.isAgg = false := by
  cases n with
  | zero => simp [toD] at h
  | succ n =>
    cases x <;> simp only [toD] at h
    case d x => simp only [Option.some.injEq, Prod.mk.injEq] at h; obtain ⟨rfl, _⟩ := h; simpa [AV.cell] using hc
    case nils => simp only [Option.some.injEq, Prod.mk.injEq] at h; obtain ⟨rfl, _⟩ := h; rfl
    case ref => split at h <;> (try split at h) <;> simp_all; obtain ⟨rfl, _⟩ := h; rfl
    case addr =>
      split at h
      · split at h
        · split at h
          · split at h
            · simp only [Option.some.injEq, Prod.mk.injEq] at h; obtain ⟨rfl, _⟩ := h; rfl
            · split at h
              · simp only [Option.some.injEq, Prod.mk.injEq] at h; obtain ⟨rfl, _⟩ := h; rfl
              · cases h
            · cases h
          · cases h
        · cases h
      · cases h
    case agg => simp [AV.cell] at hc
    case clo =>
      split at h
      · split at h
        · simp only [Option.some.injEq, Prod.mk.injEq] at h; obtain ⟨rfl, _⟩ := h; rfl
        · cases h
      · cases h
    all_goals simp at h
theorem FK_mono {H : List (Key × Nat × AO)} {ks ks' : List Key} (h : ∀ k, k ∈ ks → k ∈ ks') {b : Nat} (hb : FK H B ks b) : FK H B ks' b := by
  obtain ⟨k, g, o, n, h1, h2, h3⟩ := hb
  exact ⟨k, g, o, n, h _ h1, h2, h3⟩
theorem DRv_mono_F {F' : Nat → Prop} (hF : ∀ b, F b → F' b) {x : D} {v : Value} (h : DRv w F x v) : DRv w F' x v := h.mono (fun _ _ => rfl) hF
mutual
theorem toD_DR (hf : FR F B w S a) : ∀ (n : Nat) (x : AV) (y : D) (ks : List Key) (v : Value), toD P S.H n x = some (y, ks) → VR w F B S.c x v → DRv w (fun b => F b ∨ FK S.H B ks b) y v
  | 0, x, y, ks, v, h, hv => by simp [toD] at h
  | n + 1, .d x, y, ks, v, h, hv => by
    simp only [toD, Option.some.injEq, Prod.mk.injEq] at h
    obtain ⟨rfl, rfl⟩ := h
    simp only [VR] at hv
    exact DRv_mono_F (fun b => .inl) hv
  | n + 1, .nils, y, ks, v, h, hv => by
    simp only [toD, Option.some.injEq, Prod.mk.injEq] at h
    obtain ⟨rfl, rfl⟩ := h
    simp only [VR] at hv
    subst hv
    simp only [DRv, DRc]
    exact ⟨none, 0, rfl, Nat.le_refl _, Nat.zero_le _, .inl (by simp)⟩
  | n + 1, .ref k g sz off len, y, ks, v, h, hv => by
    simp only [toD] at h
    split at h
    · rename_i g' e z l hob
      split at h
      · rename_i hc
        obtain ⟨rfl, rfl, hol⟩ := hc
        simp only [Option.some.injEq, Prod.mk.injEq] at h
        obtain ⟨rfl, rfl⟩ := h
        have hor := hf.objsIn hob
        simp only [VR] at hv
        obtain ⟨hg, hv⟩ := hv
        have hlen : ((l.drop off).take len).length = len := by simp; omega
        simp only [DRv, DRc]
        split at hv
        · obtain ⟨rfl, rfl, rfl⟩ := hv
          exact ⟨none, 0, by simp, by simp, by simp, .inl (by simp)⟩
        · rename_i b m hB
          obtain ⟨ad, rfl, hcap, had⟩ := hv
          simp only [OR, hB] at hor
          obtain ⟨cs, fr, hh, hun, hz0, hcs, hln, hmx, hdr⟩ := hor
          refine ⟨some ad, m - off, by rw [hlen], by rw [hlen]; omega, by omega, ?_⟩
          rcases had with rfl | ⟨rfl, _⟩
          · refine .inr ⟨_, (cs.toList.drop (off * z)).take (len * z), rfl, .inr ⟨k, _, _, m, by simp, mem_of_objIn hob, hB⟩, Cells_of_block hh _ _, ?_⟩
            have := (hdr.drop off).take len
            have e1 : ((cs.toList.take (l.length * z)).drop (off * z)).take (len * z) = (cs.toList.drop (off * z)).take (len * z) := by
              have h6 : (off + len) * z ≤ l.length * z := Nat.mul_le_mul_right _ hol
              rw [Nat.add_mul] at h6
              rw [List.drop_take, List.take_take, Nat.min_eq_left (by omega)]
            rw [e1] at this
            exact DRr.mono (fun _ _ => rfl) (fun b hb => .inl hb) _ _ _ this
          · exact .inl (by simp)
      · cases h
    · cases h
  | n + 1, .addr k g c, y, ks, v, h, hv => by
    simp only [toD] at h
    split at h
    · rename_i g' e l hob
      split at h
      · rename_i hc
        obtain ⟨rfl, rfl⟩ := hc
        have hor := hf.objsIn hob
        simp only [OR] at hor
        obtain ⟨b, m, cs, fr, hB, hh, hun, hco, hvl⟩ := hor
        simp only [VR] at hv
        obtain ⟨hg, b', m', hB', rfl⟩ := hv
        rw [hB] at hB'
        simp only [Option.some.injEq, Prod.mk.injEq] at hB'
        obtain ⟨rfl, rfl⟩ := hB'
        have hFb : ∀ ks : List Key, FK S.H B (k :: ks) b := fun ks => ⟨k, _, _, m, by simp, mem_of_objIn hob, hB⟩
        have hcells : Cells w ⟨b, 0, none⟩ cs.toList := by
          have := Cells_of_block hh 0 cs.toList.length
          rwa [List.drop_zero, List.take_length] at this
        split at h
        · rename_i xs ks' hxs
          have hD := toDl_DR hf n l xs ks' cs.toList hxs hco hvl
          split at h
          · simp only [Option.some.injEq, Prod.mk.injEq] at h
            obtain ⟨rfl, rfl⟩ := h
            simp only [DRv, DRc]
            exact ⟨_, _, rfl, .inr (hFb ks'), hcells, DRl.mono (fun _ _ => rfl) (fun b hb => hb.imp id (FK_mono fun k hk => List.mem_cons_of_mem _ hk)) _ _ hD⟩
          · split at h
            · rename_i y' hxs'
              simp only [Option.some.injEq, Prod.mk.injEq] at h
              obtain ⟨rfl, rfl⟩ := h
              simp only [DRl] at hD
              obtain ⟨v1, _, hcs, h0, h1, rfl⟩ := hD
              simp only [DRv, DRc]
              refine ⟨_, _, rfl, .inr (hFb ks'), hcells, ?_⟩
              rw [hcs]
              exact DRc.mono (fun _ _ => rfl) (fun b hb => hb.imp id (FK_mono fun k hk => List.mem_cons_of_mem _ hk)) _ _ h1
            · cases h
          · cases h
        · cases h
      · cases h
    · cases h
  | n + 1, .agg l, y, ks, v, h, hv => by
    simp only [toD] at h
    split at h
    · rename_i xs ks' hxs
      simp only [Option.some.injEq, Prod.mk.injEq] at h
      obtain ⟨rfl, rfl⟩ := h
      simp only [VR] at hv
      obtain ⟨cs, rfl, hco, hvl⟩ := hv
      simp only [DRv]
      exact ⟨cs, rfl, toDl_DR hf n l xs _ _ hxs hco hvl⟩
    · cases h
  | n + 1, .clo fn f c, y, ks, v, h, hv => by
    simp only [toD] at h
    split at h
    · rename_i hcc
      simp only [Bool.and_eq_true] at hcc
      split at h
      · rename_i fs k1 cs k2 h1 h2
        simp only [Option.some.injEq, Prod.mk.injEq] at h
        obtain ⟨rfl, rfl⟩ := h
        simp only [VR] at hv
        obtain ⟨fv, cv, rfl, hf', hc'⟩ := hv
        simp only [DRv, DRc]
        exact ⟨fv, cv, rfl, DRl.mono (fun _ _ => rfl) (fun b hb => hb.imp id (FK_mono fun k hk => List.mem_append_left _ hk)) _ _ (toDl_DR hf n f fs k1 _ h1 hcc.1 hf'),
          DRl.mono (fun _ _ => rfl) (fun b hb => hb.imp id (FK_mono fun k hk => List.mem_append_right _ hk)) _ _ (toDl_DR hf n c cs k2 _ h2 hcc.2 hc')⟩
      · cases h
    · cases h
  | n + 1, .elt .., y, ks, v, h, hv => by simp [toD] at h
  | n + 1, .tup _, y, ks, v, h, hv => by simp [toD] at h
  | n + 1, .dead, y, ks, v, h, hv => by simp [toD] at h
theorem toDl_DR (hf : FR F B w S a) : ∀ (n : Nat) (l : List AV) (xs : List D) (ks : List Key) (vs : List Value), toDl P S.H n l = some (xs, ks) → cellsOK l = true → VRl w F B S.c l vs → DRl w (fun b => F b ∨ FK S.H B ks b) xs vs
  | 0, l, xs, ks, vs, h, hc, hv => by simp [toDl] at h
  | n + 1, [], xs, ks, vs, h, hc, hv => by
    simp only [toDl, Option.some.injEq, Prod.mk.injEq] at h
    obtain ⟨rfl, rfl⟩ := h
    simpa [VRl, DRl] using hv
  | n + 1, x :: r, xs, ks, vs, h, hc, hv => by
    simp only [toDl] at h
    split at h
    · rename_i y k1 ys k2 h1 h2
      simp only [Option.some.injEq, Prod.mk.injEq] at h
      obtain ⟨rfl, rfl⟩ := h
      simp only [VRl] at hv
      obtain ⟨v, vs', rfl, hv1, hv2⟩ := hv
      simp only [cellsOK, Bool.and_eq_true] at hc
      have ha := toD_isAgg h1 hc.1
      simp only [DRl]
      exact ⟨v, vs', rfl, ha, cell_of_DRv ha (DRv_mono_F (fun b hb => hb.imp id (FK_mono fun k hk => List.mem_append_left _ hk)) (toD_DR hf n x y k1 v h1 hv1)),
        DRl.mono (fun _ _ => rfl) (fun b hb => hb.imp id (FK_mono fun k hk => List.mem_append_right _ hk)) _ _ (toDl_DR hf n r ys k2 vs' h2 hc.2 hv2)⟩
    · cases h
end
 
def frzAV (H : List (Key × Nat × AO)) (ks : List Key) : AV → AV
  | .ref k g sz off len => if k ∈ ks then match objIn H k with
      | some (g', .row _ z l) => if g' = g ∧ z = sz ∧ off + len ≤ l.length then .d (.sl sz ((l.drop off).take len)) else .dead
      | _ => .dead
    else .ref k g sz off len
  | x => x
def St.freeze (S : St) (ks : List Key) : St := match ks with
  | [] => S
  | ks => { S with E := S.E.map fun p => (p.1, frzAV S.H ks p.2), H := S.H.filter fun x => !(decide (x.1 ∈ ks)) }
theorem getIn_map (f : AV → AV) (hf : f .dead = .dead) : ∀ (E : List (Nat × AV)) (t : Nat), getIn (E.map fun p => (p.1, f p.2)) t = f (getIn E t)
  | [], t => by simp [getIn, hf]
  | (k, v) :: r, t => by
    simp only [List.map_cons, getIn]
    split
    · rfl
    · exact getIn_map f hf r t
theorem same_entry {H : List (Key × Nat × AO)} (hn : (H.map fun x => x.2.1).Nodup) {x y : Key × Nat × AO} (hx : x ∈ H) (hy : y ∈ H) (h : x.2.1 = y.2.1) : x = y := by
  obtain ⟨i, hi, rfl⟩ := List.mem_iff_getElem.1 hx
  obtain ⟨j, hj, rfl⟩ := List.mem_iff_getElem.1 hy
  have := (List.getElem_inj (i := i) (j := j) (h₀ := by simpa using hi) (h₁ := by simpa using hj) hn).1 (by simpa using h)
  subst this
  rfl
theorem FR.apart (hf : FR F B w S a) {x y : Key × Nat × AO} (hx : x ∈ S.H) (hy : y ∈ S.H) (hne : x.2.1 ≠ y.2.1) {b n m : Nat} (h1 : B x.2.1 = some (b, n)) : B y.2.1 ≠ some (b, m) := by
  intro h2
  have q := List.pairwise_iff_getElem.1 hf.inj
  obtain ⟨i1, hi1, e1⟩ := List.mem_iff_getElem.1 (List.mem_map.2 ⟨x, hx, rfl⟩ : x.2.1 ∈ S.H.map fun x => x.2.1)
  obtain ⟨i2, hi2, e2⟩ := List.mem_iff_getElem.1 (List.mem_map.2 ⟨y, hy, rfl⟩ : y.2.1 ∈ S.H.map fun x => x.2.1)
  rcases Nat.lt_trichotomy i1 i2 with hlt | heq | hlt
  · have := q i1 i2 hi1 hi2 hlt
    rw [e1, e2] at this
    exact this.2 _ _ _ h1 h2
  · subst heq
    exact hne (e1.symm.trans e2)
  · have := q i2 i1 hi2 hi1 hlt
    rw [e1, e2] at this
    exact this.2 _ _ _ h2 h1
theorem FR.freeze (hf : FR F B w S a) (ks : List Key) : FR (fun b => F b ∨ FK S.H B ks b) B w (S.freeze ks) a := by
  have hmono : ∀ x v, VR w F B S.c x v → VR w (fun b => F b ∨ FK S.H B ks b) B S.c x v := fun x v h => VR.mono (fun _ _ => rfl) (fun b => .inl) (fun _ _ => rfl) (Nat.le_refl _) x v h
  cases ks with
  | nil =>
    have : (fun b => F b ∨ FK S.H B [] b) = F := by
      funext b
      refine propext ⟨fun h => h.elim id ?_, .inl⟩
      rintro ⟨k, g, o, n, h, _⟩
      simp at h
    rw [this]
    exact hf
  | cons k0 kr =>
    generalize hks : k0 :: kr = ks at *
    have e : S.freeze ks = { S with E := S.E.map fun p => (p.1, frzAV S.H ks p.2), H := S.H.filter fun x => !(decide (x.1 ∈ ks)) } := by subst hks; rfl
    rw [e]
    have hsub : (S.H.filter fun x => !(decide (x.1 ∈ ks))).Sublist S.H := List.filter_sublist
    refine ⟨fun t => ?_, fun k g o hm => ?_, fun b hb => ?_, hf.inj.sublist (hsub.map _), fun b hb => ?_, hf.defers, hf.pin⟩
    · rw [getIn_map _ rfl]
      have hs := hf.slots t
      generalize getIn S.E t = x at hs
      unfold frzAV
      split
      · rename_i k g sz off len
        split
        · rename_i hk
          split
          · rename_i g' e' z l hob
            split
            · rename_i hc
              have htd : toD (default : Program) S.H 1 (.ref k g sz off len) = some (.sl sz ((l.drop off).take len), [k]) := by
                simp only [toD, hob, if_pos hc]
              have := toD_DR hf 1 _ _ _ _ htd hs
              simp only [VR]
              exact DRv_mono_F (fun b hb => hb.imp id (FK_mono fun k' hk' => by simp at hk'; rw [hk']; exact hk)) this
            · simp [VR]
          · simp [VR]
        · exact hmono _ _ hs
      · exact hmono _ _ hs
    · have := hf.objs k g o (hsub.subset hm)
      exact ⟨this.1, OR.mono (fun _ _ => rfl) (fun b => .inl) (fun _ _ => rfl) (Nat.le_refl _) this.1 (fun _ _ _ => rfl) this.2⟩
    · obtain ⟨k, g, o, n, hm, hB⟩ := hb
      have hm' := hsub.subset hm
      have := hf.sep b ⟨k, g, o, n, hm', hB⟩
      refine ⟨fun h => h.elim this.1 ?_, this.2⟩
      rintro ⟨k2, g2, o2, n2, hk2, hm2, hB2⟩
      have hkn : k ∉ ks := by have := (List.mem_filter.1 hm).2; simpa using this
      by_cases hg : g = g2
      · have := same_entry hf.gensNodup hm' hm2 hg
        simp only [Prod.mk.injEq] at this
        exact hkn (this.1 ▸ hk2)
      · exact hf.apart hm' hm2 hg hB hB2
    · rcases hb with hb | ⟨k, g, o, n, _, hm, hB⟩
      · exact hf.Flt b hb
      · exact (hf.sep b ⟨k, g, o, n, hm, hB⟩).2
end
end Go.Fw
namespace Go.Fw
open Go
set_option linter.unusedVariables false
set_option linter.unusedSimpArgs false
def St.newObj (S : St) (d : Nat) (o : AO) (v : AV) : St := { E := putIn S.E d v, H := ([d], S.c, o) :: dropKey [d] S.H, c := S.c + 1 }
theorem freeze_c (S : St) (ks : List Key) : (S.freeze ks).c = S.c := by cases ks <;> rfl
theorem freeze_H (S : St) (ks : List Key) : (S.freeze ks).H.Sublist S.H := by cases ks with
  | nil => exact List.Sublist.refl _
  | cons k r => exact List.filter_sublist
def elemsP (b : Bool) (sz : Nat) : List D → Prop
  | [] => True
  | x :: r => x.isAgg = b ∧ x.ncells = sz ∧ elemsP b sz r
def seqParts : Nat → List Nat → Bool
  | _, [] => true
  | j, i :: r => i == j && seqParts (j + 1) r
 
def zeroD (P : Program) (e : TypeId) : Option D := match zeroI P e, aggT P e with
  | some z, some b => match toDl P [] 99 z with
    | some (xs, []) => if cellsOK z then if b then some (.agg xs) else match xs with
      | [y] => some y
      | _ => none
      else none
    | _ => none
  | _, _ => none
section
variable {P : Program} {F : Nat → Prop} {B : Blk} {w w' : World} {S : St} {a : Act} {N : Nat}
theorem newObj_Tr (hf : FR F B w S a) (hN : a.tmps.size = N) {d : Nat} (hd : dstOK N (some d) = true) (ks : List Key) (hext : Ext w w') (hos : w'.os = w.os) (htp : w'.tape = w.tape) (hout : w'.output = w.output)
    {bo : Option (Nat × Nat)} (hbo : ∀ b n, bo = some (b, n) → w.heap.size ≤ b ∧ b < w'.heap.size) {o : AO} {v : Value} {av : AV}
    (hor : OR w' (fun b => F b ∨ FK S.H B ks b) (updB B S.c bo) (S.c + 1) S.c o) (hv : VR w' (fun b => F b ∨ FK S.H B ks b) (updB B S.c bo) (S.c + 1) av v) :
    Tr N F B w S (fun b => F b ∨ FK S.H B ks b) (updB B S.c bo) w' ((S.freeze ks).newObj d o av) (a.put (some d) v) := by
  have hf1 := hf.freeze ks
  have hown : ∀ x ∈ S.H, ∀ b n, B x.2.1 = some (b, n) → b < w.heap.size := fun x hx b n hb => (hf.sep b ⟨x.1, x.2.1, x.2.2, n, hx, hb⟩).2
  have hsub := freeze_H S ks
  have hsub2 := (dropKey_sub [d] (S.freeze ks).H)
  have hf2 : FR (fun b => F b ∨ FK S.H B ks b) (updB B S.c bo) w' ⟨(S.freeze ks).E, ([d], S.c, o) :: dropKey [d] (S.freeze ks).H, S.c + 1⟩ a := by
    have := FR.add (w' := w') (bo := bo) (k := [d]) (o := o) hf1 hsub2 hext.size (fun b hb => hext b (hf1.Flt b hb))
      (fun x hx b n hb => hext b (hown x (hsub.subset (hsub2.subset hx)) b n hb))
      (fun b n hb => ⟨fun hF => by have := hf1.Flt b hF; have := (hbo b n hb).1; omega, (hbo b n hb).2, fun x hx n' hx' => by
        have h1 := hown x (hsub.subset (hsub2.subset hx)) b n' hx'
        have h2 := (hbo b n hb).1
        omega⟩) (by rw [freeze_c]; exact hor)
    rw [freeze_c] at this
    exact this
  have hf3 := hf2.put (S := ⟨(S.freeze ks).E, ([d], S.c, o) :: dropKey [d] (S.freeze ks).H, S.c + 1⟩) hN hd hv
  have e : (S.freeze ks).newObj d o av = St.put ⟨(S.freeze ks).E, ([d], S.c, o) :: dropKey [d] (S.freeze ks).H, S.c + 1⟩ (some d) av := by
    simp [St.newObj, St.put, freeze_c]
  rw [e]
  refine ⟨hf3, by rw [Act.put_size]; exact hN, fun b => .inl, fun b hb _ => hext b hb, fun b hb => ?_, hos, htp, hout, hext.size, fun g hg => updB_old (Nat.lt_of_lt_of_le hg hf.pin)⟩
  rcases hb with (hb | ⟨k, g, o', n, _, hm, hB⟩) | ⟨k, g, o', n, hm, hB⟩
  · exact .inl hb
  · exact .inr (.inl ⟨k, g, o', n, hm, hB⟩)
  · have hm' : (k, g, o') ∈ ([d], S.c, o) :: dropKey [d] (S.freeze ks).H := hm
    rcases List.mem_cons.1 hm' with h | h
    · simp only [Prod.mk.injEq] at h
      obtain ⟨rfl, rfl, rfl⟩ := h
      rw [updB_new] at hB
      exact .inr (.inr (hbo b n hB).1)
    · have hmS := hsub.subset (hsub2.subset h)
      have hg := (hf.objs k g o' hmS).1
      rw [updB_old hg] at hB
      exact .inr (.inl ⟨k, g, o', n, hmS, hB⟩)
theorem ext_alloc (w : World) (o : Obj) : Ext w (w.alloc o) := fun b hb => RowKit.Below.heap_alloc w o b hb
theorem alloc_size (w : World) (o : Obj) : (w.alloc o).heap.size = w.heap.size + 1 := by show (w.heap.push o).size = _; simp
theorem alloc_at (w : World) (o : Obj) : (w.alloc o).heap[w.heap.size]? = some o := by show (w.heap.push o)[w.heap.size]? = _; simp
theorem unf0 (cs : Array Value) : Unf cs (0, 0) := fun i _ => by simp
 
theorem box_Tr (hf : FR F B w S a) (hN : a.tmps.size = N) {d : Nat} (hd : dstOK N (some d) = true) {t : Nat} {l : List AV} {cs : Array Value} (hc : cellsOK l = true) (hl : VRl w F B S.c l cs.toList) :
    Tr N F B w S (fun b => F b ∨ FK S.H B [] b) (updB B S.c (some (w.heap.size, 0))) (w.alloc (.cells cs t)) (S.newObj d (.box t l) (.addr [d] S.c 0)) (a.put (some d) (.pointer (some ⟨w.heap.size, 0, none⟩))) := by
  have hh := alloc_at w (.cells cs t)
  have hl' : VRl (w.alloc (.cells cs t)) (fun b => F b ∨ FK S.H B [] b) (updB B S.c (some (w.heap.size, 0))) (S.c + 1) l cs.toList :=
    VRl.mono (fun b hb => ext_alloc w _ b (hf.Flt b hb)) (fun b => .inl) (fun g hg => updB_old hg) (Nat.le_succ _) _ _ hl
  refine newObj_Tr (o := .box t l) hf hN hd [] (ext_alloc w _) rfl rfl rfl (fun b n h => ?_) ?_ ?_
  · simp only [Option.some.injEq, Prod.mk.injEq] at h
    obtain ⟨rfl, rfl⟩ := h
    exact ⟨Nat.le_refl _, by rw [alloc_size]; omega⟩
  · simp only [OR]
    exact ⟨_, _, cs, (0, 0), updB_new, hh, unf0 cs, hc, hl'⟩
  · simp only [VR]
    exact ⟨Nat.lt_succ_self _, _, _, updB_new, rfl⟩
 
theorem row_Tr (hf : FR F B w S a) (hN : a.tmps.size = N) {d : Nat} (hd : dstOK N (some d) = true) (ks : List Key) {e sz n : Nat} {xs : List D} {cs : Array Value} {fr : Nat × Nat} (hu : Unf cs fr) (h0 : 0 < sz) (hcs : cs.size = n * sz) (hln : xs.length ≤ n) (hm : n ≤ maxLen)
    (hd2 : DRr w (fun b => F b ∨ FK S.H B ks b) sz xs (cs.toList.take (xs.length * sz))) {w' : World} (hw : w'.heap = (w.alloc (.cells cs e fr)).heap) (hos : w'.os = w.os) (htp : w'.tape = w.tape) (hout : w'.output = w.output) :
    Tr N F B w S (fun b => F b ∨ FK S.H B ks b) (updB B S.c (some (w.heap.size, n))) w' ((S.freeze ks).newObj d (.row e sz xs) (.ref [d] S.c sz 0 xs.length)) (a.put (some d) (.slice (some ⟨w.heap.size, 0, none⟩) xs.length n)) := by
  have hext : Ext w w' := fun b hb => by rw [hw]; exact ext_alloc w _ b hb
  have hh : w'.heap[w.heap.size]? = some (.cells cs e fr) := by rw [hw]; exact alloc_at w _
  have hf1 := hf.freeze ks
  refine newObj_Tr (o := .row e sz xs) hf hN hd ks hext hos htp hout (fun b n h => ?_) ?_ ?_
  · simp only [Option.some.injEq, Prod.mk.injEq] at h
    obtain ⟨rfl, rfl⟩ := h
    exact ⟨Nat.le_refl _, by rw [hw, alloc_size]; omega⟩
  · simp only [OR, updB_new]
    exact ⟨cs, fr, hh, hu, h0, hcs, hln, hm, DRr.mono (fun b hb => hext b (hf1.Flt b hb)) (fun _ h => h) _ _ _ hd2⟩
  · simp only [VR, updB_new]
    exact ⟨Nat.lt_succ_self _, _, rfl, by omega, .inl (by simp)⟩
end
end Go.Fw
namespace Go.Fw
open Go
set_option linter.unusedVariables false
set_option linter.unusedSimpArgs false
def DRvl (w : World) (F : Nat → Prop) : List D → List Value → Prop
  | [], vs => vs = []
  | x :: r, vs => ∃ v vs', vs = v :: vs' ∧ DRv w F x v ∧ DRvl w F r vs'
section
variable {P : Program} {F : Nat → Prop} {B : Blk} {w w' : World} {S : St} {a : Act} {N : Nat}
theorem DRvl.mono {F' : Nat → Prop} (hF : ∀ b, F b → F' b) : ∀ {l : List D} {vs : List Value}, DRvl w F l vs → DRvl w F' l vs
  | [], vs, h => by simpa [DRvl] using h
  | x :: r, vs, h => by
    simp only [DRvl] at h ⊢
    obtain ⟨v, vs', rfl, h1, h2⟩ := h
    exact ⟨v, vs', rfl, DRv_mono_F hF h1, h2.mono hF⟩
theorem toDl_DRv (hf : FR F B w S a) : ∀ (n : Nat) (l : List AV) (xs : List D) (ks : List Key) (vs : List Value), toDl P S.H n l = some (xs, ks) → VRl w F B S.c l vs → DRvl w (fun b => F b ∨ FK S.H B ks b) xs vs
  | 0, l, xs, ks, vs, h, hv => by simp [toDl] at h
  | n + 1, [], xs, ks, vs, h, hv => by
    simp only [toDl, Option.some.injEq, Prod.mk.injEq] at h
    obtain ⟨rfl, rfl⟩ := h
    simpa [VRl, DRvl] using hv
  | n + 1, x :: r, xs, ks, vs, h, hv => by
    simp only [toDl] at h
    split at h
    · rename_i y k1 ys k2 h1 h2
      simp only [Option.some.injEq, Prod.mk.injEq] at h
      obtain ⟨rfl, rfl⟩ := h
      simp only [VRl] at hv
      obtain ⟨v, vs', rfl, hv1, hv2⟩ := hv
      simp only [DRvl]
      exact ⟨v, vs', rfl, DRv_mono_F (fun b hb => hb.imp id (FK_mono fun k hk => List.mem_append_left _ hk)) (toD_DR hf n x y k1 v h1 hv1),
        (toDl_DRv hf n r ys k2 vs' h2 hv2).mono (fun b hb => hb.imp id (FK_mono fun k hk => List.mem_append_right _ hk))⟩
    · cases h
theorem DRc_of_DRv {x : D} {v : Value} (h : DRv w F x v) : DRc w F x v.cells.toList := by
  have one : ∀ {u : Value}, u.cells = #[u] → DRc w F x [u] → DRc w F x u.cells.toList := fun e h => by rw [e]; exact h
  cases x with
  | agg l => simp only [DRv] at h; obtain ⟨cs, rfl, h⟩ := h; simp only [DRc]; exact h
  | sl z l => have hh := h; simp only [DRv, DRc] at h; obtain ⟨A, cc, hu, _⟩ := h; simp only [List.cons.injEq, and_true] at hu; subst hu; exact hh
  | ptr y => have hh := h; simp only [DRv, DRc] at h; obtain ⟨A, cc, hu, _⟩ := h; simp only [List.cons.injEq, and_true] at hu; subst hu; exact hh
  | clo fn f c => have hh := h; simp only [DRv, DRc] at h; obtain ⟨A, cc, hu, _⟩ := h; simp only [List.cons.injEq, and_true] at hu; subst hu; exact hh
  | _ => have hh := h; simp only [DRv, DRc, List.cons.injEq, and_true] at h; subst h; exact hh
theorem DRr_of_vals {b : Bool} {sz : Nat} : ∀ {xs : List D} {vs : List Value}, elemsP b sz xs → DRvl w F xs vs → DRr w F sz xs (vs.flatMap fun v => v.cells.toList) ∧ ∀ v ∈ vs, v.cells.size = sz
  | [], vs, _, h => by simp only [DRvl] at h; subst h; simp [DRr]
  | x :: r, vs, he, h => by
    simp only [DRvl] at h
    obtain ⟨v, vs', rfl, h1, h2⟩ := h
    simp only [elemsP] at he
    have hc := DRc_of_DRv h1
    have hl : v.cells.size = sz := by have := hc.len; rw [he.2.1] at this; simpa using this
    have hr := DRr_of_vals he.2.2 h2
    simp only [List.flatMap_cons, DRr]
    exact ⟨⟨_, _, rfl, by simpa using hl, hc, hr.1⟩, fun u hu => by rcases List.mem_cons.1 hu with rfl | hu; exact hl; exact hr.2 u hu⟩
theorem fill_seq (sz : Nat) : ∀ (vs : List Value) (j : Nat) (ps : List (Nat × Value)) (cells : Array Value), ps = (vs.zipIdx j).map (fun x => (x.2, x.1)) → (∀ v ∈ vs, v.cells.size = sz) → (j + vs.length) * sz ≤ cells.size →
    ∃ cells', Instr.fill (fun i => some (i * sz, sz)) cells ps = some cells' ∧ cells'.size = cells.size ∧ cells'.toList.take ((j + vs.length) * sz) = cells.toList.take (j * sz) ++ vs.flatMap fun v => v.cells.toList
  | [], j, ps, cells, hp, _, h => by
    simp only [List.zipIdx_nil, List.map_nil] at hp
    subst hp
    exact ⟨cells, rfl, rfl, by simp⟩
  | v :: r, j, ps, cells, hp, hs, h => by
    simp only [List.zipIdx_cons, List.map_cons] at hp
    subst hp
    have hv := hs v (by simp)
    simp only [List.length_cons] at h
    have hle : (j + 1) * sz ≤ (j + (r.length + 1)) * sz := Nat.mul_le_mul_right _ (by omega)
    have hj1 : (j + 1) * sz = j * sz + sz := by rw [Nat.add_mul, Nat.one_mul]
    have hfold := foldl_set v.cells.toList cells (j * sz) 0 (by simp; omega)
    have hfold' : (v.cells.zipIdx.foldl (fun (cs : Array Value) (x : Value × Nat) => cs.setIfInBounds (j * sz + x.2) x.1) cells).toList = cells.toList.take (j * sz) ++ v.cells.toList ++ cells.toList.drop (j * sz + v.cells.toList.length) := by
      rw [← Array.foldl_toList, Array.toList_zipIdx]
      simpa using hfold
    have hsz : (v.cells.zipIdx.foldl (fun (cs : Array Value) (x : Value × Nat) => cs.setIfInBounds (j * sz + x.2) x.1) cells).size = cells.size := by
      have := congrArg List.length hfold'
      simp only [Array.length_toList, List.length_append, List.length_take, List.length_drop] at this
      rw [this]
      omega
    obtain ⟨cells', e1, e2, e3⟩ := fill_seq sz r (j + 1) _ (v.cells.zipIdx.foldl (fun (cs : Array Value) (x : Value × Nat) => cs.setIfInBounds (j * sz + x.2) x.1) cells) rfl (fun u hu => hs u (by simp [hu])) (by rw [hsz]; rw [show j + 1 + r.length = j + (r.length + 1) by omega]; exact h)
    refine ⟨cells', ?_, e2.trans hsz, ?_⟩
    · simp only [Instr.fill]
      rw [if_neg (by simp [hv]; omega)]
      exact e1
    · simp only [List.length_cons]
      rw [show j + (r.length + 1) = j + 1 + r.length by omega, e3, hfold', hj1]
      rw [List.take_left' (by simp [hv]; omega)]
      simp
theorem seqParts_zip : ∀ {parts : List (Nat × Operand)} {j : Nat}, seqParts j (parts.map (·.1)) = true → ∀ f : Operand → Value, parts.map (fun p => (p.1, f p.2)) = ((parts.map fun p => f p.2).zipIdx j).map (fun x => (x.2, x.1))
  | [], j, _, f => by simp
  | p :: r, j, h, f => by
    simp only [List.map_cons, seqParts, Bool.and_eq_true, beq_iff_eq] at h
    simp only [List.map_cons, List.zipIdx_cons]
    rw [seqParts_zip h.2 f, h.1]
theorem run_newRow (e : TypeId) (cells : Array Value) : (newRow e cells).run P w = .ok ⟨w.heap.size, 0, none⟩ (w.alloc (.cells cells e)) := by simp [newRow]
theorem run_buildSlice {t e sz : Nat} {b : Bool} (hei : elemI P t = some (e, sz, b)) {ti : TypeInfo} (hti : P.info? e = some ti) {z : Value} (hz : ti.zero = some z) {parts : Array (Nat × Operand)} (hs : seqParts 0 (parts.toList.map (·.1)) = true) {f : Operand → Value}
    (hlen : parts.size * sz ≤ 16777216) (hsz : ∀ p ∈ parts.toList, (f p.2).cells.size = sz) :
    ∃ cs : Array Value, (Instr.buildSlice t parts.size (parts.map fun p => (p.1, f p.2))).run P w = .ok (.slice (some ⟨w.heap.size, 0, none⟩) parts.size parts.size) (w.alloc (.cells cs e)) ∧ cs.size = parts.size * sz ∧ cs.toList.take (parts.size * sz) = (parts.toList.map fun p => f p.2).flatMap fun v => v.cells.toList := by
  obtain ⟨i, hu, hi, hsz', h0, hag, hb⟩ := elemI_spec hei
  rw [hti] at hi
  cases hi
  have hps : (parts.map fun p => (p.1, f p.2)).toList = ((parts.toList.map fun p => f p.2).zipIdx 0).map (fun x => (x.2, x.1)) := by
    rw [Array.toList_map]
    exact seqParts_zip hs f
  have key : ∀ zc : Array Value, ∃ cs, Instr.fill (fun i => some (i * sz, sz)) ((Array.range (parts.size * sz)).map (zc[· % zc.size]!)) (parts.map fun p => (p.1, f p.2)).toList = some cs ∧ cs.size = parts.size * sz ∧ cs.toList.take (parts.size * sz) = (parts.toList.map fun p => f p.2).flatMap fun v => v.cells.toList := by
    intro zc
    obtain ⟨cs, e1, e2, e3⟩ := fill_seq sz (parts.toList.map fun p => f p.2) 0 _ ((Array.range (parts.size * sz)).map (zc[· % zc.size]!)) hps (fun v hv => by obtain ⟨p, hp, rfl⟩ := List.mem_map.1 hv; exact hsz p hp) (by simp)
    exact ⟨cs, e1, by simpa using e2, by simpa using e3⟩
  have hzr : (zeroValue e).run P w = .ok z w := by simp [zeroValue, typeInfo, hti, hz]
  have hn : ¬ (parts.size * sz > 2 ^ 24) := by omega
  by_cases hzz : parts.size * sz = 0
  · obtain ⟨cs, e1, e2, e3⟩ := key #[]
    refine ⟨cs, ?_, e2, e3⟩
    simp only [Instr.buildSlice, Sem.run_bind, run_underlying hu, Result.andThen_ok, run_sizeOf hti, hsz', if_neg hn, if_pos hzz, Sem.run_pure, e1, run_newRow]
  · obtain ⟨cs, e1, e2, e3⟩ := key z.cells
    refine ⟨cs, ?_, e2, e3⟩
    simp only [Instr.buildSlice, Sem.run_bind, run_underlying hu, Result.andThen_ok, run_sizeOf hti, hsz', if_neg hn, if_neg hzz, Sem.run_pure, hzr, e1, run_newRow]
end
end Go.Fw
namespace Go.Fw
open Go
set_option linter.unusedVariables false
set_option linter.unusedSimpArgs false
def setB (w : World) (b : Nat) (o : Obj) : World := { w with heap := w.heap.setIfInBounds b o }
section
variable {P : Program} {F : Nat → Prop} {B : Blk} {w w' : World} {S : St} {a : Act} {N : Nat}
theorem setB_at (w : World) (b : Nat) (o : Obj) (h : b < w.heap.size) : (setB w b o).heap[b]? = some o := by simp [setB, h]
theorem setB_ne (w : World) (b i : Nat) (o : Obj) (h : i ≠ b) : (setB w b o).heap[i]? = w.heap[i]? := by
  simp only [setB]
  rw [Array.getElem?_setIfInBounds_ne (by omega)]
theorem setB_size (w : World) (b : Nat) (o : Obj) : (setB w b o).heap.size = w.heap.size := by simp [setB]
theorem setB_setB (w : World) (b : Nat) (o o' : Obj) : setB (setB w b o) b o' = setB w b o' := by simp [setB]
theorem setCell_setB {b i : Nat} {cs : Array Value} {e : Nat} {fr : Nat × Nat} (h : w.heap[b]? = some (.cells cs e fr)) (v : Value) : w.setCell ⟨b, i, none⟩ v = setB w b (.cells (cs.setIfInBounds i v) e fr) := by
  have hlt := lt_heap h
  simp only [World.setCell, setB]
  congr 1
  apply Array.ext_getElem?
  intro j
  rw [Array.getElem?_modify]
  by_cases hj : b = j
  · subst hj
    rw [if_pos rfl, h, Array.getElem?_setIfInBounds_self_of_lt hlt]
    rfl
  · rw [if_neg hj, Array.getElem?_setIfInBounds_ne hj]
theorem run_store_cell {b i : Nat} {cs : Array Value} {e : Nat} {fr : Nat × Nat} (h : w.heap[b]? = some (.cells cs e fr)) (hi : i < cs.size) (hu : Unf cs fr) {v : Value} (hv : v.oneCell' = true) :
    (store ⟨b, i, none⟩ v).run P w = .ok () (setB w b (.cells (cs.setIfInBounds i v) e fr)) := by
  rw [run_store P w _ _ _ hv, cell_at h]
  have hf : w.frozen? ⟨b, i, none⟩ = false := by simp only [World.frozen?, h]; exact hu i hi
  simp [hi, hf, setCell_setB h]
theorem run_storeCells {b off e : Nat} {fr : Nat × Nat} : ∀ (vs : List Value) (i : Nat) (cs : Array Value) (w : World), w.heap[b]? = some (.cells cs e fr) → Unf cs fr → off + i + vs.length ≤ cs.size → (∀ v ∈ vs, v.oneCell' = true) →
    ∃ cs' : Array Value, (storeCells ⟨b, off, none⟩ vs i).run P w = .ok () (setB w b (.cells cs' e fr)) ∧ cs'.toList = cs.toList.take (off + i) ++ vs ++ cs.toList.drop (off + i + vs.length)
  | [], i, cs, w, h, hu, hl, hv => by
    refine ⟨cs, ?_, by simp⟩
    simp only [storeCells, Sem.run_pure]
    congr 1
    have hlt := lt_heap h
    have hh : w.heap.setIfInBounds b (.cells cs e fr) = w.heap := by
      apply Array.ext_getElem?
      intro j
      by_cases hj : b = j
      · subst hj; rw [Array.getElem?_setIfInBounds_self_of_lt hlt, h]
      · rw [Array.getElem?_setIfInBounds_ne hj]
    simp [setB, hh]
  | v :: r, i, cs, w, h, hu, hl, hv => by
    simp only [List.length_cons] at hl
    have h1 := run_store_cell (P := P) (i := off + i) h (by omega) hu (hv v (by simp))
    have hlt := lt_heap h
    have hl2 : off + (i + 1) + r.length ≤ (cs.setIfInBounds (off + i) v).size := by rw [Array.size_setIfInBounds]; omega
    obtain ⟨cs', h2, h3⟩ := run_storeCells r (i + 1) (cs.setIfInBounds (off + i) v) (setB w b (.cells (cs.setIfInBounds (off + i) v) e fr)) (setB_at w b _ hlt) (fun j hj => hu j (by simpa using hj)) hl2 (fun u hu' => hv u (by simp [hu']))
    refine ⟨cs', ?_, ?_⟩
    · simp only [storeCells, Sem.run_bind, add_plain]
      rw [h1]
      simp only [Result.andThen_ok]
      rw [h2, setB_setB]
    · rw [h3, Array.toList_setIfInBounds]
      have hlt2 : off + i < cs.toList.length := by simp; omega
      have e1 : (cs.toList.set (off + i) v).take (off + (i + 1)) = cs.toList.take (off + i) ++ [v] := by
        rw [← Nat.add_assoc, List.take_succ_eq_append_getElem (by simpa using hlt2), List.take_set_of_le (Nat.le_refl _)]
        simp
      have e2 : (cs.toList.set (off + i) v).drop (off + (i + 1) + r.length) = cs.toList.drop (off + i + (r.length + 1)) := by
        rw [List.drop_set_of_lt (by omega)]
        congr 1
        omega
      rw [e1, e2]
      simp
theorem VR_one {c : Nat} {x : AV} {v : Value} (h : VR w F B c x v) (hc : x.cell = true) : v.oneCell' = true := by
  cases x with
  | d x =>
    cases x with
    | agg l => simp [AV.cell, D.isAgg] at hc
    | sl z l => simp only [VR, DRv, DRc] at h; obtain ⟨A, cc, hu, _⟩ := h; simp only [List.cons.injEq, and_true] at hu; subst hu; rfl
    | ptr y => simp only [VR, DRv, DRc] at h; obtain ⟨A, cc, hu, _⟩ := h; simp only [List.cons.injEq, and_true] at hu; subst hu; rfl
    | clo fn f cp => simp only [VR, DRv, DRc] at h; obtain ⟨A, cc, hu, _⟩ := h; simp only [List.cons.injEq, and_true] at hu; subst hu; rfl
    | _ => simp only [VR, DRv, DRc, List.cons.injEq, and_true] at h; subst h; rfl
  | nils => simp only [VR] at h; subst h; rfl
  | ref k g z off len => simp only [VR] at h; obtain ⟨_, h⟩ := h; split at h; (obtain ⟨rfl, _⟩ := h; rfl); (obtain ⟨ad, rfl, _⟩ := h; rfl)
  | elt k g z j o => simp only [VR] at h; obtain ⟨_, b, n, _, rfl⟩ := h; rfl
  | addr k g o => simp only [VR] at h; obtain ⟨_, b, n, _, rfl⟩ := h; rfl
  | agg l => simp [AV.cell] at hc
  | tup l => simp [AV.cell] at hc
  | clo fn f cp => simp only [VR] at h; obtain ⟨fv, cv, rfl, _⟩ := h; rfl
  | dead => simp [AV.cell] at hc
theorem VRl_one {c : Nat} : ∀ {l : List AV} {vs : List Value}, cellsOK l = true → VRl w F B c l vs → ∀ v ∈ vs, v.oneCell' = true
  | [], vs, _, h => by simp only [VRl] at h; subst h; simp
  | x :: r, vs, hc, h => by
    simp only [cellsOK, Bool.and_eq_true] at hc
    simp only [VRl] at h
    obtain ⟨v, vs', rfl, h1, h2⟩ := h
    intro u hu
    rcases List.mem_cons.1 hu with rfl | hu
    · exact VR_one h1 hc.1
    · exact VRl_one hc.2 h2 u hu
theorem DRl_one : ∀ {l : List D} {vs : List Value}, DRl w F l vs → ∀ v ∈ vs, v.oneCell' = true := fun h => VRl_one (B := fun _ => none) (c := 0) (VRl_of_DRl (B := fun _ => none) (c := 0) h).2 (VRl_of_DRl h).1
theorem DRc_one {x : D} {vs : List Value} (h : DRc w F x vs) : ∀ v ∈ vs, v.oneCell' = true := by
  cases x with
  | agg l => simp only [DRc] at h; exact DRl_one h
  | sl z l => simp only [DRc] at h; obtain ⟨A, cc, rfl, _⟩ := h; simp [Value.oneCell']
  | ptr y => simp only [DRc] at h; obtain ⟨A, cc, rfl, _⟩ := h; simp [Value.oneCell']
  | clo fn f cp => simp only [DRc] at h; obtain ⟨A, cc, rfl, _⟩ := h; simp [Value.oneCell']
  | _ => simp only [DRc] at h; subst h; simp [Value.oneCell']
theorem DRr_one {sz : Nat} : ∀ {l : List D} {vs : List Value}, DRr w F sz l vs → ∀ v ∈ vs, v.oneCell' = true
  | [], vs, h => by simp only [DRr] at h; subst h; simp
  | x :: r, vs, h => by
    simp only [DRr] at h
    obtain ⟨a, b, rfl, _, h1, h2⟩ := h
    intro u hu
    rcases List.mem_append.1 hu with hu | hu
    · exact DRc_one h1 u hu
    · exact DRr_one h2 u hu
 
theorem run_append {t t' ty e sz : Nat} {ti : TypeInfo} {z : Value} (hu : P.underlying t = some (.slice e)) (hti : P.info? e = some ti) (hsz : ti.size = sz) (hz : ti.zero = some z) (hzs : z.cells.size = sz) (h0 : 0 < sz)
    (ht' : shapeT P t' = .slice ∨ shapeT P t' = .str) {y : Value} {m : Nat} {news : List Value} (hlen : ∀ W, (Builtin.lenOf y).run P W = .ok m W) (hfc : ∀ W : World, W.heap = w.heap → (Builtin.firstCells sz m y).run P W = .ok news.toArray W) (hnl : news.length = m * sz) (hone : ∀ v ∈ news, v.oneCell' = true)
    {x : Value} {n : Nat} {old : List Value} (hx : (x = .slice none 0 0 ∧ n = 0 ∧ old = []) ∨ ∃ b cap cs fr, x = .slice (some ⟨b, 0, none⟩) n cap ∧ w.heap[b]? = some (.cells cs e fr) ∧ Unf cs fr ∧ cs.size = cap * sz ∧ n ≤ cap ∧ cap ≤ maxLen ∧ old = cs.toList.take (n * sz))
    (hby : (n + m) * ti.bytes ≤ 140737488355328) (hb0 : 0 < ti.bytes) :
    ∃ v' w', (Builtin.append_ #[t, t'] ty #[x, y]).run P w = .ok v' w' ∧ w'.os = w.os ∧ w'.tape = w.tape ∧ w'.output = w.output ∧
      ((x = .slice none 0 0 ∧ v' = .slice none 0 0 ∧ w' = w ∧ n + m = 0) ∨
       (∃ b cap cs fr cs', x = .slice (some ⟨b, 0, none⟩) n cap ∧ w.heap[b]? = some (.cells cs e fr) ∧ v' = .slice (some ⟨b, 0, none⟩) (n + m) cap ∧ w'.heap = (setB w b (.cells cs' e fr)).heap ∧ Unf cs' fr ∧ cs'.size = cap * sz ∧ n + m ≤ cap ∧ cap ≤ maxLen ∧ cs'.toList.take ((n + m) * sz) = old ++ news) ∨
       (∃ cap cs', v' = .slice (some ⟨w.heap.size, 0, none⟩) (n + m) cap ∧ w'.heap = (w.alloc (.cells cs' e)).heap ∧ cs'.size = cap * sz ∧ n + m ≤ cap ∧ cap ≤ maxLen ∧ cs'.toList.take ((n + m) * sz) = old ++ news)) := by
  subst hsz
  have hm63 : n + m ≤ maxLen := by
    have : n + m ≤ (n + m) * ti.bytes := Nat.le_mul_of_pos_right _ hb0
    simp only [maxLen]; omega
  have hmax := hm63
  simp only [maxLen] at hmax
  have hold : old.length = n * ti.size := by
    rcases hx with ⟨_, rfl, rfl⟩ | ⟨b, cap, cs, fr, _, _, _, hcs, hnc, _, rfl⟩
    · simp
    · have : n * ti.size ≤ cap * ti.size := Nat.mul_le_mul_right _ hnc
      simp; omega
  have grow : ∀ (base : Option Addr) (cap : Nat), x = .slice base n cap → ¬ (n + m ≤ cap) → (∀ W : World, W.heap = w.heap → (Builtin.firstCells ti.size n x).run P W = .ok old.toArray W) →
      ∃ cap' cs', (Builtin.append_ #[t, t'] ty #[x, y]).run P w = .ok (.slice (some ⟨w.heap.size, 0, none⟩) (n + m) cap') (w.drew.alloc (.cells cs' e)) ∧ cs'.size = cap' * ti.size ∧ n + m ≤ cap' ∧ cap' ≤ maxLen ∧ cs'.toList.take ((n + m) * ti.size) = old ++ news := by
    intro base cap e1 hroom hfo
    subst e1
    have hge := grownCap_ge w (n + m) cap e
    have hcm : grownCap w (n + m) cap e ≤ maxLen := grownCap_le_maxLen w (n + m) cap e hm63
    have hfit := growslice_fits (need := n + m) (old := cap) (by omega) hby
    refine ⟨grownCap w (n + m) cap e, old.toArray ++ news.toArray ++ Builtin.zeroCells z.cells (grownCap w (n + m) cap e - (n + m)), ?_, ?_, hge, hcm, ?_⟩
    · have h63 : ¬ (9223372036854775807 < ((n : Int) + (m : Int))) := by omega
      have h48 : ¬ (281474976710656 < Builtin.nextslicecap (n + m) cap * ti.bytes) := by omega
      have hfo1 := hfo w.drew rfl
      have hfc1 := hfc w.drew rfl
      rcases ht' with h | h
      · obtain ⟨e', he⟩ := shapeT_slice h
        simp [Builtin.append_, run_underlying hu, run_underlying he, sizeOf, typeInfo, zeroValue, hti, hz, hlen, hroom, h63, h48, Question.forced, hfc1, hfo1, newRow, grownCap]
        congr 2
        apply Array.ext'
        simp [List.append_assoc]
      · simp [Builtin.append_, run_underlying hu, run_underlying (shapeT_str h), sizeOf, typeInfo, zeroValue, hti, hz, hlen, hroom, h63, h48, Question.forced, hfc1, hfo1, newRow, grownCap]
        congr 2
        apply Array.ext'
        simp [List.append_assoc]
    · simp only [Array.size_append, List.size_toArray, size_zeroCells, hzs, hold, hnl, ← Nat.add_mul]
      congr 1
      omega
    · simp only [Array.toList_append, List.append_assoc]
      rw [← List.append_assoc]
      exact List.take_left' (by simp [hold, hnl, Nat.add_mul])
  rcases hx with ⟨rfl, rfl, rfl⟩ | ⟨b, cap, cs, fr, rfl, hh, hunf, hcs, hnc, hcm, rfl⟩
  · by_cases hm : m = 0
    · subst hm
      have hn : news = [] := List.eq_nil_of_length_eq_zero (by simpa using hnl)
      subst hn
      have hfc := hfc w rfl
      refine ⟨.slice none 0 0, w, ?_, rfl, rfl, rfl, .inl ⟨rfl, rfl, rfl, rfl⟩⟩
      rcases ht' with h | h
      · obtain ⟨e', he⟩ := shapeT_slice h
        simp [Builtin.append_, run_underlying hu, run_underlying he, sizeOf, typeInfo, hti, hlen, hfc]
      · simp [Builtin.append_, run_underlying hu, run_underlying (shapeT_str h), sizeOf, typeInfo, hti, hlen, hfc]
    · obtain ⟨cap', cs', h1, h2, h3, h4, h5⟩ := grow none 0 rfl (by omega) (fun W _ => by simp [Builtin.firstCells])
      exact ⟨_, _, h1, rfl, rfl, rfl, .inr (.inr ⟨cap', cs', rfl, rfl, h2, h3, h4, h5⟩)⟩
  · by_cases hroom : n + m ≤ cap
    · have hfc := hfc w rfl
      have hle : (n + m) * ti.size ≤ cap * ti.size := Nat.mul_le_mul_right _ hroom
      rw [Nat.add_mul] at hle
      obtain ⟨cs', h1, h2⟩ := run_storeCells (P := P) (b := b) (off := n * ti.size) (e := e) (fr := fr) news 0 cs w hh hunf (by omega) hone
      have hsz' : cs'.size = cs.size := by
        have := congrArg List.length h2
        simp at this
        omega
      refine ⟨.slice (some ⟨b, 0, none⟩) (n + m) cap, setB w b (.cells cs' e fr), ?_, rfl, rfl, rfl, .inr (.inl ⟨b, cap, cs, fr, cs', rfl, hh, rfl, rfl, fun i hi => hunf i (by omega), by omega, hroom, hcm, ?_⟩)⟩
      · have ha : (⟨b, 0, none⟩ : Addr).add (n * ti.size) = ⟨b, n * ti.size, none⟩ := by rw [add_plain, Nat.zero_add]
        rcases ht' with h | h
        · obtain ⟨e', he⟩ := shapeT_slice h
          simp [Builtin.append_, run_underlying hu, run_underlying he, sizeOf, typeInfo, hti, hlen, hfc, hroom, ha, h1]
        · simp [Builtin.append_, run_underlying hu, run_underlying (shapeT_str h), sizeOf, typeInfo, hti, hlen, hfc, hroom, ha, h1]
      · rw [h2, Nat.add_zero]
        refine List.take_left' ?_
        simp [hnl, Nat.add_mul]
        omega
    · have hfo : ∀ W : World, W.heap = w.heap → (Builtin.firstCells ti.size n (.slice (some ⟨b, 0, none⟩) n cap)).run P W = .ok (cs.toList.take (n * ti.size)).toArray W := by
        intro W hW
        refine run_firstCells_some (P := P) W ti.size n ⟨b, 0, none⟩ n cap _ hold ?_
        have := Cells_of_block (w := W) (by rw [hW]; exact hh) 0 (n * ti.size)
        rw [List.drop_zero] at this
        exact this
      obtain ⟨cap', cs', h1, h2, h3, h4, h5⟩ := grow (some ⟨b, 0, none⟩) cap rfl hroom hfo
      exact ⟨_, _, h1, rfl, rfl, rfl, .inr (.inr ⟨cap', cs', rfl, rfl, h2, h3, h4, h5⟩)⟩
end
end Go.Fw
namespace Go.Fw
open Go
set_option linter.unusedVariables false
set_option linter.unusedSimpArgs false
def rmKey (k : Option Key) (H : List (Key × Nat × AO)) : List (Key × Nat × AO) := match k with
  | none => H
  | some k => H.filter fun x => !(decide (x.1 = k))
 
def apBase (H : List (Key × Nat × AO)) (e sz : Nat) : AV → Option (List D × Option Key)
  | .nils => some ([], none)
  | .ref k g z off len => match objIn H k with
    | some (g', .row e' z' l) => if g' = g ∧ off = 0 ∧ len = l.length ∧ z' = sz ∧ z = sz ∧ e' = e then some (l, some k) else none
    | _ => none
  | _ => none
 
def apNew (P : Program) (H : List (Key × Nat × AO)) (e sz : Nat) : AV → Option (List D)
  | .nils => some []
  | .d (.sl z l) => if z = sz then some l else none
  | .ref k g z off len => match objIn H k with
    | some (g', .row _ z' l) => if g' = g ∧ z' = sz ∧ z = sz ∧ off + len ≤ l.length then some ((l.drop off).take len) else none
    | _ => none
  | .d (.str s) => if sz = 1 then some (s.data.toList.map byteD) else none
  | _ => none
def appendV (P : Program) (ats : Array TypeId) (x y : AV) (d : Nat) (S : St) (K : St → Prop) : Prop := match ats.toList with
  | [t, t'] => match elemI P t with
    | some (e, sz, _) => (zeroI P e).map List.length = some sz ∧ (shapeT P t' = .slice ∨ shapeT P t' = .str) ∧ 0 < P.bytesOf e ∧
        match apBase S.H e sz x, apNew P S.H e sz y with
        | some (l, k), some ys => (l.length + ys.length) * P.bytesOf e ≤ 140737488355328 ∧
            K { E := putIn S.E d (.ref [d] S.c sz 0 (l.length + ys.length)), H := ([d], S.c, .row e sz (l ++ ys)) :: dropKey [d] (rmKey k S.H), c := S.c + 1 }
        | _, _ => False
    | none => False
  | _ => False
 
def mvKey (k k' : Key) (x : Key) : Key := if k.isPrefixOf x then k' ++ x.drop k.length else x
mutual
def mvAV (k k' : Key) : AV → AV
  | .ref q g sz off len => .ref (mvKey k k' q) g sz off len
  | .elt q g sz j o => .elt (mvKey k k' q) g sz j o
  | .addr q g c => .addr (mvKey k k' q) g c
  | .agg l => .agg (mvAVs k k' l)
  | .tup l => .tup (mvAVs k k' l)
  | .clo fn f c => .clo fn (mvAVs k k' f) (mvAVs k k' c)
  | x => x
def mvAVs (k k' : Key) : List AV → List AV
  | [] => []
  | x :: r => mvAV k k' x :: mvAVs k k' r
end
def mvAO (k k' : Key) : AO → AO
  | .box e l => .box e (mvAVs k k' l)
  | o => o
 
def mvH (k k' : Key) (H : List (Key × Nat × AO)) : List (Key × Nat × AO) := (dropKey k' H).map fun x => (mvKey k k' x.1, x.2.1, mvAO k k' x.2.2)
 
def tmpKey (nv : Nat) (k : Key) : Bool := match k with
  | i :: _ => nv ≤ i
  | [] => false
def assignV (P : Program) (nv : Nat) (ty : TypeId) (d : Nat) (x : AV) (S : St) (K : St → Prop) : Prop := match x with
  | .ref k g sz off len => if tmpKey nv k && !([d].isPrefixOf k) then K { S with E := putIn S.E d (.ref (mvKey k [d] k) g sz off len), H := mvH k [d] S.H } else K (S.put (some d) x)
  | .addr k g c => if tmpKey nv k && !([d].isPrefixOf k) then K { S with E := putIn S.E d (.addr (mvKey k [d] k) g c), H := mvH k [d] S.H } else K (S.put (some d) x)
  | .nils => match elemI P ty with
    | some (e, sz, _) => K { E := putIn S.E d (.ref [d] S.c sz 0 0), H := ([d], S.c, .row e sz []) :: dropKey [d] S.H, c := S.c + 1 }
    | none => K (S.put (some d) x)
  | x => K (S.put (some d) x)
def dset (l : List D) (o : Nat) (new : List D) : List D := l.take o ++ new ++ l.drop (o + new.length)
def D.cells : D → List D
  | .agg l => l
  | x => [x]
def storeV (P : Program) (nv : Nat) (t : TypeId) (p x : AV) (S : St) (K : St → Prop) : Prop := match varI P t with
  | some (sz, b) => match p with
    | .addr k g c => match objIn S.H k with
      | some (g', .box e l) => g' = g ∧ (avCells x).length = sz ∧ cellsOK (avCells x) = true ∧ c + sz ≤ l.length ∧
          (match x with
           | .ref k' g1 z off len => if tmpKey nv k' then K { S with H := mvH k' (k ++ [c]) (setO S.H k (.box e (setCells l c [.ref (mvKey k' (k ++ [c]) k') g1 z off len]))) }
              else K { S with H := setO S.H k (.box e (setCells l c (avCells x))) }
           | _ => K { S with H := setO S.H k (.box e (setCells l c (avCells x))) })
      | _ => False
    | .elt k g z j o => match objIn S.H k with
      | some (g', .row e z' l) => g' = g ∧ z' = z ∧ j < l.length ∧ match toD P S.H 9 x with
          | some (y, []) => y.isAgg = b ∧ y.ncells = sz ∧
              ((o = 0 ∧ z = sz ∧ K { S with H := setO S.H k (.row e z (l.set j y)) }) ∨
               (match l.getD j default with
                | .agg fs => o + sz ≤ fs.length ∧ K { S with H := setO S.H k (.row e z (l.set j (.agg (dset fs o y.cells)))) }
                | _ => False))
          | _ => False
      | _ => False
    | _ => False
  | none => False
 
def effV (P : Program) (nv : Nat) (o : Oper) (S : St) (K : St → Prop) : Prop := match o.op with
  | .alloc t => match o.dst, varI P t, zeroI P t with
    | some d, some _, some z => cellsOK z = true ∧ K (S.newObj d (.box t z) (.addr [d] S.c 0))
    | _, _, _ => False
  | .box t x => match o.dst with
    | some d => avCells (S.ev x) ≠ [] ∧ cellsOK (avCells (S.ev x)) = true ∧ K (S.newObj d (.box t (avCells (S.ev x))) (.addr [d] S.c 0))
    | none => False
  | .buildSlice t len parts => match o.dst, elemI P t with
    | some d, some (e, sz, b) => (zeroI P e).isSome = true ∧ seqParts 0 (parts.toList.map (·.1)) = true ∧ len = parts.size ∧ len * sz ≤ 16777216 ∧
        match toDl P S.H 9 (parts.toList.map fun p => S.ev p.2) with
        | some (xs, ks) => elemsP b sz xs ∧ K ((S.freeze ks).newObj d (.row e sz xs) (.ref [d] S.c sz 0 len))
        | none => False
    | _, _ => False
  | .makeSlice t l c => match o.dst, elemI P t, S.ev l, S.ev c with
    | some d, some (e, sz, b), .d (.int .i64 n), .d (.int .i64 m) => n = m ∧ 0 ≤ n ∧ n.toNat * P.bytesOf e ≤ 281474976710656 ∧ 0 < P.bytesOf e ∧ match zeroD P e with
        | some z => z.isAgg = b ∧ z.ncells = sz ∧ (zeroI P e).map List.length = some sz ∧ K (S.newObj d (.row e sz (List.replicate n.toNat z)) (.ref [d] S.c sz 0 n.toNat))
        | none => False
    | _, _, _, _ => False
  | .convert src dst x => match o.dst, shapeT P src, P.underlying dst, S.ev x with
    | some d, .str, some (.slice e), .d (.str s) => shapeT P e = .int .u8 ∧ s.size ≤ 4611686018427387904 ∧ K (S.newObj d (.row e 1 (s.data.toList.map byteD)) (.ref [d] S.c 1 0 s.size))
    | _, _, _, _ => False
  | .store t p x => o.dst = none ∧ storeV P nv t (S.ev p) (S.ev x) S K
  | .assign x => match o.dst with
    | some d => assignV P nv o.type d (S.ev x) S K
    | none => False
  | .range t x => match o.dst, shapeT P t, S.ev x with
    | some d, .str, .d (.str s) => K (S.newObj d (.iter s 0) (.addr [d] S.c 0))
    | _, _, _ => False
  | .next x b => match b, o.dst, S.ev x with
    | true, some d, .addr k g c => match objIn S.H k with
      | some (g', .iter s pos) => g' = g ∧ c = 0 ∧
          (pos < s.size → K { S with E := putIn S.E d (.tup [.d (.bool true), .d (.int .i64 pos), .d (.int .i32 (Utf8.decode s pos).1)]), H := setO S.H k (.iter s (pos + (Utf8.decode s pos).2)) }) ∧
          (s.size ≤ pos → K (S.put (some d) (.tup [.d (.bool false)])))
      | _ => False
    | _, _, _ => False
  | .call c => match c.callee, o.dst with
    | .builtin .append, some d => match c.args.toList with
      | [x, y] => appendV P c.argTypes (S.ev x) (S.ev y) d S K
      | _ => False
    | _, _ => False
  | _ => False
end Go.Fw
namespace Go.Fw
open Go
set_option linter.unusedVariables false
set_option linter.unusedSimpArgs false
 
def isDs (o : Oper) : Bool := match o.op with
  | .store .. | .next .. => true
  | .call c => match c.callee with
    | .builtin .append => true
    | _ => false
  | _ => false
section
variable {P : Program} {F : Nat → Prop} {B : Blk} {w w' : World} {S : St} {a : Act} {N nv : Nat} {K : St → Prop}
mutual
theorem VR_mv (k k' : Key) {c : Nat} : ∀ (x : AV) (v : Value), VR w F B c x v → VR w F B c (mvAV k k' x) v
  | .ref q g sz off len, v, h => by simpa only [mvAV, VR] using h
  | .elt q g sz j o, v, h => by simpa only [mvAV, VR] using h
  | .addr q g o, v, h => by simpa only [mvAV, VR] using h
  | .agg l, v, h => by
    simp only [mvAV, VR] at h ⊢
    obtain ⟨cs, e, h0, h1⟩ := h
    have := VRl_mv k k' l _ h1
    exact ⟨cs, e, by rw [this.2]; exact h0, this.1⟩
  | .tup l, v, h => by
    simp only [mvAV, VR] at h ⊢
    obtain ⟨cs, e, h1⟩ := h
    exact ⟨cs, e, (VRl_mv k k' l _ h1).1⟩
  | .clo fn f cp, v, h => by
    simp only [mvAV, VR] at h ⊢
    obtain ⟨fv, cv, e, h1, h2⟩ := h
    exact ⟨fv, cv, e, (VRl_mv k k' f _ h1).1, (VRl_mv k k' cp _ h2).1⟩
  | .d x, v, h => h
  | .nils, v, h => h
  | .dead, v, h => h
theorem VRl_mv (k k' : Key) {c : Nat} : ∀ (l : List AV) (vs : List Value), VRl w F B c l vs → VRl w F B c (mvAVs k k' l) vs ∧ cellsOK (mvAVs k k' l) = cellsOK l
  | [], vs, h => ⟨h, rfl⟩
  | x :: r, vs, h => by
    simp only [mvAVs, VRl] at h ⊢
    obtain ⟨v, vs', e, h1, h2⟩ := h
    have := VRl_mv k k' r _ h2
    refine ⟨⟨v, vs', e, VR_mv k k' x v h1, this.1⟩, ?_⟩
    simp only [cellsOK, this.2]
    cases x <;> rfl
end
theorem OR_mv (k k' : Key) {c g : Nat} {o : AO} (h : OR w F B c g o) : OR w F B c g (mvAO k k' o) := by
  cases o with
  | row e sz l => exact h
  | box e l =>
    simp only [mvAO, OR] at h ⊢
    obtain ⟨b, n, cs, fr, h1, h2, h3, h4, h5⟩ := h
    have := VRl_mv k k' l _ h5
    exact ⟨b, n, cs, fr, h1, h2, h3, by rw [this.2]; exact h4, this.1⟩
  | iter s pos => exact h
theorem mvH_own {k k' : Key} {H : List (Key × Nat × AO)} {b : Nat} (h : Own (mvH k k' H) B b) : Own H B b := by
  obtain ⟨q, g, o, n, hm, hB⟩ := h
  obtain ⟨x, hx, e⟩ := List.mem_map.1 hm
  simp only [Prod.mk.injEq] at e
  obtain ⟨_, rfl, _⟩ := e
  exact ⟨x.1, x.2.1, x.2.2, n, (dropKey_sub _ _).subset hx, hB⟩
theorem FR.mv {E : List (Nat × AV)} {H : List (Key × Nat × AO)} {c : Nat} (hf : FR F B w ⟨E, H, c⟩ a) (k k' : Key) : FR F B w ⟨E, mvH k k' H, c⟩ a where
  slots := hf.slots
  objs q g o hm := by
    obtain ⟨x, hx, e⟩ := List.mem_map.1 hm
    simp only [Prod.mk.injEq] at e
    obtain ⟨_, rfl, rfl⟩ := e
    have := hf.objs x.1 x.2.1 x.2.2 ((dropKey_sub _ _).subset hx)
    exact ⟨this.1, OR_mv k k' this.2⟩
  sep b hb := hf.sep b (mvH_own hb)
  inj := by
    have : ((mvH k k' H).map fun x => x.2.1) = (dropKey k' H).map fun x => x.2.1 := by simp [mvH, List.map_map]
    rw [this]
    exact hf.inj.sublist ((dropKey_sub _ _).map _)
  Flt := hf.Flt
  defers := hf.defers
  pin := hf.pin
 
theorem Tr.still (hf : FR F B w S a) (hN : a.tmps.size = N) {S' : St} {a' : Act} (hf' : FR F B w S' a') (hn : a'.tmps.size = N) (ho : ∀ b, Own S'.H B b → Own S.H B b) (hc : S.c ≤ S'.c := by exact Nat.le_refl _) : Tr N F B w S F B w S' a' :=
  ⟨hf', hn, fun _ h => h, fun _ _ _ => rfl, fun b hb => hb.elim .inl fun h => .inr (.inl (ho b h)), rfl, rfl, rfl, Nat.le_refl _, fun _ _ => rfl⟩
 
theorem assignV_run (hf : FR F B w S a) (hN : a.tmps.size = N) {d : Nat} (hd : dstOK N (some d) = true) {x : AV} {v : Value} (hx : VR w F B S.c x v) {ty : TypeId} (h : assignV P nv ty d x S K) :
    ∃ S' B', K S' ∧ Tr N F B w S F B' w S' (a.put (some d) v) := by
  have plain : ∀ {y : AV}, VR w F B S.c y v → K (S.put (some d) y) → ∃ S' B', K S' ∧ Tr N F B w S F B' w S' (a.put (some d) v) := fun hy hk =>
    ⟨_, B, hk, Tr.still hf hN (hf.put hN hd hy) (by rw [Act.put_size]; exact hN) (fun b h => h)⟩
  cases x with
  | ref k g sz off len =>
    simp only [assignV] at h
    split at h
    · refine ⟨_, B, h, Tr.still hf hN ?_ (by rw [Act.put_size]; exact hN) (fun b h => mvH_own h)⟩
      have h1 := (FR.mv (E := S.E) (H := S.H) (c := S.c) hf k [d]).put hN hd (av := .ref (mvKey k [d] k) g sz off len) (v := v) (by simpa only [VR] using hx)
      exact h1
    · exact plain hx h
  | addr k g c =>
    simp only [assignV] at h
    split at h
    · refine ⟨_, B, h, Tr.still hf hN ?_ (by rw [Act.put_size]; exact hN) (fun b h => mvH_own h)⟩
      have h1 := (FR.mv (E := S.E) (H := S.H) (c := S.c) hf k [d]).put hN hd (av := .addr (mvKey k [d] k) g c) (v := v) (by simpa only [VR] using hx)
      exact h1
    · exact plain hx h
  | nils =>
    simp only [assignV] at h
    split at h
    · rename_i e sz b hei
      simp only [VR] at hx
      subst hx
      have h1 := newObj_Tr (o := .row e sz []) (av := .ref [d] S.c sz 0 0) (v := .slice none 0 0) (bo := none) (w' := w) hf hN hd [] (Ext.refl w) rfl rfl rfl (fun b n hb => by cases hb) (by simp only [OR, updB_new]) (by simp only [VR, updB_new]; exact ⟨Nat.lt_succ_self _, by simp⟩)
      have hFe : (fun b => F b ∨ FK S.H B [] b) = F := by
        funext b
        refine propext ⟨fun h => h.elim id ?_, .inl⟩
        rintro ⟨k, g, o, n, h, _⟩
        simp at h
      rw [hFe] at h1
      exact ⟨_, _, h, h1⟩
    · exact plain hx h
  | d x => exact plain hx (by simpa only [assignV] using h)
  | elt _ _ _ _ _ => exact plain hx (by simpa only [assignV] using h)
  | agg _ => exact plain hx (by simpa only [assignV] using h)
  | tup _ => exact plain hx (by simpa only [assignV] using h)
  | clo _ _ _ => exact plain hx (by simpa only [assignV] using h)
  | dead => exact plain hx (by simpa only [assignV] using h)
 
theorem box_store (hf : FR F B w S a) {k : Key} {g e : Nat} {l : List AV} (hob : objIn S.H k = some (g, .box e l)) {b n : Nat} (hB : B g = some (b, n)) {o : Nat} {new : List AV} {nv : List Value} (hn : VRl w F B S.c new nv) (hc : cellsOK new = true) (hlen : o + new.length ≤ l.length) :
    ∃ w', (storeCells ⟨b, o, none⟩ nv).run P w = .ok () w' ∧ FR F B w' ⟨S.E, setO S.H k (.box e (setCells l o new)), S.c⟩ a ∧ (∀ i, i ≠ b → w'.heap[i]? = w.heap[i]?) ∧ w'.os = w.os ∧ w'.tape = w.tape ∧ w'.output = w.output ∧ w'.heap.size = w.heap.size := by
  have hor := hf.objsIn hob
  simp only [OR] at hor
  obtain ⟨b', n', cs, fr, hB', hh, hun, hco, hvl⟩ := hor
  rw [hB] at hB'
  simp only [Option.some.injEq, Prod.mk.injEq] at hB'
  obtain ⟨rfl, rfl⟩ := hB'
  have hll : cs.size = l.length := by simpa using hvl.length
  have hnl := hn.length
  obtain ⟨cs', h1, h2⟩ := run_storeCells (P := P) (b := b) (off := o) (e := e) (fr := fr) nv 0 cs w hh hun (by omega) (VRl_one hc hn)
  have hlt := lt_heap hh
  have hF : ∀ i, F i → (setB w b (.cells cs' e fr)).heap[i]? = w.heap[i]? := fun i hi => setB_ne w b i _ fun e => (hf.sep b ⟨k, g, _, n, mem_of_objIn hob, hB⟩).1 (e ▸ hi)
  refine ⟨_, h1, ?_, fun i hi => setB_ne w b i _ hi, rfl, rfl, rfl, setB_size w b _⟩
  refine hf.upd hob hB (by rw [setB_size]; omega) (fun i _ hi => setB_ne w b i _ hi) ?_
  simp only [OR]
  have hsz : cs'.size = cs.size := by
    have := congrArg List.length h2
    simp at this
    omega
  refine ⟨b, n, cs', fr, hB, setB_at w b _ hlt, fun i hi => hun i (by omega), cellsOK_setCells hco hc, ?_⟩
  rw [h2, Nat.add_zero]
  exact VRl.mono hF (fun _ h => h) (fun _ _ => rfl) (Nat.le_refl _) _ _ (VRl_setCells hvl hn)
theorem DRr_set {sz : Nat} : ∀ {l : List D} {vs : List Value} {j : Nat} {y : D} {ys : List Value}, DRr w F sz l vs → j < l.length → DRc w F y ys → ys.length = sz → DRr w F sz (l.set j y) (vs.take (j * sz) ++ ys ++ vs.drop (j * sz + sz))
  | [], vs, j, y, ys, h, hj, hy, hl => by simp at hj
  | x :: r, vs, 0, y, ys, h, hj, hy, hl => by
    simp only [DRr] at h
    obtain ⟨a, b, rfl, h0, h1, h2⟩ := h
    simp only [List.set_cons_zero, DRr, Nat.zero_mul, List.take_zero, List.nil_append, Nat.zero_add]
    exact ⟨ys, b, by rw [← h0, List.drop_left], hl, hy, h2⟩
  | x :: r, vs, j + 1, y, ys, h, hj, hy, hl => by
    simp only [DRr] at h
    obtain ⟨a, b, rfl, h0, h1, h2⟩ := h
    have ih := DRr_set (j := j) h2 (by simpa using hj) hy hl
    simp only [List.set_cons_succ, DRr]
    refine ⟨a, _, ?_, h0, h1, ih⟩
    have e1 : (j + 1) * sz = a.length + j * sz := by rw [Nat.add_mul, Nat.one_mul, h0, Nat.add_comm]
    rw [e1, List.take_append, List.take_of_length_le (by omega), Nat.add_sub_cancel_left]
    rw [show a.length + j * sz + sz = a.length + (j * sz + sz) by omega, ← List.drop_drop, List.drop_left]
    simp
theorem DRl_dset {l new : List D} {vs nv : List Value} {o : Nat} (h : DRl w F l vs) (hn : DRl w F new nv) : DRl w F (dset l o new) (vs.take o ++ nv ++ vs.drop (o + nv.length)) := by
  have app : ∀ {a b : List D} {u v : List Value}, DRl w F a u → DRl w F b v → DRl w F (a ++ b) (u ++ v) := by
    intro a
    induction a with
    | nil => intro b u v h1 h2; simp only [DRl] at h1; simpa [h1] using h2
    | cons x r ih =>
      intro b u v h1 h2
      simp only [DRl] at h1
      obtain ⟨v1, u', rfl, h0, h3, h4⟩ := h1
      simp only [List.cons_append, DRl]
      exact ⟨v1, u' ++ v, by simp, h0, h3, ih h4 h2⟩
  unfold dset
  rw [hn.length]
  exact app (app (h.take o) hn) (h.drop _)
theorem DRl_cells {y : D} {cs : List Value} (h : DRc w F y cs) : DRl w F y.cells cs := by
  have one : ∀ {x : D}, x.isAgg = false → DRc w F x cs → cs.length = 1 → DRl w F [x] cs := by
    intro x hx hc hl
    match cs, hl with
    | [v], _ => simp only [DRl]; exact ⟨v, [], rfl, hx, hc, rfl⟩
  cases y with
  | agg l => simpa [DRc, D.cells] using h
  | _ => exact one rfl h (by have := h.len; simpa [D.ncells] using this)
 
theorem row_store (hf : FR F B w S a) {k : Key} {g e sz : Nat} {l : List D} (hob : objIn S.H k = some (g, .row e sz l)) {b n : Nat} (hB : B g = some (b, n)) {j o : Nat} (hj : j < l.length) {y : D} {nv : List Value} (hnl : o + nv.length ≤ sz) (hone : ∀ v ∈ nv, v.oneCell' = true)
    (hy : ∀ old : List Value, DRc w F (l.getD j default) old → old.length = sz → DRc w F y (old.take o ++ nv ++ old.drop (o + nv.length))) :
    ∃ w', (storeCells ⟨b, j * sz + o, none⟩ nv).run P w = .ok () w' ∧ FR F B w' ⟨S.E, setO S.H k (.row e sz (l.set j y)), S.c⟩ a ∧ (∀ i, i ≠ b → w'.heap[i]? = w.heap[i]?) ∧ w'.os = w.os ∧ w'.tape = w.tape ∧ w'.output = w.output ∧ w'.heap.size = w.heap.size := by
  have hor := hf.objsIn hob
  simp only [OR, hB] at hor
  obtain ⟨cs, fr, hh, hun, h0, hcs, hln, hmx, hdr⟩ := hor
  have hjn : (j + 1) * sz ≤ l.length * sz := Nat.mul_le_mul_right _ hj
  rw [Nat.add_mul, Nat.one_mul] at hjn
  have hln2 : l.length * sz ≤ n * sz := Nat.mul_le_mul_right _ hln
  obtain ⟨cs', h1, h2⟩ := run_storeCells (P := P) (b := b) (off := j * sz + o) (e := e) (fr := fr) nv 0 cs w hh hun (by omega) hone
  have hlt := lt_heap hh
  have hF : ∀ i, F i → (setB w b (.cells cs' e fr)).heap[i]? = w.heap[i]? := fun i hi => setB_ne w b i _ fun e => (hf.sep b ⟨k, g, _, n, mem_of_objIn hob, hB⟩).1 (e ▸ hi)
  refine ⟨_, h1, ?_, fun i hi => setB_ne w b i _ hi, rfl, rfl, rfl, setB_size w b _⟩
  refine hf.upd hob hB (by rw [setB_size]; omega) (fun i _ hi => setB_ne w b i _ hi) ?_
  have hsz : cs'.size = cs.size := by
    have := congrArg List.length h2
    simp at this
    omega
  simp only [OR, hB]
  refine ⟨cs', fr, setB_at w b _ hlt, fun i hi => hun i (by omega), h0, by omega, by simpa using hln, hmx, ?_⟩
  have hget := hdr.get j hj
  have htk : (List.drop (j * sz) (List.take (l.length * sz) cs.toList)).take sz = (cs.toList.drop (j * sz)).take sz := by
    rw [List.drop_take, List.take_take, Nat.min_eq_left (by omega)]
  rw [htk] at hget
  have hset := DRr_set hdr hj (hy _ hget.1 hget.2) (by rw [List.length_append, List.length_append, List.length_take, List.length_drop, hget.2]; omega)
  refine DRr.mono hF (fun _ h => h) _ _ _ ?_
  rw [List.length_set]
  have e3 : cs'.toList.take (l.length * sz) = (cs.toList.take (l.length * sz)).take (j * sz) ++ (((cs.toList.drop (j * sz)).take sz).take o ++ nv ++ ((cs.toList.drop (j * sz)).take sz).drop (o + nv.length)) ++ (cs.toList.take (l.length * sz)).drop (j * sz + sz) := by
    rw [h2, Nat.add_zero]
    apply List.ext_getElem?
    intro i
    simp only [List.getElem?_take, List.getElem?_append, List.getElem?_drop, List.length_take, List.length_append, List.length_drop, Array.length_toList]
    have c1 : min (j * sz + o) cs.size = j * sz + o := by omega
    have c2 : min (j * sz) (min (l.length * sz) cs.size) = j * sz := by omega
    have c3 : min o (min sz (cs.size - j * sz)) = o := by omega
    have c4 : min sz (cs.size - j * sz) = sz := by omega
    rw [c1, c2, c3, c4]
    by_cases hi : i < l.length * sz
    · rw [if_pos hi]
      by_cases h3 : i < j * sz
      · rw [if_pos (by omega), if_pos (by omega), if_pos (by omega), if_pos (by omega), if_pos (by omega), if_pos h3, if_pos hi]
      · by_cases h4 : i < j * sz + o
        · rw [if_pos (by omega), if_pos (by omega), if_pos (by omega), if_pos (by omega), if_neg (by omega), if_pos (by omega), if_pos (by omega), if_pos (by omega), if_pos (by omega)]
          congr 1; omega
        · by_cases h5 : i < j * sz + o + nv.length
          · rw [if_pos (by omega), if_neg (by omega), if_pos (by omega), if_neg (by omega), if_pos (by omega), if_neg (by omega)]
            congr 1; omega
          · by_cases h6 : i < j * sz + sz
            · rw [if_neg (by omega), if_pos (by omega), if_neg (by omega), if_neg (by omega), if_pos (by omega)]
              congr 1; omega
            · rw [if_neg (by omega), if_neg (by omega), if_pos (by omega)]
              congr 1; omega
    · rw [if_neg hi]
      rw [if_neg (by omega), if_neg (by omega)]
  rw [e3]
  exact hset
end
end Go.Fw
namespace Go.Fw
open Go
set_option linter.unusedVariables false
set_option linter.unusedSimpArgs false
section
variable {P : Program} {F : Nat → Prop} {B : Blk} {w w' : World} {S : St} {a : Act} {N nv : Nat} {K : St → Prop}
theorem own_setO {k : Key} {g : Nat} {o0 o : AO} (hob : objIn S.H k = some (g, o0)) {i : Nat} (h : Own (setO S.H k o) B i) : Own S.H B i := by
  obtain ⟨k', g', o', m, hm', hb'⟩ := h
  rcases mem_setO hob _ hm' with h | h | h
  · simp only [Prod.mk.injEq] at h
    obtain ⟨rfl, rfl, rfl⟩ := h
    exact ⟨_, _, _, _, mem_of_objIn hob, hb'⟩
  · exact ⟨_, _, _, _, h.1, hb'⟩
  · exact ⟨_, _, _, _, h.1, hb'⟩
 
theorem Tr.stored (hf : FR F B w S a) (hN : a.tmps.size = N) {k : Key} {g : Nat} {o0 : AO} (hob : objIn S.H k = some (g, o0)) {b n : Nat} (hB : B g = some (b, n)) {S' : St} (hf' : FR F B w' S' a)
    (hw : ∀ i, i ≠ b → w'.heap[i]? = w.heap[i]?) (hos : w'.os = w.os) (htp : w'.tape = w.tape) (hout : w'.output = w.output) (hsz : w'.heap.size = w.heap.size) (ho : ∀ i, Own S'.H B i → Own S.H B i) (hc : S.c ≤ S'.c := by exact Nat.le_refl _) : Tr N F B w S F B w' S' a :=
  ⟨hf', hN, fun _ h => h, fun i hi hn => hw i fun e => hn ⟨k, g, o0, n, mem_of_objIn hob, e ▸ hB⟩, fun i hi => hi.elim .inl fun h => .inr (.inl (ho i h)), hos, htp, hout, by omega, fun _ _ => rfl⟩
theorem run_storeVar {t : TypeId} {i : TypeInfo} (hi : P.info? t = some i) {ad : Addr} {v : Value} (hv : v.cells.size = i.size) (W : World) : (storeVar t ad v).run P W = (storeCells ad v.cells.toList).run P W := by
  simp [storeVar, run_sizeOf hi, hv]
theorem storeV_run (hf : FR F B w S a) (hN : a.tmps.size = N) {t : TypeId} {p x : AV} {u v : Value} (hp : VR w F B S.c p u) (hx : VR w F B S.c x v) (h : storeV P nv t p x S K) :
    ∃ w', (Instr.storeAt t u v).run P w = .ok () w' ∧ ∃ S' F' B', K S' ∧ Tr N F B w S F' B' w' S' a := by
  unfold storeV at h
  split at h
  · rename_i sz b hvi
    obtain ⟨i, hi, hsz, h0, hag, hb1⟩ := varI_spec hvi
    split at h
    · rename_i k g c
      split at h
      · rename_i g' e l hob
        obtain ⟨rfl, h1, h2, h3, h⟩ := h
        have hor := hf.objsIn hob
        simp only [OR] at hor
        obtain ⟨bb, n, cs, fr, hB, hh, hun, hco, hvl⟩ := hor
        simp only [VR] at hp
        obtain ⟨hg, bb', n', hB', rfl⟩ := hp
        rw [hB] at hB'
        simp only [Option.some.injEq, Prod.mk.injEq] at hB'
        obtain ⟨rfl, rfl⟩ := hB'
        have hne : avCells x ≠ [] := by intro e; rw [e] at h1; simp at h1; omega
        have hcx := avCells_VR hx hne
        have hvs : v.cells.size = sz := by have := hcx.length; rw [h1] at this; simpa using this
        have hrun : ∀ W, (Instr.storeAt t (.pointer (some ⟨bb, c, none⟩)) v).run P W = (storeCells ⟨bb, c, none⟩ v.cells.toList).run P W := by
          intro W
          simp [Instr.storeAt, Instr.sureAddr, run_storeVar (P := P) hi (v := v) (by rw [hsz]; exact hvs)]
        have plain : K { S with H := setO S.H k (.box e (setCells l c (avCells x))) } → ∃ w', (Instr.storeAt t (.pointer (some ⟨bb, c, none⟩)) v).run P w = .ok () w' ∧ ∃ S' F' B', K S' ∧ Tr N F B w S F' B' w' S' a := by
          intro hk
          obtain ⟨w', e1, e2, e3, e4, e5, e6, e7⟩ := box_store (P := P) (o := c) (new := avCells x) hf hob hB hcx h2 (by omega)
          exact ⟨w', by rw [hrun]; exact e1, _, F, B, hk, Tr.stored hf hN hob hB e2 e3 e4 e5 e6 e7 (fun i hi => own_setO hob hi)⟩
        split at h
        · rename_i k' g1 z off len
          split at h
          · have hcx' : VRl w F B S.c [AV.ref (mvKey k' (k ++ [c]) k') g1 z off len] v.cells.toList := by
              simp only [avCells, VRl] at hcx ⊢
              obtain ⟨v1, vs', e1, e2, e3⟩ := hcx
              exact ⟨v1, vs', e1, by simpa only [VR] using e2, e3⟩
            obtain ⟨w', e1, e2, e3, e4, e5, e6, e7⟩ := box_store (P := P) (new := [.ref (mvKey k' (k ++ [c]) k') g1 z off len]) hf hob hB hcx' rfl (by simpa [avCells, ← h1] using h3)
            refine ⟨w', by rw [hrun]; exact e1, _, F, B, h, Tr.stored hf hN hob hB (FR.mv e2 k' (k ++ [c])) e3 e4 e5 e6 e7 (fun i hi => own_setO hob (mvH_own hi))⟩
          · exact plain h
        · exact plain h
      · exact h.elim
    · rename_i k g z j o
      split at h
      · rename_i g' e z' l hob
        obtain ⟨rfl, rfl, hj, h⟩ := h
        split at h
        · rename_i y htd
          obtain ⟨h1, h2, h⟩ := h
          have hD := toD_DR hf 9 x y [] v htd hx
          have hFe : (fun b => F b ∨ FK S.H B [] b) = F := by
            funext b
            refine propext ⟨fun h => h.elim id ?_, .inl⟩
            rintro ⟨k, g, o, n, h, _⟩
            simp at h
          rw [hFe] at hD
          have hDc := DRc_of_DRv hD
          have hvl : v.cells.toList.length = sz := by rw [hDc.len, h2]
          have hvs : v.cells.size = sz := by simpa using hvl
          simp only [VR] at hp
          obtain ⟨hg, bb, n, hB, rfl⟩ := hp
          have hor := hf.objsIn hob
          simp only [OR, hB] at hor
          obtain ⟨cs, fr, hh, hun, hz0, hcs, hln, hmx, hdr⟩ := hor
          have hrun : ∀ W, (Instr.storeAt t (.pointer (some ⟨bb, j * z' + o, none⟩)) v).run P W = (storeCells ⟨bb, j * z' + o, none⟩ v.cells.toList).run P W := by
            intro W
            simp [Instr.storeAt, Instr.sureAddr, run_storeVar (P := P) hi (v := v) (by rw [hsz]; exact hvs)]
          rcases h with ⟨rfl, rfl, hk⟩ | h
          · obtain ⟨w', e1, e2, e3, e4, e5, e6, e7⟩ := row_store (P := P) (o := 0) (y := y) (nv := v.cells.toList) hf hob hB hj (by omega) (DRc_one hDc) (fun old ho hl => by
              have : List.drop (0 + v.cells.toList.length) old = [] := List.drop_eq_nil_of_le (by omega)
              rw [this]
              simpa using hDc)
            exact ⟨w', by rw [hrun]; exact e1, _, F, B, hk, Tr.stored hf hN hob hB e2 e3 e4 e5 e6 e7 (fun i hi => own_setO hob hi)⟩
          · split at h
            · rename_i fs hfs
              obtain ⟨h3, hk⟩ := h
              have hget := hdr.get j hj
              rw [hfs] at hget
              have hfl : fs.length = z' := by have h8 := hget.1.len; rw [hget.2] at h8; exact h8.symm
              obtain ⟨w', e1, e2, e3, e4, e5, e6, e7⟩ := row_store (P := P) (o := o) (y := .agg (dset fs o y.cells)) (nv := v.cells.toList) hf hob hB hj (by omega) (DRc_one hDc) (fun old ho hl => by
                rw [hfs] at ho
                simp only [DRc] at ho ⊢
                exact DRl_dset ho (DRl_cells hDc))
              exact ⟨w', by rw [hrun]; exact e1, _, F, B, hk, Tr.stored hf hN hob hB e2 e3 e4 e5 e6 e7 (fun i hi => own_setO hob hi)⟩
            · exact h.elim
        · exact h.elim
      · exact h.elim
    · exact h.elim
  · exact h.elim
theorem apNew_run (hf : FR F B w S a) {e sz : Nat} {y : AV} {v : Value} (hy : VR w F B S.c y v) {ys : List D} (h : apNew P S.H e sz y = some ys) :
    ∃ news : List Value, (∀ W, (Builtin.lenOf v).run P W = .ok ys.length W) ∧ (∀ W : World, W.heap = w.heap → (Builtin.firstCells sz ys.length v).run P W = .ok news.toArray W) ∧ news.length = ys.length * sz ∧ DRr w F sz ys news := by
  unfold apNew at h
  split at h
  · simp only [Option.some.injEq] at h
    subst h
    simp only [VR] at hy
    subst hy
    exact ⟨[], fun W => by simp [Builtin.lenOf], fun W _ => by simp [Builtin.firstCells], by simp, by simp [DRr]⟩
  · rename_i z l
    split at h
    · rename_i hz
      subst hz
      simp only [Option.some.injEq] at h
      subst h
      simp only [VR, DRv, DRc] at hy
      obtain ⟨A, cc, hu, hl, hm, hr⟩ := hy
      simp only [List.cons.injEq, and_true] at hu
      subst hu
      rcases hr with rfl | ⟨ad, cs, rfl, hF, hC, hD⟩
      · refine ⟨[], fun W => by simp [Builtin.lenOf], fun W _ => ?_, by simp, by simp [DRr]⟩
        cases A with
        | none => simp [Builtin.firstCells]
        | some ad => simp [Builtin.firstCells, loadCells, loadCellsFrom]
      · refine ⟨cs, fun W => by simp [Builtin.lenOf], fun W hW => run_firstCells_some (P := P) W z _ ad _ cc cs hD.length ?_, hD.length, hD⟩
        have := hC.keep (w' := W) (F := F) (fun b hb => by rw [hW]) hF
        exact this
    · cases h
  · rename_i k g z off len
    split at h
    · rename_i g' e' z' l hob
      split at h
      · rename_i hc
        obtain ⟨rfl, rfl, rfl, hol⟩ := hc
        simp only [Option.some.injEq] at h
        subst h
        have hor := hf.objsIn hob
        simp only [VR] at hy
        obtain ⟨hg, hy⟩ := hy
        have hlen : ((l.drop off).take len).length = len := by simp; omega
        split at hy
        · obtain ⟨rfl, rfl, rfl⟩ := hy
          exact ⟨[], fun W => by simp [Builtin.lenOf], fun W _ => by simp [Builtin.firstCells], by simp, by simp [DRr]⟩
        · rename_i b n hB
          obtain ⟨ad, rfl, hcap, had⟩ := hy
          simp only [OR, hB] at hor
          obtain ⟨cs, fr, hh, hun, hz0, hcs, hln, hmx, hdr⟩ := hor
          rcases had with rfl | ⟨rfl, _⟩
          · have hD := (hdr.drop off).take len
            have e1 : ((cs.toList.take (l.length * z)).drop (off * z)).take (len * z) = (cs.toList.drop (off * z)).take (len * z) := by
              have h6 : (off + len) * z ≤ l.length * z := Nat.mul_le_mul_right _ hol
              rw [Nat.add_mul] at h6
              rw [List.drop_take, List.take_take, Nat.min_eq_left (by omega)]
            rw [e1] at hD
            refine ⟨(cs.toList.drop (off * z)).take (len * z), fun W => by simp [Builtin.lenOf, hlen], fun W hW => ?_, hD.length, hD⟩
            rw [hlen]
            refine run_firstCells_some (P := P) W z len _ _ _ _ (by rw [hD.length, hlen]) ?_
            exact Cells_of_block (w := W) (by rw [hW]; exact hh) _ _
          · refine ⟨[], fun W => by simp [Builtin.lenOf], fun W _ => by simp [Builtin.firstCells, loadCells, loadCellsFrom], by simp, by simp [DRr]⟩
      · cases h
    · cases h
  · rename_i s
    split at h
    · rename_i hz
      subst hz
      simp only [Option.some.injEq] at h
      subst h
      have := val_of_scalar rfl hy
      subst this
      refine ⟨s.data.toList.map fun b => .int .u8 b.toNat, fun W => by simp [Builtin.lenOf, valD], fun W _ => ?_, by simp, ?_⟩
      · simp only [valD, Builtin.firstCells, Sem.run_pure]
        congr 1
        apply Array.ext'
        have e1 : (s.extract 0 (List.map byteD s.data.toList).length) = s := by
          have : (List.map byteD s.data.toList).length = s.size := by simp
          rw [this]
          exact ByteArray.extract_zero_size
        rw [e1]
        simp
      · generalize s.data.toList = l
        induction l with
        | nil => simp [DRr]
        | cons b r ih => simp only [List.map_cons, DRr]; exact ⟨[.int .u8 b.toNat], _, rfl, rfl, by simp [DRc, byteD], ih⟩
    · cases h
  · cases h
theorem appendV_run (hf : FR F B w S a) (hN : a.tmps.size = N) {d : Nat} (hd : dstOK N (some d) = true) {ats : Array TypeId} {ty : TypeId} {x y : AV} {u v : Value} (hx : VR w F B S.c x u) (hy : VR w F B S.c y v) (h : appendV P ats x y d S K) :
    ∃ r w', (Builtin.append_ ats ty #[u, v]).run P w = .ok r w' ∧ ∃ S' F' B', K S' ∧ Tr N F B w S F' B' w' S' (a.put (some d) r) := by
  unfold appendV at h
  split at h
  · rename_i t t' ht
    have hats' : ats = #[t, t'] := Array.ext' (by simpa using ht)
    subst hats'
    split at h
    · rename_i e sz b hei
      obtain ⟨ti, hu, hti, hsz, h0, hag, hb1⟩ := elemI_spec hei
      obtain ⟨hzl, hsh, hby0, h⟩ := h
      have hbo : P.bytesOf e = ti.bytes := by simp [Program.bytesOf, hti]
      rw [hbo] at hby0 h
      have hz : ∃ z, ti.zero = some z ∧ z.cells.size = sz := by
        unfold zeroI at hzl
        rw [hti] at hzl
        simp only at hzl
        cases hzz : ti.zero with
        | none => simp [hzz] at hzl
        | some z => exact ⟨z, rfl, by simpa [hzz] using hzl⟩
      obtain ⟨z, hz, hzs⟩ := hz
      split at h
      · rename_i l k ys hap han
        obtain ⟨hby, hk⟩ := h
        obtain ⟨news, n1, n2, n3, n4⟩ := apNew_run (P := P) hf hy han
        have hbase : ∃ old : List Value, DRr w F sz l old ∧ ((u = .slice none 0 0 ∧ l.length = 0 ∧ old = []) ∨ ∃ b cap cs fr, u = .slice (some ⟨b, 0, none⟩) l.length cap ∧ w.heap[b]? = some (.cells cs e fr) ∧ Unf cs fr ∧ cs.size = cap * sz ∧ l.length ≤ cap ∧ cap ≤ maxLen ∧ old = cs.toList.take (l.length * sz)) ∧
            (∀ b, u.ownBlock = some b → ∃ k0 g n, k = some k0 ∧ objIn S.H k0 = some (g, .row e sz l) ∧ B g = some (b, n)) := by
          unfold apBase at hap
          split at hap
          · simp only [Option.some.injEq, Prod.mk.injEq] at hap
            obtain ⟨rfl, rfl⟩ := hap
            simp only [VR] at hx
            subst hx
            exact ⟨[], by simp [DRr], .inl ⟨rfl, rfl, rfl⟩, fun b hb => by simp [Value.ownBlock] at hb⟩
          · rename_i k0 g z1 off len
            split at hap
            · rename_i g' e' z' l' hob
              split at hap
              · rename_i hc
                obtain ⟨rfl, rfl, rfl, rfl, rfl, rfl⟩ := hc
                simp only [Option.some.injEq, Prod.mk.injEq] at hap
                obtain ⟨rfl, rfl⟩ := hap
                have hor := hf.objsIn hob
                simp only [VR] at hx
                obtain ⟨hg, hx⟩ := hx
                split at hx
                · rename_i hB
                  obtain ⟨rfl, _, hl0⟩ := hx
                  have : l' = [] := List.eq_nil_of_length_eq_zero hl0
                  subst this
                  exact ⟨[], by simp [DRr], .inl ⟨rfl, rfl, rfl⟩, fun b hb => by simp [Value.ownBlock] at hb⟩
                · rename_i bb n hB
                  obtain ⟨ad, rfl, hcap, had⟩ := hx
                  have had' : ad = ⟨bb, 0, none⟩ := by rcases had with h | h; simpa using h; omega
                  subst had'
                  simp only [OR, hB] at hor
                  obtain ⟨cs, fr, hh, hun, hz0, hcs, hln, hmx, hdr⟩ := hor
                  refine ⟨_, hdr, .inr ⟨bb, n, cs, fr, rfl, hh, hun, hcs, hln, hmx, rfl⟩, fun b hb => ?_⟩
                  simp only [Value.ownBlock, Option.some.injEq] at hb
                  subst hb
                  exact ⟨k0, _, n, rfl, hob, hB⟩
              · cases hap
            · cases hap
          · cases hap
        obtain ⟨old, ho1, ho2, ho3⟩ := hbase
        obtain ⟨v', w', hr, hos, htp, hout, hcase⟩ := run_append (P := P) (ty := ty) hu hti hsz hz hzs h0 hsh n1 (by rw [hsz] at *; exact n2) n3 (DRr_one n4) ho2 hby hby0
        refine ⟨v', w', hr, ?_⟩
        have hsub : (dropKey [d] (rmKey k S.H)).Sublist S.H := by
          refine (dropKey_sub _ _).trans ?_
          cases k with
          | none => exact List.Sublist.refl _
          | some k0 => exact List.filter_sublist
        have hrest : ∀ x ∈ dropKey [d] (rmKey k S.H), ∀ b n, u.ownBlock = some b → B x.2.1 ≠ some (b, n) := by
          intro x hx b n hb hB
          obtain ⟨k0, g, m, rfl, hob, hBg⟩ := ho3 b hb
          have hm := mem_of_objIn hob
          have hxm := hsub.subset hx
          have hxk : x.1 ≠ k0 := by
            have := (dropKey_sub _ _).subset hx
            simp only [rmKey, List.mem_filter] at this
            simpa using this.2
          by_cases hg : x.2.1 = g
          · have := same_entry hf.gensNodup hxm hm hg
            exact hxk (by rw [this])
          · exact hf.apart hxm hm hg hB hBg
        have finish : ∀ (bo : Option (Nat × Nat)), w.heap.size ≤ w'.heap.size → (∀ i, i < w.heap.size → u.ownBlock ≠ some i → w'.heap[i]? = w.heap[i]?) →
            (∀ b n, bo = some (b, n) → b < w'.heap.size ∧ (w.heap.size ≤ b ∨ u.ownBlock = some b)) → OR w' F (updB B S.c bo) (S.c + 1) S.c (.row e sz (l ++ ys)) →
            VR w' F (updB B S.c bo) (S.c + 1) (.ref [d] S.c sz 0 (l.length + ys.length)) v' →
            ∃ S' F' B', K S' ∧ Tr N F B w S F' B' w' S' (a.put (some d) v') := by
          intro bo hle hkeep hbo hor hvr
          have hFb : ∀ i, F i → u.ownBlock ≠ some i := by
            intro i hi hb
            obtain ⟨k0, g, m, _, hob, hBg⟩ := ho3 i hb
            exact (hf.sep i ⟨k0, g, _, m, mem_of_objIn hob, hBg⟩).1 hi
          have hf2 := FR.add (w' := w') (bo := bo) (k := [d]) (o := .row e sz (l ++ ys)) hf hsub hle (fun i hi => hkeep i (hf.Flt i hi) (hFb i hi))
            (fun x hx b n hb => hkeep b (hf.sep b ⟨x.1, x.2.1, x.2.2, n, hsub.subset hx, hb⟩).2 (fun hub => hrest x hx b n hub hb))
            (fun b n hb => by
              obtain ⟨h1, h2⟩ := hbo b n hb
              refine ⟨fun hF => ?_, h1, fun x hx n' hx' => ?_⟩
              · rcases h2 with h2 | h2
                · have := hf.Flt b hF; omega
                · exact hFb b hF h2
              · rcases h2 with h2 | h2
                · have := (hf.sep b ⟨x.1, x.2.1, x.2.2, n', hsub.subset hx, hx'⟩).2; omega
                · exact hrest x hx b n' h2 hx') hor
          have hf3 := hf2.put (S := ⟨S.E, ([d], S.c, .row e sz (l ++ ys)) :: dropKey [d] (rmKey k S.H), S.c + 1⟩) hN hd hvr
          refine ⟨_, F, _, hk, hf3, by rw [Act.put_size]; exact hN, fun _ h => h, fun i hi hn => hkeep i hi fun hub => ?_, fun i hi => ?_, hos, htp, hout, hle, fun g hg => updB_old (Nat.lt_of_lt_of_le hg hf.pin)⟩
          · obtain ⟨k0, g, m, _, hob, hBg⟩ := ho3 i hub
            exact hn ⟨k0, g, _, m, mem_of_objIn hob, hBg⟩
          · rcases hi with hi | ⟨k1, g, o', n, hm, hB⟩
            · exact .inl hi
            · have hm' : (k1, g, o') ∈ ([d], S.c, AO.row e sz (l ++ ys)) :: dropKey [d] (rmKey k S.H) := hm
              rcases List.mem_cons.1 hm' with h | h
              · simp only [Prod.mk.injEq] at h
                obtain ⟨rfl, rfl, rfl⟩ := h
                rw [updB_new] at hB
                rcases (hbo i n hB).2 with h2 | h2
                · exact .inr (.inr h2)
                · obtain ⟨k0, g, m, _, hob, hBg⟩ := ho3 i h2
                  exact .inr (.inl ⟨k0, g, _, m, mem_of_objIn hob, hBg⟩)
              · have hmS := hsub.subset h
                rw [updB_old (hf.objs k1 g o' hmS).1] at hB
                exact .inr (.inl ⟨k1, g, o', n, hmS, hB⟩)
        rcases hcase with ⟨rfl, rfl, rfl, hnm⟩ | ⟨b, cap, cs, fr, cs', rfl, hh, rfl, hheap, hun', hcs', hroom, hcm, htake⟩ | ⟨cap, cs', rfl, hheap, hcs', hroom, hcm, htake⟩
        · refine finish none (Nat.le_refl _) (fun _ _ _ => rfl) (fun b n hb => by cases hb) ?_ ?_
          · simp only [OR, updB_new]
            exact List.eq_nil_of_length_eq_zero (by simpa using hnm)
          · simp only [VR, updB_new]
            exact ⟨Nat.lt_succ_self _, by simpa using hnm⟩
        · have hlt := lt_heap hh
          have hFk : ∀ i, F i → w'.heap[i]? = w.heap[i]? := fun i hi => by
            rw [hheap]
            refine setB_ne w b i _ fun e => ?_
            obtain ⟨k0, g, m, _, hob, hBg⟩ := ho3 b rfl
            exact (hf.sep b ⟨k0, g, _, m, mem_of_objIn hob, hBg⟩).1 (e ▸ hi)
          refine finish (some (b, cap)) (by rw [hheap, setB_size]; omega) (fun i hi hne => ?_) (fun b' n hb => ?_) ?_ ?_
          · rw [hheap]
            exact setB_ne w b i _ fun e => hne (by simp [Value.ownBlock, e])
          · simp only [Option.some.injEq, Prod.mk.injEq] at hb
            obtain ⟨rfl, rfl⟩ := hb
            exact ⟨by rw [hheap, setB_size]; exact hlt, .inr rfl⟩
          · simp only [OR, updB_new]
            refine ⟨cs', fr, by rw [hheap]; exact setB_at w b _ hlt, hun', h0, hcs', by simpa using hroom, hcm, ?_⟩
            rw [List.length_append, htake]
            exact DRr.mono hFk (fun _ h => h) _ _ _ (ho1.append n4)
          · simp only [VR, updB_new]
            exact ⟨Nat.lt_succ_self _, _, rfl, by omega, .inl (by simp)⟩
        · have hext : ∀ i, i < w.heap.size → w'.heap[i]? = w.heap[i]? := fun i hi => by rw [hheap]; exact ext_alloc w _ i hi
          refine finish (some (w.heap.size, cap)) (by rw [hheap, alloc_size]; omega) (fun i hi _ => hext i hi) (fun b' n hb => ?_) ?_ ?_
          · simp only [Option.some.injEq, Prod.mk.injEq] at hb
            obtain ⟨rfl, rfl⟩ := hb
            exact ⟨by rw [hheap, alloc_size]; omega, .inl (Nat.le_refl _)⟩
          · simp only [OR, updB_new]
            refine ⟨cs', (0, 0), by rw [hheap]; exact alloc_at w _, unf0 cs', h0, hcs', by simpa using hroom, hcm, ?_⟩
            rw [List.length_append, htake]
            exact DRr.mono (fun i hi => hext i (hf.Flt i hi)) (fun _ h => h) _ _ _ (ho1.append n4)
          · simp only [VR, updB_new]
            exact ⟨Nat.lt_succ_self _, _, rfl, by omega, .inl (by simp)⟩
      · exact h.elim
    · exact h.elim
  · exact h.elim
end
end Go.Fw
namespace Go.Fw
open Go
set_option linter.unusedVariables false
set_option linter.unusedSimpArgs false
section
variable {P : Program} {F : Nat → Prop} {B : Blk} {w w' : World} {S : St} {a : Act} {N nv : Nat} {K : St → Prop}
theorem FK_nil (F : Nat → Prop) (H : List (Key × Nat × AO)) (B : Blk) : (fun b => F b ∨ FK H B [] b) = F := by
  funext b
  refine propext ⟨fun h => h.elim id ?_, .inl⟩
  rintro ⟨k, g, o, n, h, _⟩
  simp at h
theorem zeroI_spec {t : TypeId} {z : List AV} (h : zeroI P t = some z) : ∃ i v, P.info? t = some i ∧ i.zero = some v ∧ z = v.cells.toList.map cAV := by
  unfold zeroI at h
  split at h
  · rename_i i hi
    split at h
    · rename_i v hv
      simp only [Option.some.injEq] at h
      exact ⟨i, v, hi, hv, h.symm⟩
    · cases h
  · cases h
theorem zeroD_spec {e : TypeId} {z : D} (h : zeroD P e = some z) : ∃ i v, P.info? e = some i ∧ i.zero = some v ∧ DRc w F z v.cells.toList := by
  unfold zeroD at h
  split at h
  · rename_i zs b hz hb
    obtain ⟨i, v, hi, hv, rfl⟩ := zeroI_spec hz
    split at h
    · rename_i xs hxs
      split at h
      · rename_i hco
        have hf0 : FR (fun _ => False) (fun _ => none) w ⟨[], [], 16⟩ { tmps := #[], defers := [] } :=
          ⟨fun t => by simp [getIn, VR], fun k g o h => by simp at h, fun b hb => by obtain ⟨_, _, _, _, h, _⟩ := hb; simp at h, by simp, fun b hb => hb.elim, rfl, Nat.le_refl _⟩
        have hD := toDl_DR (P := P) hf0 99 _ xs [] v.cells.toList hxs hco (zero_VR v w _ _ _ _)
        have hD' : DRl w F xs v.cells.toList := DRl.mono (fun _ _ => rfl) (fun b hb => by
          rcases hb with hb | ⟨k, g, o, n, h, _⟩
          · exact hb.elim
          · simp at h) _ _ hD
        split at h
        · simp only [Option.some.injEq] at h
          subst h
          exact ⟨i, v, hi, hv, by simpa [DRc] using hD'⟩
        · split at h
          · rename_i y
            simp only [Option.some.injEq] at h
            subst h
            simp only [DRl] at hD'
            obtain ⟨v1, _, e1, h0, h1, rfl⟩ := hD'
            exact ⟨i, v, hi, hv, by rw [e1]; exact h1⟩
          · cases h
      · cases h
    · cases h
  · cases h
theorem rep_cells (zc : List Value) : ∀ (n : Nat), (List.range (n * zc.length)).map (fun i => zc.toArray[i % zc.length]!) = (List.replicate n zc).flatten
  | 0 => by simp
  | n + 1 => by
    rw [Nat.add_mul, Nat.one_mul, List.range_add, List.map_append, rep_cells zc n, List.replicate_succ', List.flatten_append]
    congr 1
    simp only [List.map_map, List.flatten_cons, List.flatten_nil, List.append_nil]
    apply List.ext_getElem
    · simp
    · intro i h1 h2
      simp only [List.length_map, List.length_range] at h1
      simp [Nat.mod_eq_of_lt h1, h1]
theorem DRr_rep {z : D} {zc : List Value} {sz : Nat} (hz : DRc w F z zc) (hl : zc.length = sz) : ∀ n, DRr w F sz (List.replicate n z) (List.replicate n zc).flatten
  | 0 => by simp [DRr]
  | n + 1 => by
    simp only [List.replicate_succ, List.flatten_cons, DRr]
    exact ⟨zc, _, rfl, hl, hz, DRr_rep hz hl n⟩
theorem makeSlice_run {t e sz : Nat} {b : Bool} (hei : elemI P t = some (e, sz, b)) {n : Int} (h0 : 0 ≤ n) (hby : n.toNat * P.bytesOf e ≤ 281474976710656) (hb0 : 0 < P.bytesOf e) {z : D} (hz : zeroD P e = some z) (hzl : (zeroI P e).map List.length = some sz) :
    ∃ cs : Array Value, (Instr.makeSlice t (.int .i64 n) (.int .i64 n)).run P w = .ok (.slice (some ⟨w.heap.size, 0, none⟩) n.toNat n.toNat) (w.alloc (.cells cs e)) ∧ cs.size = n.toNat * sz ∧ DRr w F sz (List.replicate n.toNat z) (cs.toList.take (n.toNat * sz)) := by
  obtain ⟨ti, hu, hti, hsz, hs0, hag, hb1⟩ := elemI_spec hei
  obtain ⟨i, v, hi, hv, hD⟩ := zeroD_spec (w := w) (F := F) hz
  rw [hti] at hi
  cases hi
  have hbo : P.bytesOf e = ti.bytes := by simp [Program.bytesOf, hti]
  rw [hbo] at hby hb0
  have hvl : v.cells.size = sz := by
    unfold zeroI at hzl
    rw [hti] at hzl
    simp only [hv] at hzl
    simpa using hzl
  have hn48 : n.toNat ≤ 281474976710656 := Nat.le_trans (Nat.le_mul_of_pos_right _ hb0) hby
  have hnn : (n.toNat : Int) = n := by omega
  have hw : IntKind.i64.wrap n = n := wrap_id (by omega) (by omega)
  have hlt : ¬ ((ti.bytes : Int) * n > 281474976710656) := by
    rw [← hnn]
    have h9 : ((n.toNat * ti.bytes : Nat) : Int) ≤ ((281474976710656 : Nat) : Int) := Int.ofNat_le.2 hby
    rw [Int.natCast_mul] at h9
    rw [Int.mul_comm]
    exact Int.not_lt.2 h9
  have hneg : ¬ (n < 0) := by omega
  have ask : (askRoom (n.toNat * ti.bytes)).run P w = .ok () w := by unfold askRoom; split <;> rfl
  have hzr : (zeroValue e).run P w = .ok v w := by simp [zeroValue, typeInfo, hti, hv]
  have hty : (typeInfo e).run P w = .ok ti w := by simp [typeInfo, hti]
  refine ⟨((Array.range (n.toNat * sz)).map ((if n.toNat * sz = 0 then #[] else v.cells)[· % (if n.toNat * sz = 0 then #[] else v.cells).size]!)), ?_, by simp, ?_⟩
  · have h1 : (decide (n < 0) || decide ((ti.bytes : Int) * n > 2 ^ 48)) = false := by simp; omega
    simp only [Instr.makeSlice, Sem.run_bind, run_underlying hu, Result.andThen_ok, asInt, asIntOf, Sem.run_pure, hty, hw, h1, Bool.false_or]
    have h2 : (decide (n < 0) || decide (n > n)) = false := by simp; omega
    simp only [h2, Bool.false_eq_true, if_false, Sem.run_bind, ask, Result.andThen_ok, run_sizeOf hti, hsz, Sem.run_pure]
    by_cases hzz : n.toNat * sz = 0
    · simp only [if_pos hzz, Sem.run_bind, Sem.run_pure, Result.andThen_ok, run_newRow]
    · simp only [if_neg hzz, Sem.run_bind, hzr, Sem.run_pure, Result.andThen_ok, run_newRow]
  · by_cases hzz : n.toNat * sz = 0
    · have : n.toNat = 0 := by rcases Nat.mul_eq_zero.1 hzz with h | h <;> omega
      simp [this, DRr]
    · simp only [if_neg hzz]
      have e1 : ((Array.range (n.toNat * sz)).map (v.cells[· % v.cells.size]!)).toList = (List.replicate n.toNat v.cells.toList).flatten := by
        rw [Array.toList_map, Array.toList_range, ← rep_cells v.cells.toList n.toNat]
        simp [hvl]
      rw [e1, List.take_of_length_le (by simp [hvl])]
      exact DRr_rep hD (by simpa using hvl) n.toNat
theorem unfL (cs : Array Value) : Unf cs (cs.size, cs.size + 1) := fun i hi => by simp; omega
theorem toBytes_run {e : TypeId} {s : ByteArray} (hs : s.size ≤ 4611686018427387904) :
    ∃ (w' : World) (cs : Array Value) (n : Nat), (Conv.stringToBytes e s).run P w = .ok (.slice (some ⟨w.heap.size, 0, none⟩) s.size n) w' ∧ w'.heap = (w.alloc (.cells cs e (cs.size, cs.size + 1))).heap ∧ cs.size = n ∧ s.size ≤ n ∧ n ≤ maxLen ∧
      cs.toList.take s.size = s.data.toList.map (fun b => .int .u8 b.toNat) ∧ w'.os = w.os ∧ w'.tape = w.tape ∧ w'.output = w.output := by
  have hge := grownCap_ge w s.size 0 e
  have hle := grownCap_le_maxLen w s.size 0 e (by simp only [maxLen]; omega)
  generalize hn : grownCap w s.size 0 e = n at hge hle
  have hn' : (Question.appendCap s.size 0 e).cut (w.tape w.drawn (Question.appendCap s.size 0 e)) = n := by rw [← hn]; rfl
  let cs : Array Value := (s.data.map fun b => Value.int .u8 b.toNat) ++ Array.replicate (n - s.size) (.int .u8 0)
  have hcs : cs.size = n := by
    have h1 : s.data.size = s.size := rfl
    simp [cs, h1]
    omega
  refine ⟨((w.drew.alloc (.cells cs e)).freeze ⟨w.heap.size, n, none⟩ 1), cs, n, ?_, ?_, hcs, hge, hle, ?_, ?_, ?_, ?_⟩
  · have hsh : (w.drew.alloc (.cells cs e)).shape? w.heap.size = some (e, n) := by
      have : (w.drew.alloc (.cells cs e)).heap[w.heap.size]? = some (.cells cs e) := alloc_at w.drew _
      simp only [World.shape?, this, hcs]
    have hmk : (markStringish ⟨w.heap.size, 0, none⟩).run P (w.drew.alloc (.cells cs e)) = .ok () ((w.drew.alloc (.cells cs e)).freeze ⟨w.heap.size, n, none⟩ 1) := by
      simp only [markStringish, shape, Sem.run_bind, Sem.run, hsh, Result.andThen_ok, freeze]
    have hch : (choose (.appendCap s.size 0 e)).run P w = .ok n w.drew := by
      simp only [choose, Sem.run, Question.forced, Bool.false_eq_true, if_false, hn']
      rfl
    simp only [Conv.stringToBytes, Sem.run_bind, hch, Result.andThen_ok, run_newRow]
    have e1 : (w.drew.heap.size) = w.heap.size := rfl
    rw [e1, hmk]
    rfl
  · simp only [World.freeze, Nat.one_ne_zero, if_false]
    have h1 : w.drew.alloc (.cells cs e) = w.drew.alloc (.cells cs e) := rfl
    apply Array.ext_getElem?
    intro i
    rw [Array.getElem?_modify]
    by_cases hi : w.heap.size = i
    · subst hi
      rw [if_pos rfl, alloc_at]
      have : (w.drew.alloc (.cells cs e)).heap[w.heap.size]? = some (.cells cs e) := alloc_at w.drew _
      rw [this]
      simp [hcs]
    · rw [if_neg hi]
      show (w.heap.push _)[i]? = (w.heap.push _)[i]?
      rw [Array.getElem?_push, Array.getElem?_push, if_neg (fun h => hi h.symm), if_neg (fun h => hi h.symm)]
  · have h1 : s.data.size = s.size := rfl
    have : cs.toList = (s.data.toList.map fun b => Value.int .u8 b.toNat) ++ List.replicate (n - s.size) (.int .u8 0) := by simp [cs]
    rw [this]
    exact List.take_left' (by simp)
  all_goals simp only [World.freeze, Nat.one_ne_zero, if_false]; rfl
theorem bytesD (l : List UInt8) : DRr w F 1 (l.map byteD) (l.map fun b => Value.int .u8 b.toNat) := by
  induction l with
  | nil => simp [DRr]
  | cons b r ih => simp only [List.map_cons, DRr]; exact ⟨[.int .u8 b.toNat], _, rfl, rfl, by simp [DRc, byteD], ih⟩
end
end Go.Fw
namespace Go.Fw
open Go
set_option linter.unusedVariables false
set_option linter.unusedSimpArgs false
section
variable {P : Program} {F : Nat → Prop} {B : Blk} {w w' : World} {S : St} {a : Act} {N nv : Nat} {K : St → Prop}
 
def Ends (P : Program) (N : Nat) (F : Nat → Prop) (B : Blk) (w : World) (S : St) (a : Act) (o : Oper) (K : St → Prop) : Prop :=
  ∃ r w' v, (execOp a.eval o).run P w = .ok r w' ∧ (r = .value v ∨ (r = .skip ∧ v = undef)) ∧ (isDs o = false → Ext w w') ∧ ∃ S' F' B', K S' ∧ Tr N F B w S F' B' w' S' (a.put o.dst v)
theorem evs_VRl (hf : FR F B w S a) : ∀ l : List Operand, VRl w F B S.c (l.map S.ev) (l.map a.eval)
  | [] => by simp [VRl]
  | x :: r => by simp only [List.map_cons, VRl]; exact ⟨_, _, rfl, ev_VR hf x, evs_VRl hf r⟩
theorem evs_VRl' (hf : FR F B w S a) : ∀ l : List (Nat × Operand), VRl w F B S.c (l.map fun p => S.ev p.2) (l.map fun p => a.eval p.2)
  | [] => by simp [VRl]
  | x :: r => by simp only [List.map_cons, VRl]; exact ⟨_, _, rfl, ev_VR hf x.2, evs_VRl' hf r⟩
theorem dropEmpty (K : St → Prop) {d : Nat} {o : AO} {av : AV} (h : K (S.newObj d o av)) : K ((S.freeze []).newObj d o av) := h
theorem elemsP_len {b : Bool} {sz : Nat} : ∀ {xs : List D}, elemsP b sz xs → ∀ {vs : List Value}, DRvl w F xs vs → vs.length = xs.length
  | [], _, vs, h => by simp only [DRvl] at h; simp [h]
  | x :: r, he, vs, h => by
    simp only [DRvl] at h
    obtain ⟨v, vs', rfl, _, h2⟩ := h
    simp only [elemsP] at he
    simp [elemsP_len he.2.2 h2]
theorem effV_run (hf : FR F B w S a) (hN : a.tmps.size = N) (o : Oper) (hd : dstOK N o.dst = true) (h : effV P nv o S K) : Ends P N F B w S a o K := by
  obtain ⟨dst, op, ty, pos, after, guard⟩ := o
  cases op <;> simp only [effV] at h <;> try exact h.elim
  case alloc t =>
    split at h
    · rename_i d p z hv hz
      obtain ⟨i, zv, hi, hzv, rfl⟩ := zeroI_spec hz
      have hzr : (zeroValue t).run P w = .ok zv w := by simp [zeroValue, typeInfo, hi, hzv]
      have ht := box_Tr (B := B) (t := t) (cs := zv.cells) hf hN hd h.1 (zero_VR zv w F B S.c _)
      refine ⟨.value (.pointer (some ⟨w.heap.size, 0, none⟩)), _, _, ?_, .inl rfl, fun _ => ext_alloc w _, _, _, _, h.2, ht⟩
      simp only [execOp, Instr.alloc, Sem.run_bind, hzr, Result.andThen_ok, newVar, run_newRow, Sem.run_pure]
    · exact h.elim
  case box t x =>
    split at h
    · rename_i d
      have hcx := avCells_VR (ev_VR hf x) h.1
      have ht := box_Tr (B := B) (t := t) (cs := (a.eval x).cells) hf hN hd h.2.1 hcx
      refine ⟨.value (.pointer (some ⟨w.heap.size, 0, none⟩)), _, _, ?_, .inl rfl, fun _ => ext_alloc w _, _, _, _, h.2.2, ht⟩
      simp only [execOp, Instr.box, Sem.run_bind, Result.andThen_ok, newVar, run_newRow, Sem.run_pure]
    · exact h.elim
  case buildSlice t len parts =>
    split at h
    · rename_i d e sz b hei
      obtain ⟨hzs, hsq, rfl, hl24, h⟩ := h
      obtain ⟨ti, hu, hti, hsz, h0, hag, hb1⟩ := elemI_spec hei
      split at h
      · rename_i xs ks hxs
        obtain ⟨hel, hk⟩ := h
        have hz : ∃ z, ti.zero = some z := by
          obtain ⟨zz, hzz⟩ := Option.isSome_iff_exists.1 hzs
          obtain ⟨i, v, hi, hv, _⟩ := zeroI_spec hzz
          rw [hti] at hi
          cases hi
          exact ⟨v, hv⟩
        obtain ⟨z, hz⟩ := hz
        have hD := toDl_DRv hf 9 _ xs ks _ hxs (evs_VRl' hf parts.toList)
        obtain ⟨hr, hcs⟩ := DRr_of_vals hel hD
        have hxl : xs.length = parts.size := by have := elemsP_len hel hD; simpa using this.symm
        obtain ⟨cs, e1, e2, e3⟩ := run_buildSlice (P := P) (w := w) (f := a.eval) hei hti hz hsq hl24 (fun p hp => hcs _ (List.mem_map.2 ⟨p, hp, rfl⟩))
        have hm : parts.size ≤ maxLen := by
          have : parts.size ≤ parts.size * sz := Nat.le_mul_of_pos_right _ h0
          simp only [maxLen]; omega
        have ht := row_Tr (B := B) (e := e) (n := parts.size) (xs := xs) (cs := cs) (fr := (0, 0)) hf hN hd ks (unf0 cs) h0 e2 (by omega) hm (by rw [hxl, e3]; exact hr) (w' := w.alloc (.cells cs e)) rfl rfl rfl rfl
        rw [hxl] at ht
        refine ⟨.value (.slice (some ⟨w.heap.size, 0, none⟩) parts.size parts.size), _, _, ?_, .inl rfl, fun _ => ext_alloc w _, _, _, _, hk, ht⟩
        simp only [execOp, Sem.run_bind, e1, Result.andThen_ok, Sem.run_pure]
      · exact h.elim
    · exact h.elim
  case makeSlice t l c =>
    split at h
    · rename_i d e sz b n m hei hl hc
      obtain ⟨rfl, hn0, hby, hb0, h⟩ := h
      obtain ⟨ti, hu, hti, hsz, h0, hag, hb1⟩ := elemI_spec hei
      have hbo : P.bytesOf e = ti.bytes := by simp [Program.bytesOf, hti]
      split at h
      · rename_i z hz
        obtain ⟨hz1, hz2, hzl, hk⟩ := h
        have el : a.eval l = .int .i64 n := val_of_scalar rfl (by rw [← hl]; exact ev_VR hf l)
        have ec : a.eval c = .int .i64 n := val_of_scalar rfl (by rw [← hc]; exact ev_VR hf c)
        obtain ⟨cs, e1, e2, e3⟩ := makeSlice_run (P := P) (w := w) (F := F) hei hn0 hby hb0 hz hzl
        have hm : n.toNat ≤ maxLen := by
          have : n.toNat ≤ n.toNat * P.bytesOf e := Nat.le_mul_of_pos_right _ hb0
          simp only [maxLen]; omega
        have hrl : (List.replicate n.toNat z).length = n.toNat := by simp
        have ht := row_Tr (B := B) (e := e) (n := n.toNat) (xs := List.replicate n.toNat z) (cs := cs) (fr := (0, 0)) hf hN hd [] (unf0 cs) h0 e2 (by omega) hm (by rw [hrl, FK_nil]; exact e3) (w' := w.alloc (.cells cs e)) rfl rfl rfl rfl
        rw [hrl] at ht
        refine ⟨.value (.slice (some ⟨w.heap.size, 0, none⟩) n.toNat n.toNat), _, _, ?_, .inl rfl, fun _ => ext_alloc w _, _, _, _, hk, ht⟩
        simp only [execOp, el, ec, Sem.run_bind, e1, Result.andThen_ok, Sem.run_pure]
      · exact h.elim
    · exact h.elim
  case convert src dst' x =>
    split at h
    · rename_i d e s hs hu hx
      obtain ⟨he, hsz, hk⟩ := h
      have ex : a.eval x = .string s := val_of_scalar rfl (by rw [← hx]; exact ev_VR hf x)
      obtain ⟨w', cs, n, e1, e2, e3, e4, e5, e6, e7, e8, e9⟩ := toBytes_run (P := P) (w := w) (e := e) hsz
      have hl : (s.data.toList.map byteD).length = s.size := by simp
      have ht := row_Tr (B := B) (e := e) (sz := 1) (n := n) (xs := s.data.toList.map byteD) (cs := cs) (fr := (cs.size, cs.size + 1)) hf hN hd [] (unfL cs) (by omega) (by omega) (by omega) e5 (by rw [hl, FK_nil, Nat.mul_one, e6]; exact bytesD _) e2 e7 e8 e9
      rw [hl] at ht
      refine ⟨.value (.slice (some ⟨w.heap.size, 0, none⟩) s.size n), w', _, ?_, .inl rfl, fun _ b hb => by rw [e2]; exact ext_alloc w _ b hb, _, _, _, hk, ht⟩
      have hrun : (convert src dst' (.string s)).run P w = .ok (.slice (some ⟨w.heap.size, 0, none⟩) s.size n) w' := by
        simp only [convert, Sem.run_bind, run_underlying (shapeT_str hs), run_underlying hu, Result.andThen_ok, run_underlying (shapeT_int he), e1]
      simp only [execOp, ex, Sem.run_bind, hrun, Result.andThen_ok, Sem.run_pure]
    · exact h.elim
  case store t p x =>
    obtain ⟨hd0, h⟩ := h
    have hd0' : dst = none := hd0
    subst hd0'
    obtain ⟨w', e1, S', F', B', hk, ht⟩ := storeV_run hf hN (ev_VR hf p) (ev_VR hf x) h
    refine ⟨.skip, w', undef, ?_, .inr ⟨rfl, rfl⟩, fun hds => by simp [isDs] at hds, S', F', B', hk, ht⟩
    simp only [execOp, Sem.run_bind, e1, Result.andThen_ok, Sem.run_pure]
  case assign x =>
    split at h
    · rename_i d
      obtain ⟨S', B', hk, ht⟩ := assignV_run hf hN hd (ev_VR hf x) h
      exact ⟨.value (a.eval x), w, _, by simp [execOp], .inl rfl, fun _ => Ext.refl w, S', F, B', hk, ht⟩
    · exact h.elim
  case range t x =>
    split at h
    · rename_i d s hs hx
      have ex : a.eval x = .string s := val_of_scalar rfl (by rw [← hx]; exact ev_VR hf x)
      have hh := alloc_at w (.stringIter s 0)
      have ht := newObj_Tr (o := .iter s 0) (av := .addr [d] S.c 0) (v := .pointer (some ⟨w.heap.size, 0, none⟩)) (bo := some (w.heap.size, 0)) hf hN hd [] (ext_alloc w (.stringIter s 0)) rfl rfl rfl
        (fun b n hb => by simp only [Option.some.injEq, Prod.mk.injEq] at hb; obtain ⟨rfl, rfl⟩ := hb; exact ⟨Nat.le_refl _, by rw [alloc_size]; omega⟩)
        (by simp only [OR]; exact ⟨_, _, updB_new, hh⟩) (by simp only [VR]; exact ⟨Nat.lt_succ_self _, _, _, updB_new, rfl⟩)
      refine ⟨.value (.pointer (some ⟨w.heap.size, 0, none⟩)), _, _, ?_, .inl rfl, fun _ => ext_alloc w _, _, _, _, h, ht⟩
      simp [execOp, ex, Instr.range, run_underlying (shapeT_str hs), newObj]
      rfl
    · exact h.elim
  case next x isS =>
    split at h
    · rename_i d k g c hx
      split at h
      · rename_i g' s pos hob
        obtain ⟨rfl, rfl, h1, h2⟩ := h
        have hxv := ev_VR hf x
        rw [hx] at hxv
        simp only [VR] at hxv
        obtain ⟨hg, b, n, hB, hev⟩ := hxv
        have hor := hf.objsIn hob
        simp only [OR] at hor
        obtain ⟨b', n', hB', hh⟩ := hor
        rw [hB] at hB'
        simp only [Option.some.injEq, Prod.mk.injEq] at hB'
        obtain ⟨rfl, rfl⟩ := hB'
        have hlt := lt_heap hh
        have hgo : (getObj b).run P w = .ok (.stringIter s pos) w := by simp [getObj, Sem.run, hh]
        by_cases hp : pos < s.size
        · have hso : ∀ o', (setObj b o').run P w = .ok () (setB w b o') := by intro o'; simp [setObj, Sem.run, hh, setB]
          have hF : ∀ i, F i → (setB w b (.stringIter s (pos + (Utf8.decode s pos).2))).heap[i]? = w.heap[i]? := fun i hi => setB_ne w b i _ fun e => (hf.sep b ⟨k, g', _, n, mem_of_objIn hob, hB⟩).1 (e ▸ hi)
          have hf2 := FR.upd (w' := setB w b (.stringIter s (pos + (Utf8.decode s pos).2))) (o := .iter s (pos + (Utf8.decode s pos).2)) hf hob hB (by rw [setB_size]; omega) (fun i _ hi => setB_ne w b i _ hi) (by simp only [OR]; exact ⟨b, n, hB, setB_at w b _ hlt⟩)
          have hf3 := hf2.put (S := ⟨S.E, setO S.H k (.iter s (pos + (Utf8.decode s pos).2)), S.c⟩) hN hd (av := .tup [.d (.bool true), .d (.int .i64 pos), .d (.int .i32 (Utf8.decode s pos).1)]) (v := .tuple #[.bool true, .int .i64 pos, .int .i32 (Utf8.decode s pos).1]) (by simp [VR, VRl, DRv, DRc])
          have ht := Tr.stored (N := N) hf (by exact hN) hob hB hf2 (fun i hi => setB_ne w b i _ hi) rfl rfl rfl (setB_size w b _) (fun i hi => own_setO hob hi)
          refine ⟨.value (.tuple #[.bool true, .int .i64 pos, .int .i32 (Utf8.decode s pos).1]), _, _, ?_, .inl rfl, fun hds => by simp [isDs] at hds, _, F, B, h1 hp, ⟨hf3, by rw [Act.put_size]; exact hN, ht.sub, ht.keep, ht.new, ht.os, ht.tape, ht.output, ht.size, ht.old⟩⟩
          simp only [execOp, hev, Instr.next, Sem.run_bind, hgo, Result.andThen_ok, if_pos hp, hso, Sem.run_pure]
          rfl
        · refine ⟨.value (.tuple #[.bool false]), w, _, ?_, .inl rfl, fun hds => by simp [isDs] at hds, _, F, B, h2 (by omega), Tr.still hf hN (hf.put hN hd (by simp [VR, VRl, DRv, DRc])) (by rw [Act.put_size]; exact hN) (fun b h => h)⟩
          simp only [execOp, hev, Instr.next, Sem.run_bind, hgo, Result.andThen_ok, if_neg hp, Sem.run_pure]
      · exact h.elim
    · exact h.elim
  case call cl =>
    obtain ⟨callee, args, ats⟩ := cl
    split at h
    · rename_i d hcal
      have hcal' : callee = .builtin .append := hcal
      subst hcal'
      split at h
      · rename_i x y hxy
        have hxy' : args.toList = [x, y] := hxy
        obtain ⟨r, w', e1, S', F', B', hk, ht⟩ := appendV_run (ty := ty) hf hN hd (ev_VR hf x) (ev_VR hf y) h
        have hargs : args.map a.eval = #[a.eval x, a.eval y] := Array.ext' (by simp [hxy'])
        refine ⟨.value r, w', r, ?_, .inl rfl, fun hds => by simp [isDs] at hds, S', F', B', hk, ht⟩
        simp only [execOp, resolve, invoke, builtin, Sem.run_bind, Sem.run_pure, Result.andThen_ok, hargs]
        simp only [e1, Result.andThen_ok, Sem.run_pure]
      · exact h.elim
    · exact h.elim
end
end Go.Fw
namespace Go.Fw
open Go
set_option linter.unusedVariables false
set_option linter.unusedSimpArgs false
 
inductive CV where
  | d (x : D)
  | nils
  | own (e sz : Nat) (l : List D)
  | box (e : Nat) (l : List CV)
  | agg (l : List CV)
  | gone
def CV.cell : CV → Bool
  | .d x => !x.isAgg
  | .agg _ | .gone => false
  | _ => true
def cvCells : List CV → Bool
  | [] => true
  | x :: r => x.cell && cvCells r
mutual
def CR (w : World) (F : Nat → Prop) : CV → Value → List Nat → Prop
  | .d x, v, fp => DRv w F x v ∧ fp = []
  | .nils, v, fp => v = .slice none 0 0 ∧ fp = []
  | .own e sz l, v, fp => (v = .slice none 0 0 ∧ l = [] ∧ fp = []) ∨
      ∃ b n cs fr, v = .slice (some ⟨b, 0, none⟩) l.length n ∧ w.heap[b]? = some (.cells cs e fr) ∧ Unf cs fr ∧ 0 < sz ∧ cs.size = n * sz ∧ l.length ≤ n ∧ n ≤ maxLen ∧ DRr w F sz l (cs.toList.take (l.length * sz)) ∧ fp = [b]
  | .box e l, v, fp => ∃ b cs fr fp', v = .pointer (some ⟨b, 0, none⟩) ∧ w.heap[b]? = some (.cells cs e fr) ∧ Unf cs fr ∧ cvCells l = true ∧ CRl w F l cs.toList fp' ∧ fp = b :: fp'
  | .agg l, v, fp => ∃ cs, v = .agg cs ∧ cvCells l = true ∧ CRl w F l cs.toList fp
  | .gone, v, fp => fp = []
def CRl (w : World) (F : Nat → Prop) : List CV → List Value → List Nat → Prop
  | [], vs, fp => vs = [] ∧ fp = []
  | x :: r, vs, fp => ∃ v vs' f1 f2, vs = v :: vs' ∧ CR w F x v f1 ∧ CRl w F r vs' f2 ∧ fp = f1 ++ f2
end
mutual
 
def intern (k : Key) (c : Nat) : CV → AV × List (Key × Nat × AO) × Nat
  | .d x => (.d x, [], c)
  | .nils => (.nils, [], c)
  | .own e sz l => (.ref k c sz 0 l.length, [(k, c, .row e sz l)], c + 1)
  | .box e l => (.addr k c 0, (k, c, .box e (interns k 0 (c + 1) l).1) :: (interns k 0 (c + 1) l).2.1, (interns k 0 (c + 1) l).2.2)
  | .agg l => (mkAgg (interns k 0 c l).1, (interns k 0 c l).2.1, (interns k 0 c l).2.2)
  | .gone => (.dead, [], c)
def interns (k : Key) (i c : Nat) : List CV → List AV × List (Key × Nat × AO) × Nat
  | [] => ([], [], c)
  | x :: r => ((intern (k ++ [i]) c x).1 :: (interns k (i + 1) (intern (k ++ [i]) c x).2.2 r).1,
      (intern (k ++ [i]) c x).2.1 ++ (interns k (i + 1) (intern (k ++ [i]) c x).2.2 r).2.1, (interns k (i + 1) (intern (k ++ [i]) c x).2.2 r).2.2)
end
section
variable {P : Program} {F : Nat → Prop} {w w' : World}
 
structure Laid (w : World) (F : Nat → Prop) (B B' : Blk) (c c' : Nat) (hs : List (Key × Nat × AO)) (fp : List Nat) : Prop where
  old : ∀ g, g < c → B' g = B g
  le : c ≤ c'
  objs : ∀ x ∈ hs, c ≤ x.2.1 ∧ x.2.1 < c' ∧ OR w F B' c' x.2.1 x.2.2
  blk : ∀ x ∈ hs, ∀ b n, B' x.2.1 = some (b, n) → b ∈ fp
  inj : (hs.map fun x => x.2.1).Pairwise fun g g' => g ≠ g' ∧ ∀ b n n', B' g = some (b, n) → B' g' ≠ some (b, n')
theorem OR.lift {B B' : Blk} {c c' g : Nat} (hB : ∀ g, g < c → B' g = B g) (hc : c ≤ c') (hg : g < c) {o : AO} (h : OR w F B c g o) : OR w F B' c' g o :=
  OR.mono (fun _ _ => rfl) (fun _ h => h) hB hc hg (fun _ _ _ => rfl) h
theorem VR.lift {B B' : Blk} {c c' : Nat} (hB : ∀ g, g < c → B' g = B g) (hc : c ≤ c') {x : AV} {v : Value} (h : VR w F B c x v) : VR w F B' c' x v :=
  VR.mono (fun _ _ => rfl) (fun _ h => h) hB hc x v h
mutual
theorem intern_spec : ∀ (x : CV) (k : Key) (c : Nat) (v : Value) (fp : List Nat) (B : Blk), CR w F x v fp → fp.Nodup → ∃ B', Laid w F B B' c (intern k c x).2.2 (intern k c x).2.1 fp ∧ VR w F B' (intern k c x).2.2 (intern k c x).1 v ∧ (x.cell = true → (intern k c x).1.cell = true)
  | .d x, k, c, v, fp, B, h, hn => by
    simp only [CR] at h
    exact ⟨B, ⟨fun _ _ => rfl, Nat.le_refl _, by simp [intern], by simp [intern], by simp [intern]⟩, by simpa [intern, VR] using h.1, by simp [intern, CV.cell, AV.cell]⟩
  | .nils, k, c, v, fp, B, h, hn => by
    simp only [CR] at h
    exact ⟨B, ⟨fun _ _ => rfl, Nat.le_refl _, by simp [intern], by simp [intern], by simp [intern]⟩, by simpa [intern, VR] using h.1, by simp [intern, AV.cell]⟩
  | .gone, k, c, v, fp, B, h, hn => ⟨B, ⟨fun _ _ => rfl, Nat.le_refl _, by simp [intern], by simp [intern], by simp [intern]⟩, by simp [intern, VR], by simp [CV.cell]⟩
  | .own e sz l, k, c, v, fp, B, h, hn => by
    simp only [CR] at h
    simp only [intern]
    rcases h with ⟨rfl, rfl, rfl⟩ | ⟨b, n, cs, fr, rfl, hh, hu, h0, hcs, hln, hm, hd, rfl⟩
    · refine ⟨updB B c none, ⟨fun g hg => updB_old hg, Nat.le_succ _, fun x hx => ?_, fun x hx b n hb => ?_, by simp⟩, ?_, by simp [AV.cell]⟩
      · simp only [List.mem_singleton] at hx
        subst hx
        exact ⟨Nat.le_refl _, Nat.lt_succ_self _, by simp only [OR, updB_new]⟩
      · simp only [List.mem_singleton] at hx
        subst hx
        rw [updB_new] at hb
        cases hb
      · simp only [VR, updB_new]
        exact ⟨Nat.lt_succ_self _, by simp⟩
    · refine ⟨updB B c (some (b, n)), ⟨fun g hg => updB_old hg, Nat.le_succ _, fun x hx => ?_, fun x hx b' n' hb => ?_, by simp⟩, ?_, by simp [AV.cell]⟩
      · simp only [List.mem_singleton] at hx
        subst hx
        exact ⟨Nat.le_refl _, Nat.lt_succ_self _, by simp only [OR, updB_new]; exact ⟨cs, fr, hh, hu, h0, hcs, hln, hm, hd⟩⟩
      · simp only [List.mem_singleton] at hx
        subst hx
        rw [updB_new] at hb
        simp only [Option.some.injEq, Prod.mk.injEq] at hb
        simp [hb.1]
      · simp only [VR, updB_new]
        exact ⟨Nat.lt_succ_self _, _, rfl, by omega, .inl (by simp)⟩
  | .box e l, k, c, v, fp, B, h, hn => by
    simp only [CR] at h
    obtain ⟨b, cs, fr, fp', rfl, hh, hu, hc, hl, rfl⟩ := h
    simp only [List.nodup_cons] at hn
    obtain ⟨B', hL, hv, hcc⟩ := interns_spec l k 0 (c + 1) cs.toList fp' (updB B c (some (b, 0))) hl hn.2
    have hBc : B' c = some (b, 0) := by rw [hL.old c (Nat.lt_succ_self _), updB_new]
    simp only [intern]
    refine ⟨B', ⟨fun g hg => by rw [hL.old g (by omega), updB_old hg], Nat.le_trans (Nat.le_succ _) hL.le, fun x hx => ?_, fun x hx b' n' hb => ?_, ?_⟩, ?_, by simp [AV.cell]⟩
    · rcases List.mem_cons.1 hx with rfl | hx
      · exact ⟨Nat.le_refl _, hL.le, by simp only [OR]; exact ⟨b, 0, cs, fr, hBc, hh, hu, hcc hc, hv⟩⟩
      · obtain ⟨h1, h2, h3⟩ := hL.objs x hx
        exact ⟨by omega, h2, h3⟩
    · rcases List.mem_cons.1 hx with rfl | hx
      · simp only [hBc, Option.some.injEq, Prod.mk.injEq] at hb
        simp [hb.1]
      · exact List.mem_cons_of_mem _ (hL.blk x hx b' n' hb)
    · simp only [List.map_cons, List.pairwise_cons]
      refine ⟨fun g hg => ?_, hL.inj⟩
      obtain ⟨x, hx, rfl⟩ := List.mem_map.1 hg
      refine ⟨by have := (hL.objs x hx).1; omega, fun b' n n' h1 h2 => ?_⟩
      rw [hBc] at h1
      simp only [Option.some.injEq, Prod.mk.injEq] at h1
      exact hn.1 (h1.1 ▸ hL.blk x hx b' n' h2)
    · simp only [VR]
      exact ⟨by have := hL.le; omega, b, 0, hBc, rfl⟩
  | .agg l, k, c, v, fp, B, h, hn => by
    simp only [CR] at h
    obtain ⟨cs, rfl, hc, hl⟩ := h
    obtain ⟨B', hL, hv, hcc⟩ := interns_spec l k 0 c cs.toList fp B hl hn
    simp only [intern]
    exact ⟨B', hL, mkAgg_VR (hcc hc) hv, by simp [CV.cell]⟩
theorem interns_spec : ∀ (l : List CV) (k : Key) (i c : Nat) (vs : List Value) (fp : List Nat) (B : Blk), CRl w F l vs fp → fp.Nodup → ∃ B', Laid w F B B' c (interns k i c l).2.2 (interns k i c l).2.1 fp ∧ VRl w F B' (interns k i c l).2.2 (interns k i c l).1 vs ∧ (cvCells l = true → cellsOK (interns k i c l).1 = true)
  | [], k, i, c, vs, fp, B, h, hn => by
    simp only [CRl] at h
    obtain ⟨rfl, rfl⟩ := h
    exact ⟨B, ⟨fun _ _ => rfl, Nat.le_refl _, by simp [interns], by simp [interns], by simp [interns]⟩, by simp [interns, VRl], by simp [interns, cellsOK]⟩
  | x :: r, k, i, c, vs, fp, B, h, hn => by
    simp only [CRl] at h
    obtain ⟨v, vs', f1, f2, rfl, h1, h2, rfl⟩ := h
    have hn' := List.nodup_append.1 hn
    obtain ⟨B1, hL1, hv1, hc1⟩ := intern_spec x (k ++ [i]) c v f1 B h1 hn'.1
    simp only [interns]
    generalize intern (k ++ [i]) c x = p at *
    obtain ⟨B2, hL2, hv2, hc2⟩ := interns_spec r k (i + 1) p.2.2 vs' f2 B1 h2 hn'.2.1
    generalize interns k (i + 1) p.2.2 r = q at *
    refine ⟨B2, ⟨fun g hg => by rw [hL2.old g (Nat.lt_of_lt_of_le hg hL1.le), hL1.old g hg], Nat.le_trans hL1.le hL2.le, fun x hx => ?_, fun x hx b n hb => ?_, ?_⟩, ?_, fun hc => ?_⟩
    · rcases List.mem_append.1 hx with hx | hx
      · obtain ⟨a1, a2, a3⟩ := hL1.objs x hx
        exact ⟨a1, Nat.lt_of_lt_of_le a2 hL2.le, a3.lift hL2.old hL2.le a2⟩
      · obtain ⟨a1, a2, a3⟩ := hL2.objs x hx
        exact ⟨Nat.le_trans hL1.le a1, a2, a3⟩
    · rcases List.mem_append.1 hx with hx | hx
      · rw [hL2.old _ (hL1.objs x hx).2.1] at hb
        exact List.mem_append_left _ (hL1.blk x hx b n hb)
      · exact List.mem_append_right _ (hL2.blk x hx b n hb)
    · rw [List.map_append, List.pairwise_append]
      refine ⟨?_, hL2.inj, fun g hg g' hg' => ?_⟩
      · refine List.Pairwise.imp_of_mem (fun {g g'} hg hg' hh => ?_) hL1.inj
        obtain ⟨x, hx, rfl⟩ := List.mem_map.1 hg
        obtain ⟨y, hy, rfl⟩ := List.mem_map.1 hg'
        refine ⟨hh.1, fun b n n' => ?_⟩
        rw [hL2.old _ (hL1.objs x hx).2.1, hL2.old _ (hL1.objs y hy).2.1]
        exact hh.2 b n n'
      · obtain ⟨x, hx, rfl⟩ := List.mem_map.1 hg
        obtain ⟨y, hy, rfl⟩ := List.mem_map.1 hg'
        have a := (hL1.objs x hx).2.1
        have b' := (hL2.objs y hy).1
        refine ⟨by omega, fun b n n' e1 e2 => ?_⟩
        rw [hL2.old _ a] at e1
        exact hn'.2.2 b (hL1.blk x hx b n e1) b (hL2.blk y hy b n' e2) rfl
    · simp only [VRl]
      exact ⟨v, vs', rfl, hv1.lift hL2.old hL2.le, hv2⟩
    · simp only [cvCells, Bool.and_eq_true] at hc
      simp only [cellsOK, hc1 hc.1, hc2 hc.2, Bool.and_self]
end
end
end Go.Fw
namespace Go.Fw
open Go
set_option linter.unusedVariables false
set_option linter.unusedSimpArgs false
mutual
 
def ext (H : List (Key × Nat × AO)) : Nat → AV → Option (CV × List Key)
  | 0, _ => none
  | n + 1, .d x => some (.d x, [])
  | n + 1, .nils => some (.nils, [])
  | n + 1, .ref k g sz off len => match objIn H k with
    | some (g', .row e z l) => if g' = g ∧ z = sz ∧ off = 0 ∧ len ≤ l.length then some (.own e z (l.take len), [k]) else none
    | _ => none
  | n + 1, .addr k g c => match objIn H k with
    | some (g', .box e l) => if g' = g ∧ c = 0 then match exts H n l with
        | some (xs, ks) => some (.box e xs, k :: ks)
        | none => none
      else none
    | _ => none
  | n + 1, .agg l => match exts H n l with
    | some (xs, ks) => some (.agg xs, ks)
    | none => none
  | n + 1, .dead => some (.gone, [])
  | n + 1, _ => none
def exts (H : List (Key × Nat × AO)) : Nat → List AV → Option (List CV × List Key)
  | 0, _ => none
  | n + 1, [] => some ([], [])
  | n + 1, x :: r => match ext H n x, exts H n r with
    | some (y, k1), some (ys, k2) => some (y :: ys, k1 ++ k2)
    | _, _ => none
end
def blkOf (H : List (Key × Nat × AO)) (B : Blk) (k : Key) : Option Nat := match objIn H k with
  | some (g, _) => (B g).map Prod.fst
  | none => none
def fpOf (H : List (Key × Nat × AO)) (B : Blk) (ks : List Key) : List Nat := ks.filterMap (blkOf H B)
 
inductive Mode where
  | ro | frz | own
def argsC (P : Program) (H : List (Key × Nat × AO)) : List Mode → List AV → Option (List CV × List Key × List Key × List Key)
  | _, [] => some ([], [], [], [])
  | ms, x :: r => match argsC P H ms.tail r with
    | some (cs, kf, kr, ko) => match ms.headD .frz with
      | .own => match ext H 9 x with
        | some (c, ks) => some (c :: cs, kf, kr, ks ++ ko)
        | none => none
      | .ro => match toD P H 9 x with
        | some (y, ks) => some (.d y :: cs, kf, ks ++ kr, ko)
        | none => none
      | .frz => match toD P H 9 x with
        | some (y, ks) => some (.d y :: cs, ks ++ kf, kr, ko)
        | none => none
    | none => none
mutual
def CV.flat : CV → Bool
  | .d x => x.flat
  | .nils => true
  | .own _ _ l => D.flat.flats l
  | .box _ l => flats l
  | .agg l => flats l
  | .gone => true
def flats : List CV → Bool
  | [] => true
  | x :: r => x.flat && flats r
end
section
variable {P : Program} {F : Nat → Prop} {B : Blk} {w w' : World} {S : St} {a : Act}
theorem fpOf_mem {H : List (Key × Nat × AO)} {ks : List Key} {b : Nat} (h : b ∈ fpOf H B ks) : FK H B ks b := by
  obtain ⟨k, hk, hb⟩ := List.mem_filterMap.1 h
  unfold blkOf at hb
  split at hb
  · rename_i g o ho
    cases hB : B g with
    | none => simp [hB] at hb
    | some p =>
      obtain ⟨b', n⟩ := p
      simp [hB] at hb
      subst hb
      exact ⟨k, g, o, n, hk, mem_of_objIn ho, hB⟩
  · cases hb
theorem fpOf_nodup (hf : FR F B w S a) {ks : List Key} (h : ks.Nodup) : (fpOf S.H B ks).Nodup := by
  refine List.pairwise_filterMap.2 (h.imp fun {k k'} hne b hb b' hb' e => ?_)
  subst e
  unfold blkOf at hb hb'
  split at hb
  · rename_i g o ho
    split at hb'
    · rename_i g' o' ho'
      have m1 := mem_of_objIn ho
      have m2 := mem_of_objIn ho'
      cases hB : B g with
      | none => simp [hB] at hb
      | some p =>
        cases hB' : B g' with
        | none => simp [hB'] at hb'
        | some p' =>
          obtain ⟨b1, n1⟩ := p
          obtain ⟨b2, n2⟩ := p'
          simp [hB] at hb
          simp [hB'] at hb'
          subst hb
          subst hb'
          by_cases hg : g = g'
          · have := same_entry hf.gensNodup m1 m2 hg
            simp only [Prod.mk.injEq] at this
            exact hne this.1
          · exact hf.apart m1 m2 hg hB hB'
    · cases hb'
  · cases hb
theorem fpOf_append {H : List (Key × Nat × AO)} (k1 k2 : List Key) : fpOf H B (k1 ++ k2) = fpOf H B k1 ++ fpOf H B k2 := List.filterMap_append
mutual
theorem ext_spec (hf : FR F B w S a) : ∀ (n : Nat) (x : AV) (y : CV) (ks : List Key) (v : Value), ext S.H n x = some (y, ks) → VR w F B S.c x v → CR w F y v (fpOf S.H B ks) ∧ (x.cell = true → y.cell = true)
  | 0, x, y, ks, v, h, hv => by simp [ext] at h
  | n + 1, .d x, y, ks, v, h, hv => by
    simp only [ext, Option.some.injEq, Prod.mk.injEq] at h
    obtain ⟨rfl, rfl⟩ := h
    simp only [VR] at hv
    exact ⟨by simp only [CR]; exact ⟨hv, rfl⟩, by simp [AV.cell, CV.cell]⟩
  | n + 1, .nils, y, ks, v, h, hv => by
    simp only [ext, Option.some.injEq, Prod.mk.injEq] at h
    obtain ⟨rfl, rfl⟩ := h
    simp only [VR] at hv
    exact ⟨by simp only [CR]; exact ⟨hv, rfl⟩, by simp [CV.cell]⟩
  | n + 1, .ref k g sz off len, y, ks, v, h, hv => by
    simp only [ext] at h
    split at h
    · rename_i g' e z l hob
      split at h
      · rename_i hc
        obtain ⟨rfl, rfl, rfl, hle⟩ := hc
        simp only [Option.some.injEq, Prod.mk.injEq] at h
        obtain ⟨rfl, rfl⟩ := h
        have hor := hf.objsIn hob
        simp only [VR] at hv
        obtain ⟨hg, hv⟩ := hv
        refine ⟨?_, by simp [CV.cell]⟩
        simp only [CR]
        have htl : (l.take len).length = len := by simp; omega
        have hfp : fpOf S.H B [k] = match B g' with | some (b, _) => [b] | none => [] := by
          simp only [fpOf, List.filterMap_cons, blkOf, hob, List.filterMap_nil]
          cases hB : B g' with
          | none => simp
          | some p => simp
        split at hv
        · rename_i hB
          obtain ⟨rfl, _, hl⟩ := hv
          simp only [OR, hB] at hor
          exact .inl ⟨rfl, by rw [hor, List.take_nil], by rw [hfp, hB]⟩
        · rename_i b m hB
          obtain ⟨ad, rfl, hcap, had⟩ := hv
          simp only [OR, hB] at hor
          obtain ⟨cs, fr, hh, hun, hz0, hcs, hln, hmx, hdr⟩ := hor
          rcases had with rfl | ⟨_, h0⟩
          · refine .inr ⟨b, m, cs, fr, by rw [htl]; simp, hh, hun, hz0, hcs, by rw [htl]; omega, hmx, ?_, by rw [hfp, hB]⟩
            have h1 := hdr.take len
            rw [htl]
            have hmul : len * z ≤ l.length * z := Nat.mul_le_mul_right _ hle
            rwa [List.take_take, Nat.min_eq_left hmul] at h1
          · omega
      · cases h
    · cases h
  | n + 1, .addr k g c, y, ks, v, h, hv => by
    simp only [ext] at h
    split at h
    · rename_i g' e l hob
      split at h
      · rename_i hc
        obtain ⟨rfl, rfl⟩ := hc
        split at h
        · rename_i xs ks' hxs
          simp only [Option.some.injEq, Prod.mk.injEq] at h
          obtain ⟨rfl, rfl⟩ := h
          have hor := hf.objsIn hob
          simp only [OR] at hor
          obtain ⟨b, m, cs, fr, hB, hh, hun, hco, hvl⟩ := hor
          simp only [VR] at hv
          obtain ⟨hg, b', m', hB', rfl⟩ := hv
          rw [hB] at hB'
          simp only [Option.some.injEq, Prod.mk.injEq] at hB'
          obtain ⟨rfl, rfl⟩ := hB'
          obtain ⟨h1, h2⟩ := exts_spec hf n l xs ks' cs.toList hxs hvl
          refine ⟨?_, by simp [CV.cell]⟩
          simp only [CR]
          refine ⟨b, cs, fr, _, rfl, hh, hun, h2 hco, h1, ?_⟩
          simp only [fpOf, List.filterMap_cons, blkOf, hob, hB, Option.map_some]
        · cases h
      · cases h
    · cases h
  | n + 1, .agg l, y, ks, v, h, hv => by
    simp only [ext] at h
    split at h
    · rename_i xs ks' hxs
      simp only [Option.some.injEq, Prod.mk.injEq] at h
      obtain ⟨rfl, rfl⟩ := h
      simp only [VR] at hv
      obtain ⟨cs, rfl, hco, hvl⟩ := hv
      obtain ⟨h1, h2⟩ := exts_spec hf n l xs ks' cs.toList hxs hvl
      refine ⟨?_, by simp [AV.cell]⟩
      simp only [CR]
      exact ⟨cs, rfl, h2 hco, h1⟩
    · cases h
  | n + 1, .dead, y, ks, v, h, hv => by
    simp only [ext, Option.some.injEq, Prod.mk.injEq] at h
    obtain ⟨rfl, rfl⟩ := h
    exact ⟨by simp [CR, fpOf], by simp [AV.cell]⟩
  | n + 1, .elt .., y, ks, v, h, hv => by simp [ext] at h
  | n + 1, .tup _, y, ks, v, h, hv => by simp [ext] at h
  | n + 1, .clo .., y, ks, v, h, hv => by simp [ext] at h
theorem exts_spec (hf : FR F B w S a) : ∀ (n : Nat) (l : List AV) (xs : List CV) (ks : List Key) (vs : List Value), exts S.H n l = some (xs, ks) → VRl w F B S.c l vs → CRl w F xs vs (fpOf S.H B ks) ∧ (cellsOK l = true → cvCells xs = true)
  | 0, l, xs, ks, vs, h, hv => by simp [exts] at h
  | n + 1, [], xs, ks, vs, h, hv => by
    simp only [exts, Option.some.injEq, Prod.mk.injEq] at h
    obtain ⟨rfl, rfl⟩ := h
    simp only [VRl] at hv
    exact ⟨by simp only [CRl]; exact ⟨hv, rfl⟩, by simp [cvCells]⟩
  | n + 1, x :: r, xs, ks, vs, h, hv => by
    simp only [exts] at h
    split at h
    · rename_i y k1 ys k2 h1 h2
      simp only [Option.some.injEq, Prod.mk.injEq] at h
      obtain ⟨rfl, rfl⟩ := h
      simp only [VRl] at hv
      obtain ⟨v, vs', rfl, hv1, hv2⟩ := hv
      obtain ⟨a1, a2⟩ := ext_spec hf n x y k1 v h1 hv1
      obtain ⟨b1, b2⟩ := exts_spec hf n r ys k2 vs' h2 hv2
      refine ⟨?_, fun hc => ?_⟩
      · simp only [CRl]
        exact ⟨v, vs', _, _, rfl, a1, b1, fpOf_append k1 k2⟩
      · simp only [cellsOK, Bool.and_eq_true] at hc
        simp only [cvCells, a2 hc.1, b2 hc.2, Bool.and_self]
    · cases h
end
mutual
theorem CR.mono {F' : Nat → Prop} (hF : ∀ b, F b → F' b) : ∀ (x : CV) (v : Value) (fp : List Nat), CR w F x v fp → CR w F' x v fp
  | .d x, v, fp, h => by simp only [CR] at h ⊢; exact ⟨DRv_mono_F hF h.1, h.2⟩
  | .nils, v, fp, h => by simpa only [CR] using h
  | .own e sz l, v, fp, h => by
    simp only [CR] at h ⊢
    rcases h with h | ⟨b, n, cs, fr, h1, h2, h3, h4, h5, h6, h7, h8, h9⟩
    · exact .inl h
    · exact .inr ⟨b, n, cs, fr, h1, h2, h3, h4, h5, h6, h7, DRr.mono (fun _ _ => rfl) hF _ _ _ h8, h9⟩
  | .box e l, v, fp, h => by
    simp only [CR] at h ⊢
    obtain ⟨b, cs, fr, fp', h1, h2, h3, h4, h5, h6⟩ := h
    exact ⟨b, cs, fr, fp', h1, h2, h3, h4, CRl.mono hF _ _ _ h5, h6⟩
  | .agg l, v, fp, h => by
    simp only [CR] at h ⊢
    obtain ⟨cs, h1, h2, h3⟩ := h
    exact ⟨cs, h1, h2, CRl.mono hF _ _ _ h3⟩
  | .gone, v, fp, h => by simpa only [CR] using h
theorem CRl.mono {F' : Nat → Prop} (hF : ∀ b, F b → F' b) : ∀ (l : List CV) (vs : List Value) (fp : List Nat), CRl w F l vs fp → CRl w F' l vs fp
  | [], vs, fp, h => by simpa only [CRl] using h
  | x :: r, vs, fp, h => by
    simp only [CRl] at h ⊢
    obtain ⟨v, vs', f1, f2, e, h1, h2, e2⟩ := h
    exact ⟨v, vs', f1, f2, e, CR.mono hF _ _ _ h1, CRl.mono hF _ _ _ h2, e2⟩
end
mutual
theorem DRc.flat {F' : Nat → Prop} : ∀ (x : D) (vs : List Value), x.flat = true → DRc w F x vs → DRc w F' x vs
  | .int _ _, _, hx, h => by simpa only [DRc] using h
  | .bool _, _, hx, h => by simpa only [DRc] using h
  | .str _, _, hx, h => by simpa only [DRc] using h
  | .nilp, _, hx, h => by simpa only [DRc] using h
  | .nilm, _, hx, h => by simpa only [DRc] using h
  | .nilf, _, hx, h => by simpa only [DRc] using h
  | .sl sz l, vs, hx, h => by
    simp only [D.flat, List.isEmpty_iff] at hx
    subst hx
    simp only [DRc] at h ⊢
    obtain ⟨A, c, h1, h2, h3, _⟩ := h
    exact ⟨A, c, h1, h2, h3, .inl trivial⟩
  | .ptr x, vs, hx, h => by simp [D.flat] at hx
  | .agg l, vs, hx, h => by
    simp only [D.flat] at hx
    simp only [DRc] at h ⊢
    exact DRl.flat l vs hx h
  | .clo fn f c, vs, hx, h => by
    simp only [D.flat, Bool.and_eq_true, List.isEmpty_iff] at hx
    obtain ⟨rfl, rfl⟩ := hx
    simp only [DRc, DRl] at h ⊢
    exact h
theorem DRl.flat {F' : Nat → Prop} : ∀ (l : List D) (vs : List Value), D.flat.flats l = true → DRl w F l vs → DRl w F' l vs
  | [], _, hx, h => by simpa only [DRl] using h
  | x :: r, vs, hx, h => by
    simp only [D.flat.flats, Bool.and_eq_true] at hx
    simp only [DRl] at h ⊢
    obtain ⟨v, vs', e, h0, h1, h2⟩ := h
    exact ⟨v, vs', e, h0, DRc.flat x _ hx.1 h1, DRl.flat r _ hx.2 h2⟩
end
theorem DRr.flat {F' : Nat → Prop} {sz : Nat} : ∀ (l : List D) (vs : List Value), D.flat.flats l = true → DRr w F sz l vs → DRr w F' sz l vs
  | [], _, hx, h => by simpa only [DRr] using h
  | x :: r, vs, hx, h => by
    simp only [D.flat.flats, Bool.and_eq_true] at hx
    simp only [DRr] at h ⊢
    obtain ⟨a, b, e, hl, h1, h2⟩ := h
    exact ⟨a, b, e, hl, DRc.flat x _ hx.1 h1, DRr.flat r _ hx.2 h2⟩
theorem DRv.flat {F' : Nat → Prop} {x : D} {v : Value} (hx : x.flat = true) (h : DRv w F x v) : DRv w F' x v := by
  cases x <;> simp only [DRv] at h ⊢
  case agg l =>
    obtain ⟨cs, e, h⟩ := h
    simp only [D.flat] at hx
    exact ⟨cs, e, DRl.flat _ _ hx h⟩
  all_goals exact DRc.flat _ _ hx h
mutual
theorem CR.flat {F' : Nat → Prop} : ∀ (x : CV) (v : Value) (fp : List Nat), x.flat = true → CR w F x v fp → CR w F' x v fp
  | .d x, v, fp, hx, h => by simp only [CV.flat] at hx; simp only [CR] at h ⊢; exact ⟨h.1.flat hx, h.2⟩
  | .nils, v, fp, hx, h => by simpa only [CR] using h
  | .own e sz l, v, fp, hx, h => by
    simp only [CV.flat] at hx
    simp only [CR] at h ⊢
    rcases h with h | ⟨b, n, cs, fr, h1, h2, h3, h4, h5, h6, h7, h8, h9⟩
    · exact .inl h
    · exact .inr ⟨b, n, cs, fr, h1, h2, h3, h4, h5, h6, h7, DRr.flat _ _ hx h8, h9⟩
  | .box e l, v, fp, hx, h => by
    simp only [CV.flat] at hx
    simp only [CR] at h ⊢
    obtain ⟨b, cs, fr, fp', h1, h2, h3, h4, h5, h6⟩ := h
    exact ⟨b, cs, fr, fp', h1, h2, h3, h4, CRl.flat _ _ _ hx h5, h6⟩
  | .agg l, v, fp, hx, h => by
    simp only [CV.flat] at hx
    simp only [CR] at h ⊢
    obtain ⟨cs, h1, h2, h3⟩ := h
    exact ⟨cs, h1, h2, CRl.flat _ _ _ hx h3⟩
  | .gone, v, fp, hx, h => by simpa only [CR] using h
theorem CRl.flat {F' : Nat → Prop} : ∀ (l : List CV) (vs : List Value) (fp : List Nat), flats l = true → CRl w F l vs fp → CRl w F' l vs fp
  | [], vs, fp, hx, h => by simpa only [CRl] using h
  | x :: r, vs, fp, hx, h => by
    simp only [flats, Bool.and_eq_true] at hx
    simp only [CRl] at h ⊢
    obtain ⟨v, vs', f1, f2, e, h1, h2, e2⟩ := h
    exact ⟨v, vs', f1, f2, e, CR.flat _ _ _ hx.1 h1, CRl.flat _ _ _ hx.2 h2, e2⟩
end
theorem argsC_spec (hf : FR F B w S a) : ∀ (ms : List Mode) (xs : List AV) (cs : List CV) (kf kr ko : List Key) (vs : List Value), argsC P S.H ms xs = some (cs, kf, kr, ko) → VRl w F B S.c xs vs →
    CRl w (fun b => F b ∨ FK S.H B kf b ∨ FK S.H B kr b) cs vs (fpOf S.H B ko)
  | ms, [], cs, kf, kr, ko, vs, h, hv => by
    simp only [argsC, Option.some.injEq, Prod.mk.injEq] at h
    obtain ⟨rfl, rfl, rfl, rfl⟩ := h
    simp only [VRl] at hv
    simp only [CRl]
    exact ⟨hv, rfl⟩
  | ms, x :: r, cs, kf, kr, ko, vs, h, hv => by
    simp only [argsC] at h
    simp only [VRl] at hv
    obtain ⟨v, vs', rfl, hv1, hv2⟩ := hv
    split at h
    · rename_i cs0 kf0 kr0 ko0 h0
      have ih := argsC_spec hf ms.tail r cs0 kf0 kr0 ko0 vs' h0 hv2
      split at h
      · split at h
        · rename_i c ks hx
          simp only [Option.some.injEq, Prod.mk.injEq] at h
          obtain ⟨rfl, rfl, rfl, rfl⟩ := h
          simp only [CRl]
          exact ⟨v, vs', _, _, rfl, CR.mono (fun b => .inl) _ _ _ (ext_spec hf 9 x c ks v hx hv1).1, ih, fpOf_append _ _⟩
        · cases h
      · split at h
        · rename_i y ks hx
          simp only [Option.some.injEq, Prod.mk.injEq] at h
          obtain ⟨rfl, rfl, rfl, rfl⟩ := h
          simp only [CRl]
          refine ⟨v, vs', [], _, rfl, ?_, CRl.mono (fun b hb => hb.imp id (.imp id (FK_mono fun k hk => List.mem_append_right _ hk))) _ _ _ ih, rfl⟩
          simp only [CR]
          exact ⟨DRv_mono_F (fun b hb => hb.imp id (fun h => .inr (FK_mono (fun k hk => List.mem_append_left _ hk) h))) (toD_DR hf 9 x y ks v hx hv1), trivial⟩
        · cases h
      · split at h
        · rename_i y ks hx
          simp only [Option.some.injEq, Prod.mk.injEq] at h
          obtain ⟨rfl, rfl, rfl, rfl⟩ := h
          simp only [CRl]
          refine ⟨v, vs', [], _, rfl, ?_, CRl.mono (fun b hb => hb.imp id (.imp (FK_mono fun k hk => List.mem_append_right _ hk) id)) _ _ _ ih, rfl⟩
          simp only [CR]
          exact ⟨DRv_mono_F (fun b hb => hb.imp id (fun h => .inl (FK_mono (fun k hk => List.mem_append_left _ hk) h))) (toD_DR hf 9 x y ks v hx hv1), trivial⟩
        · cases h
    · cases h
end
end Go.Fw
namespace Go.Fw
open Go
set_option linter.unusedVariables false
set_option linter.unusedSimpArgs false
 
def Rv (v : Value) : List Value → Prop
  | [x] => v = x
  | l => v = .tuple l.toArray
 
structure Left (F : Nat → Prop) (w : World) (vs : List Value) (fp : List Nat) (rs az : List CV) (v : Value) (w' : World) (F' : Nat → Prop) (vr : List Value) (f1 f2 : List Nat) : Prop where
  res : Rv v vr
  rs : CRl w' F' rs vr f1
  az : CRl w' F' az vs f2
  nodup : (f1 ++ f2).Nodup
  sep : ∀ b ∈ f1 ++ f2, ¬ F' b ∧ b < w'.heap.size
  lt : ∀ b, F' b → b < w'.heap.size
  sub : ∀ b, F b → F' b
  keep : ∀ b, b < w.heap.size → b ∉ fp → w'.heap[b]? = w.heap[b]?
  new : ∀ b, F' b ∨ b ∈ f1 ++ f2 → F b ∨ b ∈ fp ∨ w.heap.size ≤ b
  os : w'.os = w.os
  tape : w'.tape = w.tape
  output : w'.output = w.output
  size : w.heap.size ≤ w'.heap.size
 
def Enters (P : Program) (g : FuncId) (args : Array Value) (w : World) (R : Value → World → Prop) : Prop :=
  match (callFunc g args).run P w with
  | .ok (.value v) w' => R v w'
  | .ok (.enter f xs) w' => Calls P f xs w' fun
    | .returned v, w'' => R v w''
    | _, _ => False
  | .ok (.row row xs) w' => Rows P row xs w' R
  | _ => False
 
def Con (P : Program) (g : FuncId) (args : List CV) (R : List CV → List CV → Prop) : Prop :=
  ∀ F w vs fp, CRl w F args vs fp → fp.Nodup → (∀ b ∈ fp, ¬ F b ∧ b < w.heap.size) → (∀ b, F b → b < w.heap.size) →
    Enters P g vs.toArray w fun v w' => ∃ rs az F' vr f1 f2, R rs az ∧ Left F w vs fp rs az v w' F' vr f1 f2
theorem Con.mono {P : Program} {g : FuncId} {args : List CV} {R R' : List CV → List CV → Prop} (h : Con P g args R) (hr : ∀ rs az, R rs az → R' rs az) : Con P g args R' := by
  intro F w vs fp h1 h2 h3 h4
  have := h F w vs fp h1 h2 h3 h4
  unfold Enters at this ⊢
  split at this
  · obtain ⟨rs, az, F', vr, f1, f2, h, l⟩ := this
    exact ⟨rs, az, F', vr, f1, f2, hr _ _ h, l⟩
  · refine this.mono fun e w' he => ?_
    cases e
    · obtain ⟨rs, az, F', vr, f1, f2, h, l⟩ := he
      exact ⟨rs, az, F', vr, f1, f2, hr _ _ h, l⟩
    · exact he
    · exact he
  · refine this.mono fun v w' he => ?_
    obtain ⟨rs, az, F', vr, f1, f2, h, l⟩ := he
    exact ⟨rs, az, F', vr, f1, f2, hr _ _ h, l⟩
  · exact this.elim
 
structure LaidG (G : List Nat) (w : World) (F : Nat → Prop) (B B' : Blk) (c c' : Nat) (hs : List (Key × Nat × AO)) (fp : List Nat) : Prop where
  old : ∀ g, g < c → B' g = B g
  le : c ≤ c'
  objs : ∀ x ∈ hs, (x.2.1 ∈ G ∨ c ≤ x.2.1) ∧ x.2.1 < c' ∧ OR w F B' c' x.2.1 x.2.2
  blk : ∀ x ∈ hs, ∀ b n, B' x.2.1 = some (b, n) → b ∈ fp
  inj : (hs.map fun x => x.2.1).Pairwise fun g g' => g ≠ g' ∧ ∀ b n n', B' g = some (b, n) → B' g' ≠ some (b, n')
theorem Laid.toG {w : World} {F : Nat → Prop} {B B' : Blk} {c c' : Nat} {hs : List (Key × Nat × AO)} {fp : List Nat} (h : Laid w F B B' c c' hs fp) : LaidG [] w F B B' c c' hs fp :=
  ⟨h.old, h.le, fun x hx => ⟨.inr (h.objs x hx).1, (h.objs x hx).2⟩, h.blk, h.inj⟩
theorem LaidG.append {G1 G2 : List Nat} {w : World} {F : Nat → Prop} {B B1 B2 : Blk} {c c1 c2 : Nat} {h1 h2 : List (Key × Nat × AO)} {f1 f2 : List Nat}
    (a : LaidG G1 w F B B1 c c1 h1 f1) (b : LaidG G2 w F B1 B2 c1 c2 h2 f2) (hG1 : ∀ g ∈ G1, g < c) (hG2 : ∀ g ∈ G2, g < c) (hG : (G1 ++ G2).Nodup) (hf : (f1 ++ f2).Nodup) : LaidG (G1 ++ G2) w F B B2 c c2 (h1 ++ h2) (f1 ++ f2) := by
  have hn := List.nodup_append.1 hf
  have hgn := List.nodup_append.1 hG
  refine ⟨fun g hg => by rw [b.old g (Nat.lt_of_lt_of_le hg a.le), a.old g hg], Nat.le_trans a.le b.le, fun x hx => ?_, fun x hx i n hi => ?_, ?_⟩
  · rcases List.mem_append.1 hx with hx | hx
    · obtain ⟨p, q, r⟩ := a.objs x hx
      exact ⟨p.imp (List.mem_append_left _) id, Nat.lt_of_lt_of_le q b.le, r.lift b.old b.le q⟩
    · obtain ⟨p, q, r⟩ := b.objs x hx
      exact ⟨p.imp (List.mem_append_right _) (Nat.le_trans a.le), q, r⟩
  · rcases List.mem_append.1 hx with hx | hx
    · rw [b.old _ (a.objs x hx).2.1] at hi
      exact List.mem_append_left _ (a.blk x hx i n hi)
    · exact List.mem_append_right _ (b.blk x hx i n hi)
  · rw [List.map_append, List.pairwise_append]
    refine ⟨?_, b.inj, fun g hg g' hg' => ?_⟩
    · refine List.Pairwise.imp_of_mem (fun {g g'} hg hg' hh => ?_) a.inj
      obtain ⟨x, hx, rfl⟩ := List.mem_map.1 hg
      obtain ⟨y, hy, rfl⟩ := List.mem_map.1 hg'
      refine ⟨hh.1, fun i n n' => ?_⟩
      rw [b.old _ (a.objs x hx).2.1, b.old _ (a.objs y hy).2.1]
      exact hh.2 i n n'
    · obtain ⟨x, hx, rfl⟩ := List.mem_map.1 hg
      obtain ⟨y, hy, rfl⟩ := List.mem_map.1 hg'
      obtain ⟨p1, p2, _⟩ := a.objs x hx
      obtain ⟨q1, q2, _⟩ := b.objs y hy
      refine ⟨?_, fun i n n' e1 e2 => ?_⟩
      · rcases p1 with p1 | p1 <;> rcases q1 with q1 | q1
        · exact hgn.2.2 _ p1 _ q1
        · have := hG1 _ p1
          have := a.le
          omega
        · have := hG2 _ q1
          omega
        · omega
      · rw [b.old _ p2] at e1
        exact hn.2.2 i (a.blk x hx i n e1) i (b.blk y hy i n' e2) rfl
section
variable {P : Program} {F : Nat → Prop} {B : Blk} {w w' : World} {S : St} {a : Act} {N : Nat}
 
theorem FR.lay (hf : FR F B w S a) {G : List Nat} {B' : Blk} {c' : Nat} {hs : List (Key × Nat × AO)} {fp : List Nat} (hl : LaidG G w F B B' S.c c' hs fp) (hG : ∀ g ∈ G, ∀ x ∈ S.H, x.2.1 ≠ g)
    (hfp : ∀ b ∈ fp, ¬ F b ∧ b < w.heap.size ∧ ¬ Own S.H B b) : FR F B' w ⟨S.E, hs ++ S.H, c'⟩ a where
  slots t := (hf.slots t).lift hl.old hl.le
  objs k g o hm := by
    rcases List.mem_append.1 hm with h | h
    · exact (hl.objs _ h).2
    · have := hf.objs k g o h
      exact ⟨Nat.lt_of_lt_of_le this.1 hl.le, this.2.lift hl.old hl.le this.1⟩
  sep b := by
    rintro ⟨k, g, o, n, hm, hb⟩
    rcases List.mem_append.1 hm with h | h
    · have := hfp b (hl.blk _ h b n hb)
      exact ⟨this.1, this.2.1⟩
    · rw [hl.old g (hf.objs k g o h).1] at hb
      exact hf.sep b ⟨k, g, o, n, h, hb⟩
  inj := by
    show ((hs ++ S.H).map fun x => x.2.1).Pairwise _
    rw [List.map_append, List.pairwise_append]
    refine ⟨hl.inj, ?_, fun g hg g' hg' => ?_⟩
    · refine List.Pairwise.imp_of_mem (fun {g g'} hg hg' hh => ?_) hf.inj
      obtain ⟨x, hx, rfl⟩ := List.mem_map.1 hg
      obtain ⟨y, hy, rfl⟩ := List.mem_map.1 hg'
      refine ⟨hh.1, fun i n n' => ?_⟩
      rw [hl.old _ (hf.objs x.1 x.2.1 x.2.2 hx).1, hl.old _ (hf.objs y.1 y.2.1 y.2.2 hy).1]
      exact hh.2 i n n'
    · obtain ⟨x, hx, rfl⟩ := List.mem_map.1 hg
      obtain ⟨y, hy, rfl⟩ := List.mem_map.1 hg'
      have hlt := (hf.objs y.1 y.2.1 y.2.2 hy).1
      refine ⟨?_, fun i n n' e1 e2 => ?_⟩
      · rcases (hl.objs x hx).1 with h | h
        · exact fun e => hG _ h y hy e.symm
        · omega
      · rw [hl.old _ hlt] at e2
        exact (hfp i (hl.blk x hx i n e1)).2.2 ⟨y.1, y.2.1, y.2.2, n', hy, e2⟩
  Flt := hf.Flt
  defers := hf.defers
  pin := Nat.le_trans hf.pin hl.le
 
theorem FR.world {F' : Nat → Prop} (hf : FR F B w S a) (hk : ∀ b, F b ∨ Own S.H B b → w'.heap[b]? = w.heap[b]?) (hF : ∀ b, F b → F' b) (hsep : ∀ b, Own S.H B b → ¬ F' b) (hlt : ∀ b, F' b → b < w'.heap.size) (hsz : w.heap.size ≤ w'.heap.size) : FR F' B w' S a where
  slots t := VR.mono (fun b hb => hk b (.inl hb)) hF (fun _ _ => rfl) (Nat.le_refl _) _ _ (hf.slots t)
  objs k g o hm := by
    have := hf.objs k g o hm
    exact ⟨this.1, OR.mono (fun b hb => hk b (.inl hb)) hF (fun _ _ => rfl) (Nat.le_refl _) this.1 (fun b n hb => hk b (.inr ⟨k, g, o, n, hm, hb⟩)) this.2⟩
  sep b hb := ⟨hsep b hb, Nat.lt_of_lt_of_le (hf.sep b hb).2 hsz⟩
  inj := hf.inj
  Flt := hlt
  defers := hf.defers
  pin := hf.pin
 
def reown1 (c : Nat) : AV → CV → List (Key × Nat × AO) × Nat
  | .ref k g _ _ _, .own e z l => ([(k, g, .row e z l)], c)
  | .addr k g _, .box e l => ((k, g, .box e (interns k 0 c l).1) :: (interns k 0 c l).2.1, (interns k 0 c l).2.2)
  | _, _ => ([], c)
def reown (c : Nat) : List Mode → List AV → List CV → List (Key × Nat × AO) × Nat
  | ms, x :: xs, ys => match ms.headD .frz with
    | .own => ((reown1 c x (ys.headD .gone)).1 ++ (reown (reown1 c x (ys.headD .gone)).2 ms.tail xs ys.tail).1, (reown (reown1 c x (ys.headD .gone)).2 ms.tail xs ys.tail).2)
    | _ => reown c ms.tail xs ys.tail
  | _, [], _ => ([], c)
def genOf : AV → List Nat
  | .ref _ g _ _ _ => [g]
  | .addr _ g _ => [g]
  | _ => []
def gensOf : List Mode → List AV → List Nat
  | ms, x :: xs => match ms.headD .frz with
    | .own => genOf x ++ gensOf ms.tail xs
    | _ => gensOf ms.tail xs
  | _, [] => []
theorem reown1_spec {c : Nat} {x : AV} {y : CV} {v : Value} {fp : List Nat} {n : Nat} {cv : CV} {ks : List Key} (he : ext S.H n x = some (cv, ks)) (hv : VR w F B c x v) {F' : Nat → Prop} (hy : CR w' F' y v fp) (hn : fp.Nodup) :
    ∀ B1 c1, (∀ g, g < c → B1 g = B g) → c ≤ c1 → ∃ B', LaidG (genOf x) w' F' B1 B' c1 (reown1 c1 x y).2 (reown1 c1 x y).1 fp := by
  intro B1 c1 hB1 hc
  have triv : (reown1 c1 x y) = ([], c1) → ∃ B', LaidG (genOf x) w' F' B1 B' c1 (reown1 c1 x y).2 (reown1 c1 x y).1 fp := fun h => by
    rw [h]
    exact ⟨B1, fun _ _ => rfl, Nat.le_refl _, by simp, by simp, by simp⟩
  cases x <;> cases y <;> try exact triv rfl
  case ref.own k g sz off len e z l =>
    simp only [reown1, genOf]
    cases n with
    | zero => simp [ext] at he
    | succ n =>
    simp only [ext] at he
    split at he
    · rename_i g' e' z' l' hob
      split at he
      · rename_i hcc
        obtain ⟨rfl, rfl, rfl, _⟩ := hcc
        simp only [VR] at hv
        obtain ⟨hg, hv⟩ := hv
        rw [← hB1 g' hg] at hv
        simp only [CR] at hy
        refine ⟨B1, fun _ _ => rfl, Nat.le_refl _, fun x hx => ?_, fun x hx b m hb => ?_, by simp⟩
        · simp only [List.mem_singleton] at hx
          subst hx
          refine ⟨.inl (by simp), by show g' < c1; omega, ?_⟩
          simp only [OR]
          split at hv
          · rename_i hB
            obtain ⟨rfl, _⟩ := hv
            rcases hy with ⟨_, rfl, _⟩ | ⟨b, n, cs, fr, h1, _⟩
            · rfl
            · cases h1
          · rename_i b m hB
            obtain ⟨ad, rfl, hcap, had⟩ := hv
            rcases hy with ⟨h1, _⟩ | ⟨b', n', cs, fr, h1, h2, h3, h4, h5, h6, h7, h8, h9⟩
            · cases h1
            · simp only [Value.slice.injEq, Option.some.injEq] at h1
              obtain ⟨rfl, h11, h12⟩ := h1
              rcases had with h | ⟨_, h0⟩
              · simp only [Addr.mk.injEq] at h
                obtain ⟨rfl, _, _⟩ := h
                have : n' = m := by omega
                subst this
                exact ⟨cs, fr, h2, h3, h4, h5, h6, h7, h8⟩
              · omega
        · simp only [List.mem_singleton] at hx
          subst hx
          simp only at hb
          split at hv
          · rename_i hB
            rw [hB] at hb
            cases hb
          · rename_i b1 m1 hB
            rw [hB] at hb
            simp only [Option.some.injEq, Prod.mk.injEq] at hb
            obtain ⟨rfl, rfl⟩ := hb
            obtain ⟨ad, rfl, hcap, had⟩ := hv
            rcases hy with ⟨h1, _⟩ | ⟨b', n', cs, fr, h1, h2, h3, h4, h5, h6, h7, h8, h9⟩
            · cases h1
            · simp only [Value.slice.injEq, Option.some.injEq] at h1
              obtain ⟨rfl, h11, h12⟩ := h1
              rcases had with h | ⟨_, h0⟩
              · simp only [Addr.mk.injEq] at h
                obtain ⟨rfl, _, _⟩ := h
                simp [h9]
              · omega
      · cases he
    · cases he
  case addr.box k g o e l =>
    simp only [reown1, genOf]
    cases n with
    | zero => simp [ext] at he
    | succ n =>
    simp only [ext] at he
    split at he
    · rename_i g' e' l' hob
      split at he
      · rename_i hcc
        obtain ⟨rfl, rfl⟩ := hcc
        simp only [VR] at hv
        obtain ⟨hg, b, m, hB, rfl⟩ := hv
        rw [← hB1 g' hg] at hB
        simp only [CR] at hy
        obtain ⟨b', cs, fr, fp', h1, hh, hu, hcl, hl, rfl⟩ := hy
        simp only [Value.pointer.injEq, Option.some.injEq, Addr.mk.injEq] at h1
        obtain ⟨rfl, _, _⟩ := h1
        simp only [List.nodup_cons] at hn
        obtain ⟨B', hL, hvl, hcc⟩ := interns_spec l k 0 c1 cs.toList fp' B1 hl hn.2
        have hBg : B' g' = some (b, m) := by rw [hL.old g' (by omega), hB]
        refine ⟨B', hL.old, hL.le, fun x hx => ?_, fun x hx i n hi => ?_, ?_⟩
        · rcases List.mem_cons.1 hx with rfl | hx
          · refine ⟨.inl (by simp), by have := hL.le; show g' < _; omega, ?_⟩
            simp only [OR]
            exact ⟨b, m, cs, fr, hBg, hh, hu, hcc hcl, hvl⟩
          · obtain ⟨p, q, r⟩ := hL.objs x hx
            exact ⟨.inr p, q, r⟩
        · rcases List.mem_cons.1 hx with rfl | hx
          · simp only [hBg, Option.some.injEq, Prod.mk.injEq] at hi
            simp [hi.1]
          · exact List.mem_cons_of_mem _ (hL.blk x hx i n hi)
        · simp only [List.map_cons, List.pairwise_cons]
          refine ⟨fun g2 hg2 => ?_, hL.inj⟩
          obtain ⟨x, hx, rfl⟩ := List.mem_map.1 hg2
          refine ⟨by have := (hL.objs x hx).1; omega, fun i n n' e1 e2 => ?_⟩
          rw [hBg] at e1
          simp only [Option.some.injEq, Prod.mk.injEq] at e1
          exact hn.1 (e1.1 ▸ hL.blk x hx i n' e2)
      · cases he
    · cases he
theorem ext_gen {n : Nat} {x : AV} {cv : CV} {ks : List Key} (he : ext S.H n x = some (cv, ks)) : ∀ g ∈ genOf x, ∃ k o, k ∈ ks ∧ objIn S.H k = some (g, o) := by
  intro g hg
  cases x <;> simp only [genOf, List.not_mem_nil, List.mem_singleton] at hg
  case ref k g' sz off len =>
    subst hg
    cases n with
    | zero => simp [ext] at he
    | succ n =>
    simp only [ext] at he
    split at he
    · rename_i hob
      split at he
      · rename_i hc
        simp only [Option.some.injEq, Prod.mk.injEq] at he
        obtain ⟨_, rfl⟩ := he
        exact ⟨k, _, by simp, hc.1 ▸ hob⟩
      · cases he
    · cases he
  case addr k g' c =>
    subst hg
    cases n with
    | zero => simp [ext] at he
    | succ n =>
    simp only [ext] at he
    split at he
    · rename_i hob
      split at he
      · rename_i hc
        split at he
        · simp only [Option.some.injEq, Prod.mk.injEq] at he
          obtain ⟨_, rfl⟩ := he
          exact ⟨k, _, by simp, hc.1 ▸ hob⟩
        · cases he
      · cases he
    · cases he
theorem argsC_gens : ∀ (ms : List Mode) (xs : List AV) (cs : List CV) (kf kr ko : List Key), argsC P S.H ms xs = some (cs, kf, kr, ko) → ∀ g ∈ gensOf ms xs, ∃ k o, k ∈ ko ∧ objIn S.H k = some (g, o)
  | ms, [], cs, kf, kr, ko, h, g, hg => by simp [gensOf] at hg
  | ms, x :: r, cs, kf, kr, ko, h, g, hg => by
    simp only [argsC] at h
    simp only [gensOf] at hg
    split at h
    · rename_i cs0 kf0 kr0 ko0 h0
      have ih := argsC_gens ms.tail r cs0 kf0 kr0 ko0 h0
      split at h
      · rename_i hm
        simp only [hm] at hg
        split at h
        · rename_i c ks hx
          simp only [Option.some.injEq, Prod.mk.injEq] at h
          obtain ⟨rfl, rfl, rfl, rfl⟩ := h
          rcases List.mem_append.1 hg with hg | hg
          · obtain ⟨k, o, h1, h2⟩ := ext_gen hx g hg
            exact ⟨k, o, List.mem_append_left _ h1, h2⟩
          · obtain ⟨k, o, h1, h2⟩ := ih g hg
            exact ⟨k, o, List.mem_append_right _ h1, h2⟩
        · cases h
      · rename_i hm
        simp only [hm] at hg
        split at h
        · simp only [Option.some.injEq, Prod.mk.injEq] at h
          obtain ⟨rfl, rfl, rfl, rfl⟩ := h
          exact ih g hg
        · cases h
      · rename_i hm
        simp only [hm] at hg
        split at h
        · simp only [Option.some.injEq, Prod.mk.injEq] at h
          obtain ⟨rfl, rfl, rfl, rfl⟩ := h
          exact ih g hg
        · cases h
    · cases h
theorem argsC_gensNodup (hf : FR F B w S a) : ∀ (ms : List Mode) (xs : List AV) (cs : List CV) (kf kr ko : List Key), argsC P S.H ms xs = some (cs, kf, kr, ko) → ko.Nodup → (gensOf ms xs).Nodup
  | ms, [], cs, kf, kr, ko, h, hn => by simp [gensOf]
  | ms, x :: r, cs, kf, kr, ko, h, hn => by
    simp only [argsC] at h
    simp only [gensOf]
    split at h
    · rename_i cs0 kf0 kr0 ko0 h0
      have ih := argsC_gensNodup hf ms.tail r cs0 kf0 kr0 ko0 h0
      have ig := argsC_gens ms.tail r cs0 kf0 kr0 ko0 h0
      split at h
      · rename_i hm
        simp only [hm]
        split at h
        · rename_i c ks hx
          simp only [Option.some.injEq, Prod.mk.injEq] at h
          obtain ⟨rfl, rfl, rfl, rfl⟩ := h
          have hn' := List.nodup_append.1 hn
          refine List.nodup_append.2 ⟨?_, ih hn'.2.1, fun g hg g' hg' e => ?_⟩
          · cases x <;> simp [genOf]
          · subst e
            obtain ⟨k, o, h1, h2⟩ := ext_gen hx g hg
            obtain ⟨k', o', h1', h2'⟩ := ig g hg'
            have := same_entry hf.gensNodup (mem_of_objIn h2) (mem_of_objIn h2') rfl
            simp only [Prod.mk.injEq] at this
            exact hn'.2.2 k h1 k' h1' this.1
        · cases h
      · rename_i hm
        simp only [hm]
        split at h
        · simp only [Option.some.injEq, Prod.mk.injEq] at h
          obtain ⟨rfl, rfl, rfl, rfl⟩ := h
          exact ih hn
        · cases h
      · rename_i hm
        simp only [hm]
        split at h
        · simp only [Option.some.injEq, Prod.mk.injEq] at h
          obtain ⟨rfl, rfl, rfl, rfl⟩ := h
          exact ih hn
        · cases h
    · cases h
theorem reown_spec (hf : FR F B w S a) {F' : Nat → Prop} : ∀ (ms : List Mode) (xs : List AV) (cs : List CV) (kf kr ko : List Key) (vs : List Value) (az : List CV) (fp : List Nat), argsC P S.H ms xs = some (cs, kf, kr, ko) → ko.Nodup → VRl w F B S.c xs vs → CRl w' F' az vs fp → fp.Nodup →
    ∀ B1 c1, (∀ g, g < S.c → B1 g = B g) → S.c ≤ c1 → ∃ B' f, LaidG (gensOf ms xs) w' F' B1 B' c1 (reown c1 ms xs az).2 (reown c1 ms xs az).1 f ∧ f.Nodup ∧ ∀ b ∈ f, b ∈ fp
  | ms, [], cs, kf, kr, ko, vs, az, fp, h, hn, hv, hc, hfp, B1, c1, hB, hc1 => by
    have e : reown c1 ms [] az = ([], c1) := rfl
    rw [e]
    exact ⟨B1, [], ⟨fun _ _ => rfl, Nat.le_refl _, by simp, by simp, by simp⟩, by simp, by simp⟩
  | ms, x :: r, cs, kf, kr, ko, vs, [], fp, h, hn, hv, hc, hfp, B1, c1, hB, hc1 => by
    simp only [VRl] at hv
    obtain ⟨v, vs', rfl, _⟩ := hv
    simp only [CRl] at hc
    exact absurd hc.1 (by simp)
  | ms, x :: r, cs, kf, kr, ko, vs, y :: ys, fp, h, hn, hv, hc, hfp, B1, c1, hB, hc1 => by
    have h' := h
    simp only [argsC] at h
    simp only [VRl] at hv
    obtain ⟨v, vs', rfl, hv1, hv2⟩ := hv
    simp only [CRl] at hc
    obtain ⟨v0, vs0, f1, f2, e0, hy, hys, rfl⟩ := hc
    simp only [List.cons.injEq] at e0
    obtain ⟨rfl, rfl⟩ := e0
    have hfn := List.nodup_append.1 hfp
    split at h
    · rename_i cs0 kf0 kr0 ko0 h0
      split at h
      · rename_i hm
        split at h
        · rename_i cc ks hx
          simp only [Option.some.injEq, Prod.mk.injEq] at h
          obtain ⟨rfl, rfl, rfl, rfl⟩ := h
          have hn' := List.nodup_append.1 hn
          have hgn := argsC_gensNodup hf ms (x :: r) _ _ _ _ h' hn
          have hgl : ∀ g ∈ gensOf ms (x :: r), g < S.c := fun g hg => by
            obtain ⟨k, o, _, h2⟩ := argsC_gens ms (x :: r) _ _ _ _ h' g hg
            exact (hf.objs _ _ _ (mem_of_objIn h2)).1
          obtain ⟨B2, hL1⟩ := reown1_spec hx hv1 hy hfn.1 B1 c1 hB hc1
          simp only [reown, hm, gensOf, List.headD_cons, List.tail_cons] at hgn hgl ⊢
          generalize reown1 c1 x y = p at *
          obtain ⟨B3, f, hL2, hfd, hfs⟩ := reown_spec hf ms.tail r cs0 kf0 kr0 ko0 vs' ys f2 h0 hn'.2.1 hv2 hys hfn.2.1 B2 p.2 (fun g hg => by rw [hL1.old g (by omega), hB g hg]) (Nat.le_trans hc1 hL1.le)
          have hnd : (f1 ++ f).Nodup := List.nodup_append.2 ⟨hfn.1, hfd, fun b hb b' hb' => hfn.2.2 b hb b' (hfs b' hb')⟩
          exact ⟨B3, f1 ++ f, hL1.append hL2 (fun g hg => by have := hgl g (List.mem_append_left _ hg); omega) (fun g hg => by have := hgl g (List.mem_append_right _ hg); omega) hgn hnd, hnd, fun b hb => by
            rcases List.mem_append.1 hb with h | h
            · exact List.mem_append_left _ h
            · exact List.mem_append_right _ (hfs b h)⟩
        · cases h
      · rename_i hm
        split at h
        · simp only [Option.some.injEq, Prod.mk.injEq] at h
          obtain ⟨rfl, rfl, rfl, rfl⟩ := h
          obtain ⟨B3, f, hL2, hfd, hfs⟩ := reown_spec hf ms.tail r cs0 kf0 _ ko0 vs' ys f2 h0 hn hv2 hys hfn.2.1 B1 c1 hB hc1
          simp only [reown, hm, gensOf, List.tail_cons]
          exact ⟨B3, f, hL2, hfd, fun b hb => List.mem_append_right _ (hfs b hb)⟩
        · cases h
      · rename_i hm
        split at h
        · simp only [Option.some.injEq, Prod.mk.injEq] at h
          obtain ⟨rfl, rfl, rfl, rfl⟩ := h
          obtain ⟨B3, f, hL2, hfd, hfs⟩ := reown_spec hf ms.tail r cs0 _ kr0 ko0 vs' ys f2 h0 hn hv2 hys hfn.2.1 B1 c1 hB hc1
          simp only [reown, hm, gensOf, List.tail_cons]
          exact ⟨B3, f, hL2, hfd, fun b hb => List.mem_append_right _ (hfs b hb)⟩
        · cases h
    · cases h
end
end Go.Fw
