/- What the proofs of this seat lean on, part 1: a symbolic machine that is shown sound, walks through functions, plain laws. -/
import Derived.Calls
import Derived.Orders
import Derived.Tactics
import Derived.Below
namespace Go.Fw
open Go
 
inductive D where
  | int (k : IntKind) (n : Int)
  | bool (b : Bool)
  | str (s : ByteArray)
  | nilp
  | nilm
  | nilf
  | sl (sz : Nat) (l : List D)
  | ptr (x : D)
  | agg (l : List D)
  | clo (fn : Fn) (first cap : List D)
 
def Cells (w : World) (ad : Addr) (vs : List Value) : Prop := ∀ i v, vs[i]? = some v → w.cell? (ad.add i) = some v
def D.isAgg : D → Bool
  | .agg _ => true
  | _ => false
mutual
 
def DRc (w : World) (F : Nat → Prop) : D → List Value → Prop
  | .int k n, vs => vs = [.int k n]
  | .bool b, vs => vs = [.bool b]
  | .str s, vs => vs = [.string s]
  | .nilp, vs => vs = [.pointer none]
  | .nilm, vs => vs = [.map none]
  | .nilf, vs => vs = [.nilFunc]
  | .sl sz l, vs => ∃ A c, vs = [.slice A l.length c] ∧ l.length ≤ c ∧ c ≤ maxLen ∧ (l = [] ∨ ∃ ad cs, A = some ad ∧ F ad.block ∧ Cells w ad cs ∧ DRr w F sz l cs)
  | .ptr x, vs => ∃ ad cs, vs = [.pointer (some ad)] ∧ F ad.block ∧ Cells w ad cs ∧ DRc w F x cs
  | .agg l, vs => DRl w F l vs
  | .clo fn f c, vs => ∃ fv cv, vs = [.func fn fv cv] ∧ DRl w F f fv.toList ∧ DRl w F c cv.toList
 
def DRl (w : World) (F : Nat → Prop) : List D → List Value → Prop
  | [], vs => vs = []
  | x :: r, vs => ∃ v vs', vs = v :: vs' ∧ x.isAgg = false ∧ DRc w F x [v] ∧ DRl w F r vs'
 
def DRr (w : World) (F : Nat → Prop) (sz : Nat) : List D → List Value → Prop
  | [], vs => vs = []
  | x :: r, vs => ∃ a b, vs = a ++ b ∧ a.length = sz ∧ DRc w F x a ∧ DRr w F sz r b
end
theorem Cells.keep {w w' : World} {F : Nat → Prop} (hk : ∀ b, F b → w'.heap[b]? = w.heap[b]?) {ad : Addr} {vs : List Value} (hF : F ad.block) (h : Cells w ad vs) : Cells w' ad vs := by
  intro i v hv
  have hb : (ad.add i).block = ad.block := by unfold Addr.add; split <;> rfl
  rw [World.cell?_of_block (w := w) (by rw [hb]; exact hk _ hF)]
  exact h i v hv
mutual
theorem DRc.mono {w w' : World} {F F' : Nat → Prop} (hk : ∀ b, F b → w'.heap[b]? = w.heap[b]?) (hF : ∀ b, F b → F' b) : ∀ (x : D) (vs : List Value), DRc w F x vs → DRc w' F' x vs
  | .int _ _, _, h => by simpa [DRc] using h
  | .bool _, _, h => by simpa [DRc] using h
  | .str _, _, h => by simpa [DRc] using h
  | .nilp, _, h => by simpa [DRc] using h
  | .nilm, _, h => by simpa [DRc] using h
  | .nilf, _, h => by simpa [DRc] using h
  | .sl sz l, vs, h => by
    simp only [DRc] at h ⊢
    obtain ⟨A, c, h1, h2, h3, h4⟩ := h
    refine ⟨A, c, h1, h2, h3, ?_⟩
    rcases h4 with h4 | ⟨ad, cs, e, hf, hc, hr⟩
    · exact .inl h4
    · exact .inr ⟨ad, cs, e, hF _ hf, hc.keep hk hf, DRr.mono hk hF sz l cs hr⟩
  | .ptr x, vs, h => by
    simp only [DRc] at h ⊢
    obtain ⟨ad, cs, e, hf, hc, hr⟩ := h
    exact ⟨ad, cs, e, hF _ hf, hc.keep hk hf, DRc.mono hk hF x cs hr⟩
  | .agg l, vs, h => by
    simp only [DRc] at h ⊢
    exact DRl.mono hk hF l vs h
  | .clo fn f c, vs, h => by
    simp only [DRc] at h ⊢
    obtain ⟨fv, cv, e, h1, h2⟩ := h
    exact ⟨fv, cv, e, DRl.mono hk hF f _ h1, DRl.mono hk hF c _ h2⟩
theorem DRl.mono {w w' : World} {F F' : Nat → Prop} (hk : ∀ b, F b → w'.heap[b]? = w.heap[b]?) (hF : ∀ b, F b → F' b) : ∀ (l : List D) (vs : List Value), DRl w F l vs → DRl w' F' l vs
  | [], _, h => by simpa [DRl] using h
  | x :: r, vs, h => by
    simp only [DRl] at h ⊢
    obtain ⟨v, vs', e, h0, h1, h2⟩ := h
    exact ⟨v, vs', e, h0, DRc.mono hk hF x _ h1, DRl.mono hk hF r _ h2⟩
theorem DRr.mono {w w' : World} {F F' : Nat → Prop} (hk : ∀ b, F b → w'.heap[b]? = w.heap[b]?) (hF : ∀ b, F b → F' b) (sz : Nat) : ∀ (l : List D) (vs : List Value), DRr w F sz l vs → DRr w' F' sz l vs
  | [], _, h => by simpa [DRr] using h
  | x :: r, vs, h => by
    simp only [DRr] at h ⊢
    obtain ⟨a, b, e, hl, h1, h2⟩ := h
    exact ⟨a, b, e, hl, DRc.mono hk hF x _ h1, DRr.mono hk hF sz r _ h2⟩
end
 
def D.flat : D → Bool
  | .sl _ l => l.isEmpty
  | .ptr _ => false
  | .clo _ f c => f.isEmpty && c.isEmpty
  | .agg l => flats l
  | _ => true
where flats : List D → Bool
  | [] => true
  | x :: r => x.flat && flats r
end Go.Fw
