/- What the proofs of this seat lean on, part 9: a symbolic machine that is shown sound, walks through functions, plain laws. -/
import Derived.Test.YtcmbobdkilcjeaaDoorZ8
namespace Go.Fw
open Go
set_option linter.unusedVariables false
set_option linter.unusedSimpArgs false
mutual
def toDu (P : Program) (H : List (Key × Nat × AO)) : Nat → AV → Option (D × List Key)
  | 0, _ => none
  | n + 1, .d x => some (x, [])
  | n + 1, .nils => some (.sl 0 [], [])
  | n + 1, .ref k g sz off len => match objIn H k with
    | some (g', .row _ z l) => if g' = g ∧ z = sz then some (.sl sz ((l.drop off).take len), [k]) else none
    | _ => none
  | n + 1, .addr k g c => match objIn H k with
    | some (g', .box e l) => if g' = g ∧ c = 0 then match toDlu P H n l with
        | some (xs, ks) => match aggT P e with
          | some true => some (.ptr (.agg xs), k :: ks)
          | some false => match xs with
            | [y] => some (.ptr y, k :: ks)
            | _ => none
          | none => none
        | none => none
      else none
    | _ => none
  | n + 1, .nref k g len => match objIn H k with
    | some (g', .nest _ l) => if g' = g then some (.sl 1 (l.map NE.toD), [k]) else none
    | _ => none
  | n + 1, .agg l => match toDlu P H n l with
    | some (xs, ks) => some (.agg xs, ks)
    | none => none
  | n + 1, .clo fn f c => if cellsOK f && cellsOK c then match toDlu P H n f, toDlu P H n c with
    | some (fs, k1), some (cs, k2) => some (.clo fn fs cs, k1 ++ k2)
    | _, _ => none
    else none
  | n + 1, _ => none
def toDlu (P : Program) (H : List (Key × Nat × AO)) : Nat → List AV → Option (List D × List Key)
  | 0, _ => none
  | n + 1, [] => some ([], [])
  | n + 1, x :: r => match toDu P H n x, toDlu P H n r with
    | some (y, k1), some (ys, k2) => some (y :: ys, k1 ++ k2)
    | _, _ => none
end
mutual
def toDok (H : List (Key × Nat × AO)) : Nat → AV → Prop
  | n + 1, .ref k g sz off len => match objIn H k with
    | some (_, .row _ _ l) => off + len ≤ l.length
    | _ => True
  | n + 1, .addr k g c => match objIn H k with
    | some (_, .box _ l) => toDlok H n l
    | _ => True
  | n + 1, .nref k g len => match objIn H k with
    | some (_, .nest _ l) => len = l.length ∧ noHole l = true
    | _ => True
  | n + 1, .agg l => toDlok H n l
  | n + 1, .clo fn f c => toDlok H n f ∧ toDlok H n c
  | _, _ => True
def toDlok (H : List (Key × Nat × AO)) : Nat → List AV → Prop
  | n + 1, x :: r => toDok H n x ∧ toDlok H n r
  | _, _ => True
end
mutual
theorem toDu_eq (P : Program) (H : List (Key × Nat × AO)) : ∀ (n : Nat) (x : AV), toDok H n x → toDu P H n x = toD P H n x
  | 0, x, _ => by simp [toDu, toD]
  | n + 1, .d x, _ => by simp [toDu, toD]
  | n + 1, .nils, _ => by simp [toDu, toD]
  | n + 1, .ref k g sz off len, h => by
    simp only [toDu, toD]
    simp only [toDok] at h
    cases hob : objIn H k with
    | none => rfl
    | some p =>
      obtain ⟨g', o⟩ := p
      rw [hob] at h
      cases o with
      | row e z l => simp only at h; simp only [h, and_true]
      | box e l => rfl
      | iter s p => rfl
      | map es => rfl
      | miter m s2 t2 l2 u2 => rfl
      | nest e2 l2 => rfl
  | n + 1, .addr k g c, h => by
    simp only [toDu, toD]
    simp only [toDok] at h
    cases hob : objIn H k with
    | none => rfl
    | some p =>
      obtain ⟨g', o⟩ := p
      rw [hob] at h
      cases o with
      | row e z l => rfl
      | box e l => simp only at h; simp only [toDlu_eq P H n _ h]; rfl
      | iter s p => rfl
      | map es => rfl
      | miter m s2 t2 l2 u2 => rfl
      | nest e2 l2 => rfl
  | n + 1, .agg l, h => by
    simp only [toDok] at h
    simp only [toDu, toD, toDlu_eq P H n l h]
    rfl
  | n + 1, .clo fn f c, h => by
    simp only [toDok] at h
    simp only [toDu, toD, toDlu_eq P H n f h.1, toDlu_eq P H n c h.2]
    rfl
  | n + 1, .elt .., _ => by simp [toDu, toD]
  | n + 1, .tup _, _ => by simp [toDu, toD]
  | n + 1, .mp .., _ => by simp [toDu, toD]
  | n + 1, .nref k g len, h => by
    simp only [toDu, toD]
    simp only [toDok] at h
    cases hob : objIn H k with
    | none => rfl
    | some p =>
      obtain ⟨g', o⟩ := p
      rw [hob] at h
      cases o with
      | row e z l => rfl
      | box e l => rfl
      | iter s p => rfl
      | map es => rfl
      | miter m s2 t2 l2 u2 => rfl
      | nest e2 l2 => simp only at h; simp only [h.1, h.2, and_true]
  | n + 1, .sub .., _ => by simp [toDu, toD]
  | n + 1, .selt .., _ => by simp [toDu, toD]
  | n + 1, .dead, _ => by simp [toDu, toD]
  | n + 1, .opt .., _ => by simp [toDu, toD]
theorem toDlu_eq (P : Program) (H : List (Key × Nat × AO)) : ∀ (n : Nat) (l : List AV), toDlok H n l → toDlu P H n l = toDl P H n l
  | 0, l, _ => by simp [toDlu, toDl]
  | n + 1, [], _ => by simp [toDlu, toDl]
  | n + 1, x :: r, h => by
    simp only [toDlok] at h
    simp only [toDlu, toDl, toDu_eq P H n x h.1, toDlu_eq P H n r h.2]
    rfl
end
mutual
def extu (H : List (Key × Nat × AO)) : Nat → AV → Option (CV × List Key)
  | 0, _ => none
  | n + 1, .d x => some (.d x, [])
  | n + 1, .nils => some (.nils, [])
  | n + 1, .ref k g sz off len => match objIn H k with
    | some (g', .row e z l) => if g' = g ∧ z = sz then some (.own e z (l.take len), [k]) else none
    | _ => none
  | n + 1, .addr k g c => match objIn H k with
    | some (g', .box e l) => if g' = g ∧ c = 0 then match extsu H n l with
        | some (xs, ks) => some (.box e xs, k :: ks)
        | none => none
      else none
    | _ => none
  | n + 1, .nref k g len => match objIn H k with
    | some (g', .nest e l) => if g' = g then some (.nest e l, [k]) else none
    | _ => none
  | n + 1, .agg l => match extsu H n l with
    | some (xs, ks) => some (.agg xs, ks)
    | none => none
  | n + 1, .dead => some (.gone, [])
  | n + 1, _ => none
def extsu (H : List (Key × Nat × AO)) : Nat → List AV → Option (List CV × List Key)
  | 0, _ => none
  | n + 1, [] => some ([], [])
  | n + 1, x :: r => match extu H n x, extsu H n r with
    | some (y, k1), some (ys, k2) => some (y :: ys, k1 ++ k2)
    | _, _ => none
end
mutual
def extok (H : List (Key × Nat × AO)) : Nat → AV → Prop
  | n + 1, .ref k g sz off len => match objIn H k with
    | some (_, .row _ _ l) => off = 0 ∧ len ≤ l.length
    | _ => True
  | n + 1, .addr k g c => match objIn H k with
    | some (_, .box _ l) => extsok H n l
    | _ => True
  | n + 1, .nref k g len => match objIn H k with
    | some (_, .nest _ l) => len = l.length
    | _ => True
  | n + 1, .agg l => extsok H n l
  | _, _ => True
def extsok (H : List (Key × Nat × AO)) : Nat → List AV → Prop
  | n + 1, x :: r => extok H n x ∧ extsok H n r
  | _, _ => True
end
mutual
theorem extu_eq (H : List (Key × Nat × AO)) : ∀ (n : Nat) (x : AV), extok H n x → extu H n x = ext H n x
  | 0, x, _ => by simp [extu, ext]
  | n + 1, .d x, _ => by simp [extu, ext]
  | n + 1, .nils, _ => by simp [extu, ext]
  | n + 1, .ref k g sz off len, h => by
    simp only [extu, ext]
    simp only [extok] at h
    cases hob : objIn H k with
    | none => rfl
    | some p =>
      obtain ⟨g', o⟩ := p
      rw [hob] at h
      cases o with
      | row e z l => simp only at h; simp only [h, and_true]
      | box e l => rfl
      | iter s p => rfl
      | map es => rfl
      | miter m s2 t2 l2 u2 => rfl
      | nest e2 l2 => rfl
  | n + 1, .addr k g c, h => by
    simp only [extu, ext]
    simp only [extok] at h
    cases hob : objIn H k with
    | none => rfl
    | some p =>
      obtain ⟨g', o⟩ := p
      rw [hob] at h
      cases o with
      | row e z l => rfl
      | box e l => simp only at h; simp only [extsu_eq H n _ h]; rfl
      | iter s p => rfl
      | map es => rfl
      | miter m s2 t2 l2 u2 => rfl
      | nest e2 l2 => rfl
  | n + 1, .agg l, h => by
    simp only [extok] at h
    simp only [extu, ext, extsu_eq H n l h]
    rfl
  | n + 1, .clo fn f c, _ => by simp [extu, ext]
  | n + 1, .elt .., _ => by simp [extu, ext]
  | n + 1, .tup _, _ => by simp [extu, ext]
  | n + 1, .mp .., _ => by simp [extu, ext]
  | n + 1, .nref k g len, h => by
    simp only [extu, ext]
    simp only [extok] at h
    cases hob : objIn H k with
    | none => rfl
    | some p =>
      obtain ⟨g', o⟩ := p
      rw [hob] at h
      cases o with
      | row e z l => rfl
      | box e l => rfl
      | iter s p => rfl
      | map es => rfl
      | miter m s2 t2 l2 u2 => rfl
      | nest e2 l2 => simp only at h; simp only [h, and_true]
  | n + 1, .sub .., _ => by simp [extu, ext]
  | n + 1, .selt .., _ => by simp [extu, ext]
  | n + 1, .dead, _ => by simp [extu, ext]
  | n + 1, .opt .., _ => by simp [extu, ext]
theorem extsu_eq (H : List (Key × Nat × AO)) : ∀ (n : Nat) (l : List AV), extsok H n l → extsu H n l = exts H n l
  | 0, l, _ => by simp [extsu, exts]
  | n + 1, [], _ => by simp [extsu, exts]
  | n + 1, x :: r, h => by
    simp only [extsok] at h
    simp only [extsu, exts, extu_eq H n x h.1, extsu_eq H n r h.2]
    rfl
end
 
mutual
def frzAu (H : List (Key × Nat × AO)) (ks : List Key) : AV → AV
  | .ref k g sz off len => if k ∈ ks then match objIn H k with
      | some (g', .row _ z l) => if g' = g ∧ z = sz then .d (.sl sz ((l.drop off).take len)) else .ref k g sz off len
      | _ => .ref k g sz off len
    else .ref k g sz off len
  | .agg l => .agg (frzAus H ks l)
  | .tup l => .tup (frzAus H ks l)
  | .clo fn f c => .clo fn (frzAus H ks f) (frzAus H ks c)
  | .opt q x => .opt q (frzAu H ks x)
  | x => x
def frzAus (H : List (Key × Nat × AO)) (ks : List Key) : List AV → List AV
  | [] => []
  | x :: r => frzAu H ks x :: frzAus H ks r
end
def frzEu (H : List (Key × Nat × AO)) (ks : List Key) : List (Nat × AV) → List (Nat × AV)
  | [] => []
  | (t, v) :: r => (t, frzAu H ks v) :: frzEu H ks r
def frzAOu (H : List (Key × Nat × AO)) (ks : List Key) : AO → AO
  | .box e l => .box e (frzAus H ks l)
  | o => o
def frzHu (H : List (Key × Nat × AO)) (ks : List Key) : List (Key × Nat × AO) → List (Key × Nat × AO)
  | [] => []
  | (k, g, o) :: r => bif decide (k ∈ ks) then frzHu H ks r else (k, g, frzAOu H ks o) :: frzHu H ks r
mutual
def frzok1 (H : List (Key × Nat × AO)) (ks : List Key) : AV → Prop
  | .ref k g sz off len => if k ∈ ks then match objIn H k with
      | some (g', .row _ z l) => if g' = g ∧ z = sz then off + len ≤ l.length else True
      | _ => True
    else True
  | .agg l => frzoks H ks l
  | .tup l => frzoks H ks l
  | .clo fn f c => frzoks H ks f ∧ frzoks H ks c
  | .opt q x => frzok1 H ks x
  | x => True
def frzoks (H : List (Key × Nat × AO)) (ks : List Key) : List AV → Prop
  | [] => True
  | x :: r => frzok1 H ks x ∧ frzoks H ks r
end
def frzokE (H : List (Key × Nat × AO)) (ks : List Key) : List (Nat × AV) → Prop
  | [] => True
  | (t, v) :: r => frzok1 H ks v ∧ frzokE H ks r
def frzokO (H : List (Key × Nat × AO)) (ks : List Key) : AO → Prop
  | .box e l => frzoks H ks l
  | o => True
def frzokH (H : List (Key × Nat × AO)) (ks : List Key) : List (Key × Nat × AO) → Prop
  | [] => True
  | (k, g, o) :: r => frzokO H ks o ∧ frzokH H ks r
def frzok (S : St) (ks : List Key) : Prop := match ks with
  | [] => True
  | ks => frzokE S.H ks S.E ∧ frzokH S.H ks S.H
def freezeU (S : St) (ks : List Key) : St := match ks with
  | [] => S
  | ks => match S with
    | ⟨E, H, c⟩ => ⟨frzEu H ks E, frzHu H ks H, c⟩
mutual
theorem frzAu_eq {H : List (Key × Nat × AO)} {ks : List Key} : ∀ {v : AV}, frzok1 H ks v → frzAu H ks v = frzAV H ks v
  | .ref k g sz off len, h => by
    simp only [frzAu, frzAV]
    simp only [frzok1] at h
    by_cases hk : k ∈ ks
    · rw [if_pos hk] at h
      rw [if_pos hk, if_pos hk]
      cases hob : objIn H k with
      | none => rfl
      | some p =>
        obtain ⟨g', o⟩ := p
        rw [hob] at h
        cases o with
        | row e z l =>
          simp only at h ⊢
          by_cases hc : g' = g ∧ z = sz
          · rw [if_pos hc] at h
            rw [if_pos hc, if_pos ⟨hc.1, hc.2, h⟩]
          · rw [if_neg hc, if_neg (fun h' => hc ⟨h'.1, h'.2.1⟩)]
        | box e l => rfl
        | iter s p => rfl
        | map es => rfl
        | miter m s2 t2 l2 u2 => rfl
        | nest e2 l2 => rfl
    · rw [if_neg hk, if_neg hk]
  | .agg l, h => by
    simp only [frzok1] at h
    simp only [frzAu, frzAV, frzAus_eq h]
  | .tup l, h => by
    simp only [frzok1] at h
    simp only [frzAu, frzAV, frzAus_eq h]
  | .clo fn f c, h => by
    simp only [frzok1] at h
    simp only [frzAu, frzAV, frzAus_eq h.1, frzAus_eq h.2]
  | .opt q x, h => by
    simp only [frzok1] at h
    simp only [frzAu, frzAV, frzAu_eq h]
  | .d _, h => rfl
  | .nils, h => rfl
  | .elt .., h => rfl
  | .addr .., h => rfl
  | .mp .., h => rfl
  | .nref .., h => rfl
  | .sub .., h => rfl
  | .selt .., h => rfl
  | .dead, h => rfl
theorem frzAus_eq {H : List (Key × Nat × AO)} {ks : List Key} : ∀ {l : List AV}, frzoks H ks l → frzAus H ks l = frzAVs H ks l
  | [], _ => rfl
  | x :: r, h => by
    simp only [frzoks] at h
    simp only [frzAus, frzAVs, frzAu_eq h.1, frzAus_eq h.2]
end
theorem frzEu_eq {H : List (Key × Nat × AO)} {ks : List Key} : ∀ {E : List (Nat × AV)}, frzokE H ks E → frzEu H ks E = E.map fun p => (p.1, frzAV H ks p.2)
  | [], _ => rfl
  | (t, v) :: r, h => by
    simp only [frzEu, List.map_cons, frzAu_eq h.1, frzEu_eq h.2]
theorem frzHu_eq {H : List (Key × Nat × AO)} {ks : List Key} : ∀ {L : List (Key × Nat × AO)}, frzokH H ks L → frzHu H ks L = frzH H ks L
  | [], _ => rfl
  | (k, g, o) :: r, h => by
    simp only [frzHu, frzH, frzHu_eq h.2]
    cases o with
    | box e l => simp only [frzAOu, frzAO, frzAus_eq h.1]
    | _ => rfl
theorem freezeU_eq {S : St} {ks : List Key} (h : frzok S ks) : freezeU S ks = S.freeze ks := by
  cases ks with
  | nil => rfl
  | cons k r =>
    cases S with
    | mk E H c =>
      have h' : frzokE H (k :: r) E ∧ frzokH H (k :: r) H := h
      simp only [freezeU, St.freeze, frzEu_eq h'.1, frzHu_eq h'.2]
 
mutual
def toDokK (H : List (Key × Nat × AO)) : Nat → AV → Prop → Prop
  | n + 1, .ref k g sz off len, K => (match objIn H k with
    | some (_, .row _ _ l) => off + len ≤ l.length ∧ K
    | _ => K)
  | n + 1, .addr k g c, K => (match objIn H k with
    | some (_, .box _ l) => toDlokK H n l K
    | _ => K)
  | n + 1, .nref k g len, K => (match objIn H k with
    | some (_, .nest _ l) => len = l.length ∧ noHole l = true ∧ K
    | _ => K)
  | n + 1, .agg l, K => toDlokK H n l K
  | n + 1, .clo fn f c, K => toDlokK H n f (toDlokK H n c K)
  | _, _, K => K
def toDlokK (H : List (Key × Nat × AO)) : Nat → List AV → Prop → Prop
  | n + 1, x :: r, K => toDokK H n x (toDlokK H n r K)
  | _, _, K => K
end
mutual
theorem toDokK_imp (H : List (Key × Nat × AO)) : ∀ (n : Nat) (x : AV) (K : Prop), toDokK H n x K → toDok H n x ∧ K
  | 0, x, K, h => by cases x <;> exact ⟨trivial, h⟩
  | n + 1, .d x, K, h => ⟨trivial, h⟩
  | n + 1, .nils, K, h => ⟨trivial, h⟩
  | n + 1, .ref k g sz off len, K, h => by
    simp only [toDokK] at h
    simp only [toDok]
    cases hob : objIn H k with
    | none => rw [hob] at h; exact ⟨trivial, h⟩
    | some p =>
      obtain ⟨g', o⟩ := p
      rw [hob] at h
      cases o with
      | row e z l => exact h
      | box e l => exact ⟨trivial, h⟩
      | iter s p => exact ⟨trivial, h⟩
      | map es => exact ⟨trivial, h⟩
      | miter m s2 t2 l2 u2 => exact ⟨trivial, h⟩
      | nest e2 l2 => exact ⟨trivial, h⟩
  | n + 1, .addr k g c, K, h => by
    simp only [toDokK] at h
    simp only [toDok]
    cases hob : objIn H k with
    | none => rw [hob] at h; exact ⟨trivial, h⟩
    | some p =>
      obtain ⟨g', o⟩ := p
      rw [hob] at h
      cases o with
      | row e z l => exact ⟨trivial, h⟩
      | box e l => exact toDlokK_imp H n l K h
      | iter s p => exact ⟨trivial, h⟩
      | map es => exact ⟨trivial, h⟩
      | miter m s2 t2 l2 u2 => exact ⟨trivial, h⟩
      | nest e2 l2 => exact ⟨trivial, h⟩
  | n + 1, .agg l, K, h => by
    simp only [toDokK] at h
    simp only [toDok]
    exact toDlokK_imp H n l K h
  | n + 1, .clo fn f c, K, h => by
    simp only [toDokK] at h
    simp only [toDok]
    obtain ⟨h1, h2⟩ := toDlokK_imp H n f _ h
    obtain ⟨h3, h4⟩ := toDlokK_imp H n c K h2
    exact ⟨⟨h1, h3⟩, h4⟩
  | n + 1, .elt .., K, h => ⟨trivial, h⟩
  | n + 1, .tup _, K, h => ⟨trivial, h⟩
  | n + 1, .mp .., K, h => ⟨trivial, h⟩
  | n + 1, .nref k g len, K, h => by
    simp only [toDokK] at h
    simp only [toDok]
    cases hob : objIn H k with
    | none => rw [hob] at h; exact ⟨trivial, h⟩
    | some p =>
      obtain ⟨g', o⟩ := p
      rw [hob] at h
      cases o with
      | row e z l => exact ⟨trivial, h⟩
      | box e l => exact ⟨trivial, h⟩
      | iter s p => exact ⟨trivial, h⟩
      | map es => exact ⟨trivial, h⟩
      | miter m s2 t2 l2 u2 => exact ⟨trivial, h⟩
      | nest e2 l2 => exact ⟨⟨h.1, h.2.1⟩, h.2.2⟩
  | n + 1, .sub .., K, h => ⟨trivial, h⟩
  | n + 1, .selt .., K, h => ⟨trivial, h⟩
  | n + 1, .dead, K, h => ⟨trivial, h⟩
  | n + 1, .opt .., K, h => ⟨trivial, h⟩
theorem toDlokK_imp (H : List (Key × Nat × AO)) : ∀ (n : Nat) (l : List AV) (K : Prop), toDlokK H n l K → toDlok H n l ∧ K
  | 0, l, K, h => by cases l <;> exact ⟨trivial, h⟩
  | n + 1, [], K, h => ⟨trivial, h⟩
  | n + 1, x :: r, K, h => by
    simp only [toDlokK] at h
    obtain ⟨h1, h2⟩ := toDokK_imp H n x _ h
    obtain ⟨h3, h4⟩ := toDlokK_imp H n r K h2
    exact ⟨by simp only [toDlok]; exact ⟨h1, h3⟩, h4⟩
end
mutual
def extokK (H : List (Key × Nat × AO)) : Nat → AV → Prop → Prop
  | n + 1, .ref k g sz off len, K => (match objIn H k with
    | some (_, .row _ _ l) => (off = 0 ∧ len ≤ l.length) ∧ K
    | _ => K)
  | n + 1, .addr k g c, K => (match objIn H k with
    | some (_, .box _ l) => extsokK H n l K
    | _ => K)
  | n + 1, .nref k g len, K => (match objIn H k with
    | some (_, .nest _ l) => len = l.length ∧ K
    | _ => K)
  | n + 1, .agg l, K => extsokK H n l K
  | _, _, K => K
def extsokK (H : List (Key × Nat × AO)) : Nat → List AV → Prop → Prop
  | n + 1, x :: r, K => extokK H n x (extsokK H n r K)
  | _, _, K => K
end
mutual
theorem extokK_imp (H : List (Key × Nat × AO)) : ∀ (n : Nat) (x : AV) (K : Prop), extokK H n x K → extok H n x ∧ K
  | 0, x, K, h => by cases x <;> exact ⟨trivial, h⟩
  | n + 1, .d x, K, h => ⟨trivial, h⟩
  | n + 1, .nils, K, h => ⟨trivial, h⟩
  | n + 1, .ref k g sz off len, K, h => by
    simp only [extokK] at h
    simp only [extok]
    cases hob : objIn H k with
    | none => rw [hob] at h; exact ⟨trivial, h⟩
    | some p =>
      obtain ⟨g', o⟩ := p
      rw [hob] at h
      cases o with
      | row e z l => exact h
      | box e l => exact ⟨trivial, h⟩
      | iter s p => exact ⟨trivial, h⟩
      | map es => exact ⟨trivial, h⟩
      | miter m s2 t2 l2 u2 => exact ⟨trivial, h⟩
      | nest e2 l2 => exact ⟨trivial, h⟩
  | n + 1, .addr k g c, K, h => by
    simp only [extokK] at h
    simp only [extok]
    cases hob : objIn H k with
    | none => rw [hob] at h; exact ⟨trivial, h⟩
    | some p =>
      obtain ⟨g', o⟩ := p
      rw [hob] at h
      cases o with
      | row e z l => exact ⟨trivial, h⟩
      | box e l => exact extsokK_imp H n l K h
      | iter s p => exact ⟨trivial, h⟩
      | map es => exact ⟨trivial, h⟩
      | miter m s2 t2 l2 u2 => exact ⟨trivial, h⟩
      | nest e2 l2 => exact ⟨trivial, h⟩
  | n + 1, .agg l, K, h => by
    simp only [extokK] at h
    simp only [extok]
    exact extsokK_imp H n l K h
  | n + 1, .clo fn f c, K, h => ⟨trivial, h⟩
  | n + 1, .elt .., K, h => ⟨trivial, h⟩
  | n + 1, .tup _, K, h => ⟨trivial, h⟩
  | n + 1, .mp .., K, h => ⟨trivial, h⟩
  | n + 1, .nref k g len, K, h => by
    simp only [extokK] at h
    simp only [extok]
    cases hob : objIn H k with
    | none => rw [hob] at h; exact ⟨trivial, h⟩
    | some p =>
      obtain ⟨g', o⟩ := p
      rw [hob] at h
      cases o with
      | row e z l => exact ⟨trivial, h⟩
      | box e l => exact ⟨trivial, h⟩
      | iter s p => exact ⟨trivial, h⟩
      | map es => exact ⟨trivial, h⟩
      | miter m s2 t2 l2 u2 => exact ⟨trivial, h⟩
      | nest e2 l2 => exact h
  | n + 1, .sub .., K, h => ⟨trivial, h⟩
  | n + 1, .selt .., K, h => ⟨trivial, h⟩
  | n + 1, .dead, K, h => ⟨trivial, h⟩
  | n + 1, .opt .., K, h => ⟨trivial, h⟩
theorem extsokK_imp (H : List (Key × Nat × AO)) : ∀ (n : Nat) (l : List AV) (K : Prop), extsokK H n l K → extsok H n l ∧ K
  | 0, l, K, h => by cases l <;> exact ⟨trivial, h⟩
  | n + 1, [], K, h => ⟨trivial, h⟩
  | n + 1, x :: r, K, h => by
    simp only [extsokK] at h
    obtain ⟨h1, h2⟩ := extokK_imp H n x _ h
    obtain ⟨h3, h4⟩ := extsokK_imp H n r K h2
    exact ⟨by simp only [extsok]; exact ⟨h1, h3⟩, h4⟩
end
mutual
def frzok1K (H : List (Key × Nat × AO)) (ks : List Key) : AV → Prop → Prop
  | .ref k g sz off len, K => if k ∈ ks then (match objIn H k with
      | some (g', .row _ z l) => if g' = g ∧ z = sz then off + len ≤ l.length ∧ K else K
      | _ => K)
    else K
  | .agg l, K => frzoksK H ks l K
  | .tup l, K => frzoksK H ks l K
  | .clo fn f c, K => frzoksK H ks f (frzoksK H ks c K)
  | .opt q x, K => frzok1K H ks x K
  | x, K => K
def frzoksK (H : List (Key × Nat × AO)) (ks : List Key) : List AV → Prop → Prop
  | [], K => K
  | x :: r, K => frzok1K H ks x (frzoksK H ks r K)
end
def frzokEK (H : List (Key × Nat × AO)) (ks : List Key) : List (Nat × AV) → Prop → Prop
  | [], K => K
  | (t, v) :: r, K => frzok1K H ks v (frzokEK H ks r K)
def frzokHK (H : List (Key × Nat × AO)) (ks : List Key) : List (Key × Nat × AO) → Prop → Prop
  | [], K => K
  | (k, g, .box e l) :: r, K => frzoksK H ks l (frzokHK H ks r K)
  | (k, g, o) :: r, K => frzokHK H ks r K
def frzokK (S : St) (ks : List Key) (K : Prop) : Prop := match ks with
  | [] => K
  | ks => frzokEK S.H ks S.E (frzokHK S.H ks S.H K)
mutual
theorem frzok1K_imp {H : List (Key × Nat × AO)} {ks : List Key} : ∀ {v : AV} {K : Prop}, frzok1K H ks v K → frzok1 H ks v ∧ K
  | .ref k g sz off len, K, h => by
    simp only [frzok1K] at h
    simp only [frzok1]
    by_cases hk : k ∈ ks
    · rw [if_pos hk] at h ⊢
      cases hob : objIn H k with
      | none => rw [hob] at h; exact ⟨trivial, h⟩
      | some p =>
        obtain ⟨g', o⟩ := p
        rw [hob] at h
        cases o with
        | row e z l =>
          simp only at h ⊢
          by_cases hc : g' = g ∧ z = sz
          · rw [if_pos hc] at h ⊢; exact h
          · rw [if_neg hc] at h ⊢; exact ⟨trivial, h⟩
        | box e l => exact ⟨trivial, h⟩
        | iter s p => exact ⟨trivial, h⟩
        | map es => exact ⟨trivial, h⟩
        | miter m s2 t2 l2 u2 => exact ⟨trivial, h⟩
        | nest e2 l2 => exact ⟨trivial, h⟩
    · rw [if_neg hk] at h ⊢
      exact ⟨trivial, h⟩
  | .agg l, K, h => by
    simp only [frzok1K] at h
    simp only [frzok1]
    exact frzoksK_imp h
  | .tup l, K, h => by
    simp only [frzok1K] at h
    simp only [frzok1]
    exact frzoksK_imp h
  | .clo fn f c, K, h => by
    simp only [frzok1K] at h
    simp only [frzok1]
    obtain ⟨h1, h2⟩ := frzoksK_imp h
    obtain ⟨h3, h4⟩ := frzoksK_imp h2
    exact ⟨⟨h1, h3⟩, h4⟩
  | .opt q x, K, h => by
    simp only [frzok1K] at h
    simp only [frzok1]
    exact frzok1K_imp h
  | .d _, K, h => ⟨trivial, h⟩
  | .nils, K, h => ⟨trivial, h⟩
  | .elt .., K, h => ⟨trivial, h⟩
  | .addr .., K, h => ⟨trivial, h⟩
  | .mp .., K, h => ⟨trivial, h⟩
  | .nref .., K, h => ⟨trivial, h⟩
  | .sub .., K, h => ⟨trivial, h⟩
  | .selt .., K, h => ⟨trivial, h⟩
  | .dead, K, h => ⟨trivial, h⟩
theorem frzoksK_imp {H : List (Key × Nat × AO)} {ks : List Key} : ∀ {l : List AV} {K : Prop}, frzoksK H ks l K → frzoks H ks l ∧ K
  | [], K, h => ⟨trivial, h⟩
  | x :: r, K, h => by
    simp only [frzoksK] at h
    simp only [frzoks]
    obtain ⟨h1, h2⟩ := frzok1K_imp h
    obtain ⟨h3, h4⟩ := frzoksK_imp h2
    exact ⟨⟨h1, h3⟩, h4⟩
end
theorem frzokEK_imp {H : List (Key × Nat × AO)} {ks : List Key} : ∀ {E : List (Nat × AV)} {K : Prop}, frzokEK H ks E K → frzokE H ks E ∧ K
  | [], K, h => ⟨trivial, h⟩
  | (t, v) :: r, K, h => by
    obtain ⟨h1, h2⟩ := frzok1K_imp h
    obtain ⟨h3, h4⟩ := frzokEK_imp h2
    exact ⟨⟨h1, h3⟩, h4⟩
theorem frzokHK_imp {H : List (Key × Nat × AO)} {ks : List Key} : ∀ {L : List (Key × Nat × AO)} {K : Prop}, frzokHK H ks L K → frzokH H ks L ∧ K
  | [], K, h => ⟨trivial, h⟩
  | (k, g, .box e l) :: r, K, h => by
    simp only [frzokHK] at h
    obtain ⟨h1, h2⟩ := frzoksK_imp h
    obtain ⟨h3, h4⟩ := frzokHK_imp h2
    exact ⟨⟨h1, h3⟩, h4⟩
  | (k, g, .row ..) :: r, K, h => ⟨⟨trivial, (frzokHK_imp (L := r) (K := K) h).1⟩, (frzokHK_imp (L := r) (K := K) h).2⟩
  | (k, g, .iter ..) :: r, K, h => ⟨⟨trivial, (frzokHK_imp (L := r) (K := K) h).1⟩, (frzokHK_imp (L := r) (K := K) h).2⟩
  | (k, g, .map ..) :: r, K, h => ⟨⟨trivial, (frzokHK_imp (L := r) (K := K) h).1⟩, (frzokHK_imp (L := r) (K := K) h).2⟩
  | (k, g, .miter ..) :: r, K, h => ⟨⟨trivial, (frzokHK_imp (L := r) (K := K) h).1⟩, (frzokHK_imp (L := r) (K := K) h).2⟩
  | (k, g, .nest ..) :: r, K, h => ⟨⟨trivial, (frzokHK_imp (L := r) (K := K) h).1⟩, (frzokHK_imp (L := r) (K := K) h).2⟩
theorem frzokK_imp {S : St} {ks : List Key} {K : Prop} (h : frzokK S ks K) : frzok S ks ∧ K := by
  cases ks with
  | nil => exact ⟨trivial, h⟩
  | cons k r =>
    obtain ⟨h1, h2⟩ := frzokEK_imp h
    obtain ⟨h3, h4⟩ := frzokHK_imp h2
    exact ⟨⟨h1, h3⟩, h4⟩
 
def apBu (H : List (Key × Nat × AO)) (e sz : Nat) : AV → Option (List D × Option Key)
  | .nils => some ([], none)
  | .ref k g z off len => match objIn H k with
    | some (g', .row e' z' l) => if g' = g ∧ z' = sz ∧ z = sz ∧ e' = e then some (l, some k) else none
    | _ => none
  | _ => none
def apBok (H : List (Key × Nat × AO)) : AV → Prop
  | .ref k g z off len => match objIn H k with
    | some (_, .row _ _ l) => off = 0 ∧ len = l.length
    | _ => True
  | _ => True
def apNu (P : Program) (H : List (Key × Nat × AO)) (e sz : Nat) : AV → Option (List D)
  | .nils => some []
  | .d (.sl z l) => if z = sz then some l else none
  | .ref k g z off len => match objIn H k with
    | some (g', .row _ z' l) => if g' = g ∧ z' = sz ∧ z = sz then some ((l.drop off).take len) else none
    | _ => none
  | .d (.str s) => if sz = 1 then some (s.data.toList.map byteD) else none
  | _ => none
def apNok (H : List (Key × Nat × AO)) : AV → Prop
  | .ref k g z off len => match objIn H k with
    | some (_, .row _ _ l) => off + len ≤ l.length
    | _ => True
  | _ => True
theorem apBu_eq {H : List (Key × Nat × AO)} {e sz : Nat} {x : AV} (h : apBok H x) : apBu H e sz x = apBase H e sz x := by
  cases x <;> try rfl
  case ref k g z off len =>
    simp only [apBu, apBase]
    simp only [apBok] at h
    cases hob : objIn H k with
    | none => rfl
    | some p =>
      obtain ⟨g', o⟩ := p
      rw [hob] at h
      cases o with
      | row e z l => simp only at h; simp only [h, true_and]
      | box e l => rfl
      | iter s p => rfl
      | map es => rfl
      | miter m s2 t2 l2 u2 => rfl
      | nest e2 l2 => rfl
theorem apNu_eq {P : Program} {H : List (Key × Nat × AO)} {e sz : Nat} {x : AV} (h : apNok H x) : apNu P H e sz x = apNew P H e sz x := by
  cases x <;> try rfl
  case d x => cases x <;> rfl
  case ref k g z off len =>
    simp only [apNu, apNew]
    simp only [apNok] at h
    cases hob : objIn H k with
    | none => rfl
    | some p =>
      obtain ⟨g', o⟩ := p
      rw [hob] at h
      cases o with
      | row e z l => simp only at h; simp only [h, and_true]
      | box e l => rfl
      | iter s p => rfl
      | map es => rfl
      | miter m s2 t2 l2 u2 => rfl
      | nest e2 l2 => rfl
def apBokK (H : List (Key × Nat × AO)) (x : AV) (K : Prop) : Prop := match x with
  | .ref k g z off len => match objIn H k with
    | some (_, .row _ _ l) => (off = 0 ∧ len = l.length) ∧ K
    | _ => K
  | _ => K
def apNokK (H : List (Key × Nat × AO)) (x : AV) (K : Prop) : Prop := match x with
  | .ref k g z off len => match objIn H k with
    | some (_, .row _ _ l) => off + len ≤ l.length ∧ K
    | _ => K
  | _ => K
theorem apBokK_imp {H : List (Key × Nat × AO)} {x : AV} {K : Prop} (h : apBokK H x K) : apBok H x ∧ K := by
  cases x <;> try exact ⟨trivial, h⟩
  case ref k g sz off len =>
    simp only [apBokK] at h
    simp only [apBok]
    cases hob : objIn H k with
    | none => rw [hob] at h; exact ⟨trivial, h⟩
    | some p =>
      obtain ⟨g', o⟩ := p
      rw [hob] at h
      cases o with
      | row e z l => exact h
      | box e l => exact ⟨trivial, h⟩
      | iter s p => exact ⟨trivial, h⟩
      | map es => exact ⟨trivial, h⟩
      | miter m s2 t2 l2 u2 => exact ⟨trivial, h⟩
      | nest e2 l2 => exact ⟨trivial, h⟩
theorem apNokK_imp {H : List (Key × Nat × AO)} {x : AV} {K : Prop} (h : apNokK H x K) : apNok H x ∧ K := by
  cases x <;> try exact ⟨trivial, h⟩
  case ref k g sz off len =>
    simp only [apNokK] at h
    simp only [apNok]
    cases hob : objIn H k with
    | none => rw [hob] at h; exact ⟨trivial, h⟩
    | some p =>
      obtain ⟨g', o⟩ := p
      rw [hob] at h
      cases o with
      | row e z l => exact h
      | box e l => exact ⟨trivial, h⟩
      | iter s p => exact ⟨trivial, h⟩
      | map es => exact ⟨trivial, h⟩
      | miter m s2 t2 l2 u2 => exact ⟨trivial, h⟩
      | nest e2 l2 => exact ⟨trivial, h⟩
def strOrSl (x : Shape) (K : Prop) : Prop := match x with
  | .slice => K
  | .str => K
  | _ => False
theorem strOrSl_imp {x : Shape} {K : Prop} (h : strOrSl x K) : (x = .slice ∨ x = .str) ∧ K := by
  cases x <;> first | exact ⟨.inl rfl, h⟩ | exact ⟨.inr rfl, h⟩ | exact h.elim
def apU (P : Program) (ats : Array TypeId) (x y : AV) (d : Nat) (S : St) (K : St → Prop) : Prop := match ats.toList with
  | [t, t'] => match elemI P t with
    | some (e, sz, _) => (zeroI P e).map List.length = some sz ∧ strOrSl (shapeT P t') (Nat.ble 1 (P.bytesOf e) = true ∧ apBokK S.H x (apNokK S.H y (
        match apBu S.H e sz x, apNu P S.H e sz y with
        | some (l, k), some ys => (l.length + ys.length) * P.bytesOf e ≤ 140737488355328 ∧
            ∀ r, l ++ ys = r → K { E := putIn S.E d (.ref [d] S.c sz 0 r.length), H := ([d], S.c, .row e sz r) :: dropKey [d] (rmKey k S.H), c := S.c + 1 }
        | _, _ => False)))
    | none => False
  | _ => False
theorem apU_imp {P : Program} {ats : Array TypeId} {x y : AV} {d : Nat} {S : St} {K : St → Prop} (h : apU P ats x y d S K) : appendV P ats x y d S K := by
  unfold apU at h
  unfold appendV
  split at h
  · rename_i t t' hats
    simp only [hats]
    split at h
    · rename_i e sz b hei
      simp only [hei]
      obtain ⟨h1, h⟩ := h
      obtain ⟨h2, h3, h⟩ := strOrSl_imp h
      obtain ⟨h4, h⟩ := apBokK_imp h
      obtain ⟨h5, h6⟩ := apNokK_imp h
      rw [apBu_eq h4, apNu_eq h5] at h6
      refine ⟨h1, h2, Nat.le_of_ble_eq_true h3, ?_⟩
      split at h6
      · rename_i l k ys h7 h8
        have h9 := h6.2 _ rfl
        simp only [List.length_append] at h9
        simp only [h7, h8]
        exact ⟨h6.1, h9⟩
      · exact h6.elim
    · exact h.elim
  · exact h.elim
def storeU (P : Program) (nv : Nat) (t : TypeId) (p x : AV) (S : St) (K : St → Prop) : Prop := match p with
  | .elt k g z j o => match varI P t with
    | some (sz, b) => match objIn S.H k with
      | some (g', .row e z' l) => g' = g ∧ z' = z ∧ j < l.length ∧ toDokK S.H 60 x (match toDu P S.H 60 x with
          | some (y, []) => y.isAgg = b ∧ y.ncells = sz ∧
              ((o = 0 ∧ z = sz ∧ ∀ r, l.set j y = r → K { S with H := setO S.H k (.row e z r) }) ∨
               (∀ u, l.getD j default = u → match u with
                | .agg fs => o + sz ≤ fs.length ∧ ∀ r, l.set j (.agg (dset fs o y.cells)) = r → K { S with H := setO S.H k (.row e z r) }
                | _ => False))
          | _ => False)
      | _ => False
    | none => False
  | p => storeV P nv t p x S K
theorem storeU_imp {P : Program} {nv : Nat} {t : TypeId} {p x : AV} {S : St} {K : St → Prop} (h : storeU P nv t p x S K) : storeV P nv t p x S K := by
  cases p <;> try exact h
  case elt k g z j o =>
    simp only [storeU] at h
    unfold storeV
    cases hv : varI P t with
    | none => rw [hv] at h; exact h.elim
    | some q =>
      obtain ⟨sz, b⟩ := q
      rw [hv] at h
      simp only at h ⊢
      cases hob : objIn S.H k with
      | none => rw [hob] at h; exact h.elim
      | some p =>
        obtain ⟨g', o'⟩ := p
        rw [hob] at h
        cases o' with
        | row e z' l =>
          simp only at h ⊢
          obtain ⟨h1, h2, h3, h4⟩ := h
          obtain ⟨h4, h5⟩ := toDokK_imp _ _ _ _ h4
          rw [toDu_eq P S.H 60 x h4] at h5
          refine ⟨h1, h2, h3, ?_⟩
          split at h5
          · rename_i y hy
            simp only [hy]
            obtain ⟨a1, a2, a3⟩ := h5
            refine ⟨a1, a2, ?_⟩
            rcases a3 with ⟨b1, b2, b3⟩ | b3
            · exact .inl ⟨b1, b2, b3 _ rfl⟩
            · right
              have b4 := b3 _ rfl
              split at b4
              · rename_i fs hfs
                simp only [hfs]
                exact ⟨b4.1, b4.2 _ rfl⟩
              · exact b4.elim
          · exact h5.elim
        | box e l => exact h.elim
        | iter s p => exact h.elim
        | map es => exact h.elim
        | miter m s2 t2 l2 u2 => exact h.elim
        | nest e2 l2 => exact h.elim
def apWU (P : Program) (ats : Array TypeId) (x y : AV) (d : Nat) (S : St) (K : St → Prop) : Prop := match x, y with
  | .nils, .d (.int .i64 n) => appendZ P ats n d S K
  | x, .nref k g l => appendN P ats x (.nref k g l) d S K
  | .sub k g j z len, y => appendS P ats k g j z len y d S K
  | x, y => apU P ats x y d S K
theorem apWU_imp {P : Program} {ats : Array TypeId} {x y : AV} {d : Nat} {S : St} {K : St → Prop} (h : apWU P ats x y d S K) : appW P ats x y d S K := by
  unfold apWU at h
  unfold appW
  split at h
  · exact h
  · cases x <;> exact h
  · rename_i h2
    cases y <;> first | exact h | exact (h2 _ _ _ rfl).elim
  · rename_i h3 h2 h1
    split
    · exact (h1 _ rfl rfl).elim
    · exact (h2 _ _ _ rfl).elim
    · exact (h3 _ _ _ _ _ rfl).elim
    · exact apU_imp h
def storeWU (P : Program) (nv : Nat) (t : TypeId) (p x : AV) (S : St) (K : St → Prop) : Prop := match p with
  | .selt k g j z i => storeN P t (.selt k g j z i) x S K
  | .elt k g z j o => bif isNestAt S.H k then storeE P t k g z j o x S K else storeU P nv t (.elt k g z j o) x S K
  | p => storeU P nv t p x S K
theorem storeWU_imp {P : Program} {nv : Nat} {t : TypeId} {p x : AV} {S : St} {K : St → Prop} (h : storeWU P nv t p x S K) : storeW P nv t p x S K := by
  cases p
  case elt k g z j o =>
    simp only [storeWU] at h
    simp only [storeW]
    cases hq : isNestAt S.H k with
    | true => rw [hq] at h; exact h
    | false => rw [hq] at h; simp only [cond_false] at h ⊢; exact storeU_imp h
  all_goals (simp only [storeWU] at h; simp only [storeW]; first | exact h | exact storeU_imp h | fail)
def effU (P : Program) (nv : Nat) (o : Oper) (S : St) (K : St → Prop) : Prop := match o.op with
  | .buildSlice t len parts => match o.dst, elemI P t with
    | some d, some (e, sz, b) => (zeroI P e).isSome = true ∧ seqParts 0 (parts.toList.map (·.1)) = true ∧ len = parts.size ∧ len * sz ≤ 16777216 ∧ match nestOf P e S (parts.toList.map fun p => S.ev p.2) with
        | some (ne, k, q) => sz = 1 ∧ q ∧ K { E := putIn S.E d (.nref [d] S.c 1), H := ([d], S.c, .nest e [ne]) :: dropKey [d] (rmKey k S.H), c := S.c + 1 }
        | none => toDlokK S.H 60 (parts.toList.map fun p => S.ev p.2) (
        match toDlu P S.H 60 (parts.toList.map fun p => S.ev p.2) with
        | some (xs, ks) => frzokK S ks (elemsP b sz xs ∧ K ((freezeU S ks).newObj d (.row e sz xs) (.ref [d] S.c sz 0 len)))
        | none => False)
    | _, _ => False
  | .store t p x => o.dst = none ∧ storeWU P nv t (S.ev p) (S.ev x) S K
  | .call c => match c.callee, o.dst with
    | .builtin .append, some d => match c.args.toList with
      | [x, y] => apWU P c.argTypes (S.ev x) (S.ev y) d S K
      | _ => False
    | _, _ => False
  | _ => effV P nv o S K
theorem effU_imp {P : Program} {nv : Nat} {o : Oper} {S : St} {K : St → Prop} (h : effU P nv o S K) : effV P nv o S K := by
  unfold effU at h
  split at h
  · rename_i t len parts hop
    unfold effV
    simp only [hop]
    split at h
    · rename_i d e sz b hd hei
      simp only [hd, hei]
      obtain ⟨h1, h2, h3, h4, h5⟩ := h
      refine ⟨h1, h2, h3, h4, ?_⟩
      cases hn : nestOf P e S (parts.toList.map fun p => S.ev p.2) with
      | some q => rw [hn] at h5; exact h5
      | none =>
      rw [hn] at h5
      simp only at h5 ⊢
      obtain ⟨h5, h6⟩ := toDlokK_imp _ _ _ _ h5
      rw [toDlu_eq P S.H 60 _ h5] at h6
      split at h6
      · rename_i xs ks hxs
        obtain ⟨k1, k2, k3⟩ := frzokK_imp h6
        rw [freezeU_eq k1] at k3
        simp only [hxs]
        exact ⟨k2, k3⟩
      · exact h6.elim
    · exact h.elim
  · rename_i t p x hop
    unfold effV
    simp only [hop]
    exact ⟨h.1, storeWU_imp h.2⟩
  · rename_i c hop
    unfold effV
    simp only [hop]
    split at h
    · rename_i d hc hd
      simp only [hc, hd]
      split at h
      · rename_i x y hxy
        simp only [hxy]
        exact apWU_imp h
      · exact h.elim
    · exact h.elim
  · exact h
 
def argsU (P : Program) (H : List (Key × Nat × AO)) : List Mode → List AV → Option (List CV × List Key × List Key × List Key)
  | _, [] => some ([], [], [], [])
  | ms, x :: r => match argsU P H ms.tail r with
    | some (cs, kf, kr, ko) => match ms.headD .frz with
      | .own => match extu H 60 x with
        | some (c, ks) => some (c :: cs, kf, kr, ks ++ ko)
        | none => none
      | .ro => match toDu P H 60 x with
        | some (y, ks) => some (.d y :: cs, kf, ks ++ kr, ko)
        | none => none
      | .frz => match toDu P H 60 x with
        | some (y, ks) => some (.d y :: cs, ks ++ kf, kr, ko)
        | none => none
    | none => none
def argsok (H : List (Key × Nat × AO)) : List Mode → List AV → Prop
  | _, [] => True
  | ms, x :: r => (match ms.headD .frz with
      | .own => extok H 60 x
      | _ => toDok H 60 x) ∧ argsok H ms.tail r
def argsokK (H : List (Key × Nat × AO)) : List Mode → List AV → Prop → Prop
  | _, [], K => K
  | ms, x :: r, K => match ms.headD .frz with
      | .own => extokK H 60 x (argsokK H ms.tail r K)
      | .ro => toDokK H 60 x (argsokK H ms.tail r K)
      | .frz => toDokK H 60 x (argsokK H ms.tail r K)
theorem argsokK_imp (H : List (Key × Nat × AO)) : ∀ (ms : List Mode) (xs : List AV) (K : Prop), argsokK H ms xs K → argsok H ms xs ∧ K
  | _, [], K, h => ⟨trivial, h⟩
  | ms, x :: r, K, h => by
    simp only [argsokK] at h
    simp only [argsok]
    cases hm : ms.headD .frz with
    | own =>
      rw [hm] at h
      obtain ⟨h1, h2⟩ := extokK_imp H 60 x _ h
      obtain ⟨h3, h4⟩ := argsokK_imp H ms.tail r K h2
      exact ⟨⟨h1, h3⟩, h4⟩
    | ro =>
      rw [hm] at h
      obtain ⟨h1, h2⟩ := toDokK_imp H 60 x _ h
      obtain ⟨h3, h4⟩ := argsokK_imp H ms.tail r K h2
      exact ⟨⟨h1, h3⟩, h4⟩
    | frz =>
      rw [hm] at h
      obtain ⟨h1, h2⟩ := toDokK_imp H 60 x _ h
      obtain ⟨h3, h4⟩ := argsokK_imp H ms.tail r K h2
      exact ⟨⟨h1, h3⟩, h4⟩
theorem argsU_eq (P : Program) (H : List (Key × Nat × AO)) : ∀ (ms : List Mode) (xs : List AV), argsok H ms xs → argsU P H ms xs = argsC P H ms xs
  | _, [], _ => rfl
  | ms, x :: r, h => by
    simp only [argsok] at h
    simp only [argsU, argsC, argsU_eq P H ms.tail r h.2]
    cases argsC P H ms.tail r with
    | none => rfl
    | some q =>
      obtain ⟨cs, kf, kr, ko⟩ := q
      cases hm : ms.headD .frz with
      | own => rw [hm] at h; simp only [extu_eq H 60 x h.1]; rfl
      | ro => rw [hm] at h; simp only [toDu_eq P H 60 x h.1]; rfl
      | frz => rw [hm] at h; simp only [toDu_eq P H 60 x h.1]; rfl
def afterU (S : St) (dst : Option Nat) (ms : List Mode) (xs : List AV) (kf ko : List Key) (rs az : List CV) : St :=
  St.put ⟨(freezeU S kf).E, (resO dst S.c rs).2.1 ++ ((reown (resO dst S.c rs).2.2 ms xs az).1 ++ dropO dst (rmKeys ko (freezeU S kf).H)), (reown (resO dst S.c rs).2.2 ms xs az).2⟩ dst (resO dst S.c rs).1
def callU (P : Program) (T : Tab) (o : Oper) (S : St) (K : St → Prop) : Prop := match o.op with
  | .call c => match calleeV S c with
    | some (g, xs) => argsokK S.H (T.M g) xs (match argsU P S.H (T.M g) xs with
      | some (cs, kf, kr, ko) => frzokK S kf (bif okK ko kf kr then T.C g cs fun rs az => bif kr.isEmpty || (flats rs && flats az) then K (afterU S o.dst (T.M g) xs kf ko rs az) else False
          else False)
      | none => False)
    | none => False
  | _ => False
theorem callU_imp {P : Program} {T : Tab} {o : Oper} {S : St} {K : St → Prop} (h : callU P T o S K) : callV P T o S K := by
  unfold callU at h
  unfold callV
  split at h
  · rename_i c hop
    split at h
    · rename_i g xs hc
      obtain ⟨h1, h2⟩ := argsokK_imp _ _ _ _ h
      rw [argsU_eq P S.H _ _ h1] at h2
      simp only [hop, hc]
      split at h2
      · rename_i cs kf kr ko ha
        simp only [ha]
        obtain ⟨k1, k2⟩ := frzokK_imp h2
        have e : ∀ rs az, afterU S o.dst (T.M g) xs kf ko rs az = afterCall S o.dst (T.M g) xs kf ko rs az := fun rs az => by
          unfold afterU afterCall
          rw [freezeU_eq k1]
        simp only [e] at k2
        exact k2
      · exact h2.elim
    · exact h.elim
  · exact h.elim
end Go.Fw
