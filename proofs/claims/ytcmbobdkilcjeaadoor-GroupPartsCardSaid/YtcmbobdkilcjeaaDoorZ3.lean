/- What the proofs of this seat lean on, part 3: a symbolic machine that is shown sound, walks through functions, plain laws. -/
import Derived.Test.YtcmbobdkilcjeaaDoorZ2
import Derived.Laws.Slices
import Derived.WalkKit
import Derived.Laws.Strings
import Derived.Laws.StructEq
import Derived.Laws.Cover3
import Derived.Laws.Pointers
namespace Go.Fw
open Go
set_option linter.unusedVariables false
set_option linter.unusedSimpArgs false
 
def aggT (P : Program) (t : TypeId) : Option Bool := match P.underlying t with
  | some (.struct _) | some (.array _ _) => some true
  | some _ => some false
  | none => none
 
def fieldI (P : Program) (s : TypeId) (f : Nat) : Option (Nat × Nat × Bool) := match P.underlying s with
  | some (.struct fs) => match fs[f]? with
    | some fd => match P.info? fd.type, aggT P fd.type with
      | some i, some b => if 0 < i.size ∧ (b = true ∨ i.size = 1) then some (fd.offset, i.size, b) else none
      | _, _ => none
    | none => none
  | _ => none
 
def elemI (P : Program) (t : TypeId) : Option (Nat × Nat × Bool) := match P.underlying t with
  | some (.slice e) => match P.info? e, aggT P e with
    | some i, some b => if 0 < i.size ∧ (b = true ∨ i.size = 1) then some (e, i.size, b) else none
    | _, _ => none
  | _ => none
inductive Shape where
  | str | int (k : IntKind) | bool | slice | other
  deriving DecidableEq
def shapeT (P : Program) (t : TypeId) : Shape := match P.underlying t with
  | some .string => .str
  | some (.int k) => .int k
  | some .bool => .bool
  | some (.slice _) => .slice
  | _ => .other
theorem fieldI_spec {P : Program} {s f off sz : Nat} {b : Bool} (h : fieldI P s f = some (off, sz, b)) :
    ∃ fs fd i, P.underlying s = some (.struct fs) ∧ fs[f]? = some fd ∧ fd.offset = off ∧ P.info? fd.type = some i ∧ i.size = sz ∧ 0 < sz ∧ aggT P fd.type = some b ∧ (b = false → sz = 1) := by
  unfold fieldI at h
  split at h
  · rename_i fs hu
    split at h
    · rename_i fd hfd
      split at h
      · rename_i i b' hi hb
        split at h
        · simp only [Option.some.injEq, Prod.mk.injEq] at h
          rename_i hc
          obtain ⟨rfl, rfl, rfl⟩ := h
          exact ⟨fs, fd, i, hu, hfd, rfl, hi, rfl, hc.1, hb, fun h => by rcases hc.2 with h' | h' <;> simp_all⟩
        · cases h
      · cases h
    · cases h
  · cases h
theorem elemI_spec {P : Program} {t e sz : Nat} {b : Bool} (h : elemI P t = some (e, sz, b)) :
    ∃ i, P.underlying t = some (.slice e) ∧ P.info? e = some i ∧ i.size = sz ∧ 0 < sz ∧ aggT P e = some b ∧ (b = false → sz = 1) := by
  unfold elemI at h
  split at h
  · rename_i e' hu
    split at h
    · rename_i i b' hi hb
      split at h
      · simp only [Option.some.injEq, Prod.mk.injEq] at h
        rename_i hc
        obtain ⟨rfl, rfl, rfl⟩ := h
        exact ⟨i, hu, hi, rfl, hc.1, hb, fun h => by rcases hc.2 with h' | h' <;> simp_all⟩
      · cases h
    · cases h
  · cases h
theorem shapeT_str {P : Program} {t : TypeId} (h : shapeT P t = .str) : P.underlying t = some .string := by
  unfold shapeT at h; split at h <;> first | assumption | cases h
theorem shapeT_int {P : Program} {t : TypeId} {k : IntKind} (h : shapeT P t = .int k) : P.underlying t = some (.int k) := by
  unfold shapeT at h; split at h <;> first | (cases h; assumption) | cases h
theorem shapeT_slice {P : Program} {t : TypeId} (h : shapeT P t = .slice) : ∃ e, P.underlying t = some (.slice e) := by
  unfold shapeT at h; split at h <;> first | (cases h; exact ⟨_, by assumption⟩) | cases h
 
def cAV : Value → AV
  | .int k n => .d (.int k n)
  | .bool b => .d (.bool b)
  | .string s => .d (.str s)
  | .pointer none => .d .nilp
  | .map none => .d .nilm
  | .nilFunc => .d .nilf
  | .slice none 0 0 => .nils
  | _ => .dead
def St.ev (S : St) : Operand → AV
  | .tmp t => getIn S.E t
  | .const v => cAV v
  | .func f => .d (.clo (.func f) [] [])
  | .global _ => .dead
theorem cAV_VR (w : World) (F : Nat → Prop) (B : Blk) (c : Nat) (v : Value) : VR w F B c (cAV v) v := by
  unfold cAV
  split <;> simp [VR, DRv, DRc]
theorem ev_VR {F : Nat → Prop} {B : Blk} {w : World} {S : St} {a : Act} (h : FR F B w S a) (x : Operand) : VR w F B S.c (S.ev x) (a.eval x) := by
  cases x with
  | tmp t => exact h.slots t
  | const v => exact cAV_VR ..
  | func f => simp [St.ev, Act.eval, VR, DRv, DRc, DRl]
  | global g => simp [St.ev, VR]
def St.put (S : St) (dst : Option Tmp) (v : AV) : St := match dst with
  | some t => { S with E := putIn S.E t v }
  | none => S
def dstOK (N : Nat) (dst : Option Tmp) : Bool := match dst with
  | some t => t < N
  | none => true
theorem FR.put {F : Nat → Prop} {B : Blk} {w : World} {S : St} {a : Act} (h : FR F B w S a) {N : Nat} (hN : a.tmps.size = N) {dst : Option Tmp} (hd : dstOK N dst = true) {av : AV} {v : Value} (hv : VR w F B S.c av v) : FR F B w (S.put dst av) (a.put dst v) := by
  cases dst with
  | none => exact h
  | some t =>
    have hd' : t < a.tmps.size := by rw [hN]; exact of_decide_eq_true hd
    refine ⟨fun s => ?_, h.objs, h.sep, h.inj, h.own1, h.Flt, h.defers, h.pin⟩
    simp only [St.put, getIn_putIn, Act.put]
    by_cases hs : s = t
    · subst hs
      simp only [if_true, Array.getD_eq_getD_getElem?, Array.getElem?_setIfInBounds_self_of_lt hd', Option.getD_some]
      exact hv
    · rw [if_neg hs]
      have := h.slots s
      simp only [Array.getD_eq_getD_getElem?] at this ⊢
      rw [Array.getElem?_setIfInBounds_ne (by omega)]
      exact this
theorem Act.put_size (a : Act) (dst : Option Tmp) (v : Value) : (a.put dst v).tmps.size = a.tmps.size := by cases dst <;> simp [Act.put]
 
def slt (a b : ByteArray) : Bool := Op.bytesLess a.data.toList b.data.toList
def bitI (op : BinOp) (k : IntKind) (x y : Int) : Int :=
  let a := BitVec.ofInt k.bits x
  let b := BitVec.ofInt k.bits y
  k.wrap (match op with | .and => a &&& b | .or => a ||| b | .xor => a ^^^ b | _ => a &&& ~~~b).toNat
def in64 (n : Int) : Prop := -9223372036854775808 ≤ n ∧ n ≤ 9223372036854775807
 
def arI (k : IntKind) (n : Int) (K : AV → Prop) : Prop := match k with
  | .i64 => (in64 n ∧ K (.d (.int .i64 n))) ∨ K (.d (.int .i64 (IntKind.i64.wrap n)))
  | .i8 => K (.d (.int .i8 (IntKind.i8.wrap n)))
  | .i16 => K (.d (.int .i16 (IntKind.i16.wrap n)))
  | .i32 => K (.d (.int .i32 (IntKind.i32.wrap n)))
  | .u8 => K (.d (.int .u8 (IntKind.u8.wrap n)))
  | .u16 => K (.d (.int .u16 (IntKind.u16.wrap n)))
  | .u32 => K (.d (.int .u32 (IntKind.u32.wrap n)))
  | .u64 => K (.d (.int .u64 (IntKind.u64.wrap n)))
theorem wrap_id {n : Int} (h1 : -9223372036854775808 ≤ n) (h2 : n ≤ 9223372036854775807) : IntKind.i64.wrap n = n := by
  simp [IntKind.wrap, IntKind.bits, IntKind.signed]
  omega
theorem arI_imp {k : IntKind} {n : Int} {K : AV → Prop} (h : arI k n K) : K (.d (.int k (k.wrap n))) := by
  cases k <;> simp only [arI] at h <;> try exact h
  rcases h with h | h
  · rw [wrap_id h.1.1 h.1.2]; exact h.2
  · exact h
def intBin (op : BinOp) (k : IntKind) (a b : Int) (K : AV → Prop) : Prop := match op with
  | .add => arI k (a + b) K
  | .sub => arI k (a - b) K
  | .mul => arI k (a * b) K
  | .quo => decide (b = 0) = false ∧ ∀ m, a.tdiv b = m → arI k m K
  | .rem => decide (b = 0) = false ∧ ∀ m, a.tmod b = m → K (.d (.int k m))
  | .and => K (.d (.int k (bitI .and k a b)))
  | .or => K (.d (.int k (bitI .or k a b)))
  | .xor => K (.d (.int k (bitI .xor k a b)))
  | .andNot => K (.d (.int k (bitI .andNot k a b)))
  | .eql => K (.d (.bool (decide (a = b))))
  | .neq => K (.d (.bool (!decide (a = b))))
  | .lss => K (.d (.bool (decide (a < b))))
  | .leq => K (.d (.bool (decide (a ≤ b))))
  | .gtr => K (.d (.bool (decide (b < a))))
  | .geq => K (.d (.bool (decide (b ≤ a))))
  | _ => False
def strBin (op : BinOp) (a b : ByteArray) (K : AV → Prop) : Prop := match op with
  | .add => a.size + b.size ≤ 9223372036854775807 ∧ K (.d (.str (a ++ b)))
  | .eql => K (.d (.bool (decide (a = b))))
  | .neq => K (.d (.bool (!decide (a = b))))
  | .lss => K (.d (.bool (slt a b)))
  | .leq => K (.d (.bool (slt a b || decide (a = b))))
  | .gtr => K (.d (.bool (!(slt a b || decide (a = b)))))
  | .geq => K (.d (.bool (!slt a b)))
  | _ => False
def boolBin (op : BinOp) (a b : Bool) (K : AV → Prop) : Prop := match op with
  | .eql => K (.d (.bool (a == b)))
  | .neq => K (.d (.bool (!(a == b))))
  | _ => False
def shlI (k : IntKind) (a : Int) (n : Nat) : Int := k.wrap (a * 2 ^ (min n k.bits))
def shrI (k : IntKind) (a : Int) (n : Nat) : Int := a.fdiv (2 ^ (min n k.bits))
theorem shr_lt {k : IntKind} {a : Int} {n : Nat} (h : n ≤ k.bits) : shrI k a n = a / 2 ^ n := by
  have h1 : (0 : Int) ≤ 2 ^ n := Int.le_of_lt (Int.pow_pos (by decide))
  rw [shrI, Nat.min_eq_left h, Int.fdiv_eq_ediv_of_nonneg _ h1]
theorem shr_i64 {a : Int} {n : Nat} (h : n ≤ 64) : shrI .i64 a n = a / 2 ^ n := shr_lt h
theorem shr_u64 {a : Int} {n : Nat} (h : n ≤ 64) : shrI .u64 a n = a / 2 ^ n := shr_lt h
theorem shr_u32 {a : Int} {n : Nat} (h : n ≤ 32) : shrI .u32 a n = a / 2 ^ n := shr_lt h
theorem shl_lt {k : IntKind} {a : Int} {n : Nat} (h : n ≤ k.bits) : shlI k a n = k.wrap (a * 2 ^ n) := by rw [shlI, Nat.min_eq_left h]
theorem shl_i64 {a : Int} {n : Nat} (h : n ≤ 64) : shlI .i64 a n = IntKind.i64.wrap (a * 2 ^ n) := shl_lt h
theorem shl_u64 {a : Int} {n : Nat} (h : n ≤ 64) : shlI .u64 a n = IntKind.u64.wrap (a * 2 ^ n) := shl_lt h
theorem wrap_u64 {n : Int} (h1 : 0 ≤ n) (h2 : n < 18446744073709551616) : IntKind.u64.wrap n = n := by
  simp [IntKind.wrap, IntKind.bits, IntKind.signed]
  omega
theorem wrap_u32 {n : Int} (h1 : 0 ≤ n) (h2 : n < 4294967296) : IntKind.u32.wrap n = n := by
  simp [IntKind.wrap, IntKind.bits, IntKind.signed]
  omega
theorem toList_data (s : ByteArray) : s.toList = s.data.toList := ByteArray.toList_eq s
theorem toList_beq (a b : ByteArray) : (a.toList == b.toList) = decide (a = b) := by
  rw [toList_data, toList_data]
  by_cases h : a = b
  · subst h; simp
  · rw [decide_eq_false h]
    refine beq_eq_false_iff_ne.2 fun e => h ?_
    cases a; cases b
    simp only [ByteArray.mk.injEq]
    exact Array.ext' e
 
def valD : D → Value
  | .int k n => .int k n
  | .bool b => .bool b
  | .str s => .string s
  | _ => undef
def D.scalar : D → Bool
  | .int _ _ | .bool _ | .str _ => true
  | _ => false
theorem valD_VR {w : World} {F : Nat → Prop} {B : Blk} {c : Nat} {x : D} (h : x.scalar = true) : VR w F B c (.d x) (valD x) := by
  cases x <;> simp [D.scalar] at h <;> simp [VR, DRv, DRc, valD]
theorem val_of_scalar {w : World} {F : Nat → Prop} {B : Blk} {c : Nat} {x : D} {v : Value} (h : x.scalar = true) (hv : VR w F B c (.d x) v) : v = valD x := by
  cases x <;> simp [D.scalar] at h <;> simpa [VR, DRv, DRc, valD] using hv
 
def eq1 (P : Program) (t : TypeId) (x y : D) (K : Bool → Prop) : Prop := match shapeT P t, x, y with
  | .int _, .int k a, .int k' b => k = k' ∧ K (decide (a = b))
  | .bool, .bool a, .bool b => K (a == b)
  | .str, .str a, .str b => K (decide (a = b))
  | _, _, _ => False
def eqFs (P : Program) (i : Nat) : List Field → List D → List D → (Bool → Prop) → Prop
  | [], [], [], K => K true
  | [f], [x], [y], K => Nat.beq f.offset i = true ∧ (f.name == "_") = false ∧ eq1 P f.type x y K
  | f :: fs, x :: l, y :: l', K => Nat.beq f.offset i = true ∧ (f.name == "_") = false ∧ eq1 P f.type x y fun b => eqFs P (i + 1) fs l l' fun r => K (b && r)
  | _, _, _, _ => False
def eqlV (P : Program) (t : TypeId) (x y : AV) (K : Bool → Prop) : Prop := match P.underlying t with
  | some (.slice _) => match x, y with
    | .d (.sl _ l), .nils => ∀ b : Bool, (b = true → l = []) → K b
    | .ref _ _ _ _ len, .nils => ∀ b : Bool, (b = true → len = 0) → K b
    | .nils, .nils => K true
    | _, _ => False
  | some (.pointer _) => match x, y with
    | .d (.ptr _), .d .nilp => K false
    | .addr .., .d .nilp => K false
    | .d .nilp, .d .nilp => K true
    | _, _ => False
  | some (.struct fs) => match x, y with
    | .d (.agg l), .d (.agg l') => P.stoodInHeld t = false ∧ P.eqGuardType P.depth t = false ∧ eqFs P 0 fs.toList l l' K
    | _, _ => False
  | _ => False
def cmpV (P : Program) (op : BinOp) (t : TypeId) (x y : AV) (K : AV → Prop) : Prop := match op with
  | .eql => eqlV P t x y fun b => K (.d (.bool b))
  | .neq => eqlV P t x y fun b => K (.d (.bool (!b)))
  | _ => False
theorem run_part1 {P : Program} {t : TypeId} (ht : shapeT P t ≠ .other ∧ shapeT P t ≠ .slice) {cs : Array Value} {off : Nat} {v : Value} (hv : cs[off]? = some v) (W : World) : (part t cs off).run P W = .ok v W := by
  have hag : (isAgg t).run P W = .ok false W := by
    unfold shapeT at ht
    unfold isAgg
    split at ht <;> first | (rename_i hu; simp [run_underlying hu]) | (exact absurd rfl ht.1) | (exact absurd rfl ht.2)
  simp [part, hag, hv]
theorem eq1_run {P : Program} {t : TypeId} {x y : D} {K : Bool → Prop} (h : eq1 P t x y K) : shapeT P t ≠ .other ∧ shapeT P t ≠ .slice ∧ x.scalar = true ∧ y.scalar = true ∧ ∃ b, (∀ d W, (Op.equalIn (d + 1) t (valD x) (valD y)).run P W = .ok b W) ∧ K b := by
  unfold eq1 at h
  split at h
  · rename_i k0 k a k' b hs
    obtain ⟨rfl, h⟩ := h
    refine ⟨by rw [hs]; simp, by rw [hs]; simp, rfl, rfl, _, fun d W => ?_, h⟩
    rw [valD, valD, run_equalIn_int W d t k k0 a b (by unfold shapeT at hs; split at hs <;> first | (cases hs; assumption) | cases hs)]
    rfl
  · rename_i a b hs
    refine ⟨by rw [hs]; simp, by rw [hs]; simp, rfl, rfl, _, fun d W => ?_, h⟩
    exact run_equalIn_bool' W d t a b (by unfold shapeT at hs; split at hs <;> first | assumption | cases hs)
  · rename_i a b hs
    refine ⟨by rw [hs]; simp, by rw [hs]; simp, rfl, rfl, _, fun d W => ?_, h⟩
    rw [valD, valD, run_equalIn_string W d t a b (shapeT_str hs)]
    congr 1
    exact toList_beq a b
  · exact h.elim
theorem eqFs_run {P : Program} {w : World} {F : Nat → Prop} : ∀ (fs : List Field) (i : Nat) (l l' : List D) (K : Bool → Prop) (xs ys : Array Value), DRl w F l (xs.toList.drop i) → DRl w F l' (ys.toList.drop i) → eqFs P i fs l l' K →
    ∃ b, (∀ d W, (Op.eqFields (d + 1) xs ys fs).run P W = .ok b W) ∧ K b
  | [], i, l, l', K, xs, ys, hx, hy, h => by
    cases l <;> cases l' <;> simp only [eqFs] at h
    exact ⟨true, fun d W => by simp [Op.eqFields], h⟩
  | f :: fs, i, [], l', K, xs, ys, hx, hy, h => by cases fs <;> simp [eqFs] at h
  | f :: fs, i, x :: l, [], K, xs, ys, hx, hy, h => by cases fs <;> cases l <;> simp [eqFs] at h
  | f :: fs, i, x :: l, y :: l', K, xs, ys, hx, hy, h => by
    simp only [DRl] at hx hy
    obtain ⟨v, vs, e1, n1, d1, r1⟩ := hx
    obtain ⟨u, us, e2, n2, d2, r2⟩ := hy
    have hv : xs[i]? = some v := by
      have := congrArg (fun l => l[0]?) e1
      simpa using this
    have hu : ys[i]? = some u := by
      have := congrArg (fun l => l[0]?) e2
      simpa using this
    have t1 : vs = xs.toList.drop (i + 1) := by
      have := congrArg List.tail e1
      simpa [List.tail_drop] using this.symm
    have t2 : us = ys.toList.drop (i + 1) := by
      have := congrArg List.tail e2
      simpa [List.tail_drop] using this.symm
    have val : ∀ {z : D} {v : Value}, z.scalar = true → DRc w F z [v] → v = valD z := fun {z v} hz hd => by
      cases z <;> simp [D.scalar] at hz <;> simpa [DRc, valD] using hd
    have main : Nat.beq f.offset i = true ∧ (f.name == "_") = false ∧ eq1 P f.type x y (fun b => ∃ c, (∀ d W, (Op.eqFields (d + 1) xs ys fs).run P W = .ok c W) ∧ K (b && c)) := by
      cases fs with
      | nil => cases l with
        | nil => cases l' with
          | nil =>
            simp only [eqFs] at h
            refine ⟨h.1, h.2.1, ?_⟩
            have h3 := h.2.2
            unfold eq1 at h3 ⊢
            split at h3
            · exact ⟨h3.1, true, fun d W => by simp [Op.eqFields], by simpa using h3.2⟩
            · exact ⟨true, fun d W => by simp [Op.eqFields], by simpa using h3⟩
            · exact ⟨true, fun d W => by simp [Op.eqFields], by simpa using h3⟩
            · exact h3.elim
          | cons y' l' => simp only [eqFs] at h; have := h.2.2; unfold eq1 at this; split at this <;> first | exact this.2.elim | exact this.elim
        | cons x' l => simp only [eqFs] at h; have := h.2.2; unfold eq1 at this; split at this <;> first | exact this.2.elim | exact this.elim
      | cons g fs =>
        simp only [eqFs] at h
        refine ⟨h.1, h.2.1, ?_⟩
        have h3 := h.2.2
        unfold eq1 at h3 ⊢
        split at h3
        · refine ⟨h3.1, ?_⟩
          obtain ⟨c, k1, k2⟩ := eqFs_run (g :: fs) (i + 1) l l' _ xs ys (t1 ▸ r1) (t2 ▸ r2) h3.2
          exact ⟨c, k1, k2⟩
        · obtain ⟨c, k1, k2⟩ := eqFs_run (g :: fs) (i + 1) l l' _ xs ys (t1 ▸ r1) (t2 ▸ r2) h3
          exact ⟨c, k1, k2⟩
        · obtain ⟨c, k1, k2⟩ := eqFs_run (g :: fs) (i + 1) l l' _ xs ys (t1 ▸ r1) (t2 ▸ r2) h3
          exact ⟨c, k1, k2⟩
        · exact h3.elim
    obtain ⟨m1, m2, m3⟩ := main
    obtain ⟨s1, s2, sx, sy, b, hb, c, hc, hk⟩ := eq1_run m3
    have ho := Nat.eq_of_beq_eq_true m1
    have hvx := val sx d1
    have huy := val sy d2
    subst hvx
    subst huy
    refine ⟨b && c, fun d W => ?_, hk⟩
    have hn : f.name ≠ "_" := by simpa using m2
    rw [Op.eqFields, if_pos hn]
    rw [← ho] at hv hu
    simp only [Sem.run_bind, run_part1 ⟨s1, s2⟩ hv, run_part1 ⟨s1, s2⟩ hu, hb, Result.andThen_ok]
    cases b
    · simp
    · simpa using hc d W
theorem eqlV_run {P : Program} {t : TypeId} {x y : AV} {K : Bool → Prop} {w : World} {F : Nat → Prop} {B : Blk} {c : Nat} {u v : Value}
    (hx : VR w F B c x u) (hy : VR w F B c y v) (h : eqlV P t x y K) :
    ∃ b, (∀ W, (binOp .eql t u v).run P W = .ok (.bool b) W ∧ (binOp .neq t u v).run P W = .ok (.bool (!b)) W) ∧ (∀ op p q W, (eqGuard op t p q u v).run P W = .ok () W) ∧ K b := by
  unfold eqlV at h
  split at h
  · rename_i e hu
    have key : ∀ (A : Option Addr) (n k : Nat), (∀ W, (binOp .eql t (.slice A n k) (.slice none 0 0)).run P W = .ok (.bool A.isNone) W ∧ (binOp .neq t (.slice A n k) (.slice none 0 0)).run P W = .ok (.bool (!A.isNone)) W) ∧ (∀ op p q W, (eqGuard op t p q (.slice A n k) (.slice none 0 0)).run P W = .ok () W) := fun A n k =>
      ⟨fun W => ⟨by simp only [binOp]; simp [run_equal_slice_nil W t e A n k hu], by simp only [binOp]; simp [run_equal_slice_nil W t e A n k hu]⟩, fun op p q W => by simp only [eqGuard]; split <;> simp⟩
    split at h
    · rename_i z l
      simp only [VR, DRv, DRc] at hx hy
      obtain ⟨A, cc, hu', hl, hm, hr⟩ := hx
      simp only [List.cons.injEq, and_true] at hu'
      subst hu'; subst hy
      refine ⟨A.isNone, (key A _ _).1, (key A _ _).2, h _ fun hA => ?_⟩
      rcases hr with hr | ⟨ad, cs, e', _⟩
      · exact hr
      · subst e'; cases hA
    · rename_i k g sz off len
      simp only [VR] at hx hy
      subst hy
      obtain ⟨hg, hx⟩ := hx
      split at hx
      · obtain ⟨rfl, rfl, rfl⟩ := hx
        exact ⟨_, (key none 0 0).1, (key none 0 0).2, h _ fun _ => rfl⟩
      · obtain ⟨ad, rfl, _⟩ := hx
        exact ⟨_, (key (some ad) _ _).1, (key (some ad) _ _).2, h _ fun hA => by cases hA⟩
    · simp only [VR] at hx hy
      subst hx; subst hy
      exact ⟨_, (key none 0 0).1, (key none 0 0).2, h⟩
    · exact h.elim
  · rename_i e hu
    have hp : P.underlying t = some (.pointer (P.pointee t)) := by simp [Program.pointee, hu]
    have key : ∀ (A : Option Addr), (∀ W, (binOp .eql t (.pointer A) (.pointer none)).run P W = .ok (.bool A.isNone) W ∧ (binOp .neq t (.pointer A) (.pointer none)).run P W = .ok (.bool (!A.isNone)) W) ∧ (∀ op p q W, (eqGuard op t p q (.pointer A) (.pointer none)).run P W = .ok () W) := fun A =>
      ⟨fun W => ⟨by simp only [binOp]; simp [run_equal_pointer_nil W t A hp], by simp only [binOp]; simp [run_equal_pointer_nil W t A hp]⟩, fun op p q W => by simp only [eqGuard]; split <;> simp⟩
    split at h
    · simp only [VR, DRv, DRc] at hx hy
      obtain ⟨ad, cs, hu', _⟩ := hx
      simp only [List.cons.injEq, and_true] at hu' hy
      subst hu'; subst hy
      exact ⟨_, (key _).1, (key _).2, h⟩
    · simp only [VR, DRv, DRc] at hx hy
      obtain ⟨hg, b, n, hB, rfl⟩ := hx
      simp only [List.cons.injEq, and_true] at hy
      subst hy
      exact ⟨_, (key _).1, (key _).2, h⟩
    · simp only [VR, DRv, DRc] at hx hy
      simp only [List.cons.injEq, and_true] at hx hy
      subst hx; subst hy
      exact ⟨_, (key none).1, (key none).2, h⟩
    · exact h.elim
  · rename_i fs hu
    split at h
    · rename_i l l'
      obtain ⟨h1, h2, h3⟩ := h
      simp only [VR, DRv] at hx hy
      obtain ⟨xs, rfl, hx⟩ := hx
      obtain ⟨ys, rfl, hy⟩ := hy
      obtain ⟨b, hb, hk⟩ := eqFs_run (P := P) fs.toList 0 l l' K xs ys (by simpa using hx) (by simpa using hy) h3
      have hf : P.fieldsOf t = fs := by simp [Program.fieldsOf, hu]
      have he : ∀ W, (Op.equalIn 10000 t (.agg xs) (.agg ys)).run P W = .ok b W := fun W => by
        rw [run_equalIn_struct (P := P) W 9999 t xs ys (by rw [hf]; exact hu) h1, hf]
        exact hb 9998 W
      refine ⟨b, fun W => ⟨?_, ?_⟩, fun op p q W => ?_, hk⟩
      · rw [run_eql_struct, he]; rfl
      · rw [run_neq_struct, he]; rfl
      · simp only [eqGuard]
        have hpr : (program : Sem Program).run P W = .ok P W := rfl
        split <;> simp [hpr, h2]
    · exact h.elim
  · exact h.elim
def binV (P : Program) (op : BinOp) (t : TypeId) (x y : AV) (K : AV → Prop) : Prop := match op, x, y with
  | .shl, .d (.int k a), .d (.int _ b) => 0 ≤ b ∧ ∀ m, shlI k a b.toNat = m → K (.d (.int k m))
  | .shr, .d (.int k a), .d (.int _ b) => 0 ≤ b ∧ ∀ m, shrI k a b.toNat = m → K (.d (.int k m))
  | op, .d (.int k a), .d (.int k' b) => k = k' ∧ intBin op k a b K
  | op, .d (.str a), .d (.str b) => strBin op a b K
  | op, .d (.bool a), .d (.bool b) => shapeT P t = .bool ∧ boolBin op a b K
  | op, x, y => cmpV P op t x y K
section
variable {P : Program}
theorem bin_int {op : BinOp} {k : IntKind} {a b : Int} {K : AV → Prop} (h : intBin op k a b K) :
    ∃ x : D, x.scalar = true ∧ (∀ t W, (binOp op t (.int k a) (.int k b)).run P W = .ok (valD x) W) ∧ K (.d x) := by
  cases op <;> simp only [intBin] at h
  case add => refine ⟨_, ?_, ?_, arI_imp h⟩ <;> intros <;> simp [D.scalar, binOp, Op.intArith, valD]
  case sub => refine ⟨_, ?_, ?_, arI_imp h⟩ <;> intros <;> simp [D.scalar, binOp, Op.intArith, valD]
  case mul => refine ⟨_, ?_, ?_, arI_imp h⟩ <;> intros <;> simp [D.scalar, binOp, Op.intArith, valD]
  case quo => refine ⟨_, ?_, ?_, arI_imp (h.2 _ rfl)⟩ <;> intros <;> simp [D.scalar, binOp, Op.intDiv, valD, of_decide_eq_false h.1]
  case rem => refine ⟨_, ?_, ?_, h.2 _ rfl⟩ <;> intros <;> simp [D.scalar, binOp, Op.intDiv, valD, of_decide_eq_false h.1]
  case and => refine ⟨_, ?_, ?_, h⟩ <;> intros <;> simp [D.scalar, binOp, Op.intBits, valD, bitI]
  case or => refine ⟨_, ?_, ?_, h⟩ <;> intros <;> simp [D.scalar, binOp, Op.intBits, valD, bitI]
  case xor => refine ⟨_, ?_, ?_, h⟩ <;> intros <;> simp [D.scalar, binOp, Op.intBits, valD, bitI]
  case andNot => refine ⟨_, ?_, ?_, h⟩ <;> intros <;> simp [D.scalar, binOp, Op.intBits, valD, bitI]
  case eql => refine ⟨_, ?_, ?_, h⟩ <;> intros <;> simp [D.scalar, binOp, Op.intCmp, valD] <;> rfl
  case neq => refine ⟨_, ?_, ?_, h⟩ <;> intros <;> simp [D.scalar, binOp, Op.intCmp, valD] <;> rfl
  case lss => refine ⟨_, ?_, ?_, h⟩ <;> intros <;> simp [D.scalar, binOp, Op.intCmp, valD]
  case leq => refine ⟨_, ?_, ?_, h⟩ <;> intros <;> simp [D.scalar, binOp, Op.intCmp, valD]
  case gtr => refine ⟨_, ?_, ?_, h⟩ <;> intros <;> simp [D.scalar, binOp, Op.intCmp, valD]
  case geq => refine ⟨_, ?_, ?_, h⟩ <;> intros <;> simp [D.scalar, binOp, Op.intCmp, valD]
theorem bin_str {op : BinOp} {a b : ByteArray} {K : AV → Prop} (h : strBin op a b K) :
    ∃ x : D, x.scalar = true ∧ (∀ t W, (binOp op t (.string a) (.string b)).run P W = .ok (valD x) W) ∧ K (.d x) := by
  cases op <;> simp only [strBin] at h
  case add =>
    refine ⟨_, ?_, ?_, h.2⟩ <;> intros
    · rfl
    · have h1 := h.1
      have : ¬ (((a.size + b.size : Nat) : Int) > IntKind.i64.max) := by simp [IntKind.max, IntKind.bits, IntKind.signed]; omega
      simp only [binOp, Op.stringOp, if_neg this]
      rfl
  case eql => refine ⟨_, ?_, ?_, h⟩ <;> intros <;> simp [D.scalar, binOp, Op.stringOp, valD, toList_beq]
  case neq => refine ⟨_, ?_, ?_, h⟩ <;> intros <;> simp [D.scalar, binOp, Op.stringOp, valD, toList_beq]
  case lss => refine ⟨_, ?_, ?_, h⟩ <;> intros <;> simp [D.scalar, binOp, Op.stringOp, valD, toList_data, slt]
  case leq => refine ⟨_, ?_, ?_, h⟩ <;> intros <;> simp [D.scalar, binOp, Op.stringOp, valD, toList_beq] <;> simp [toList_data, slt]
  case gtr => refine ⟨_, ?_, ?_, h⟩ <;> intros <;> simp [D.scalar, binOp, Op.stringOp, valD, toList_beq] <;> simp [toList_data, slt]
  case geq => refine ⟨_, ?_, ?_, h⟩ <;> intros <;> simp [D.scalar, binOp, Op.stringOp, valD, toList_data, slt]
theorem shapeT_bool {P : Program} {t : TypeId} (h : shapeT P t = .bool) : P.underlying t = some .bool := by
  unfold shapeT at h; split at h <;> first | assumption | cases h
theorem equal_succ (t : TypeId) (x y : Value) : Op.equal t x y = Op.equalIn (9999 + 1) t x y := rfl
theorem equalIn_bool {t : TypeId} (hu : P.underlying t = some .bool) (n : Nat) (a b : Bool) (W : World) : (Op.equalIn (n + 1) t (.bool a) (.bool b)).run P W = .ok (a == b) W := by
  simp [Op.equalIn, run_underlying hu]
theorem bin_bool {op : BinOp} {a b : Bool} {t : TypeId} {K : AV → Prop} (ht : shapeT P t = .bool) (h : boolBin op a b K) :
    ∃ x : D, x.scalar = true ∧ (∀ W, (binOp op t (.bool a) (.bool b)).run P W = .ok (valD x) W) ∧ K (.d x) := by
  have hu := shapeT_bool ht
  cases op <;> simp only [boolBin] at h
  case eql => refine ⟨_, ?_, ?_, h⟩ <;> intros <;> simp only [D.scalar, binOp, equal_succ, valD, Sem.run_bind, equalIn_bool hu, Result.andThen_ok, Sem.run_pure]
  case neq => refine ⟨_, ?_, ?_, h⟩ <;> intros <;> simp only [D.scalar, binOp, equal_succ, valD, Sem.run_bind, equalIn_bool hu, Result.andThen_ok, Sem.run_pure]
theorem bin_shift {op : BinOp} {k k' : IntKind} {a b : Int} {K : AV → Prop} {t : TypeId} (hop : op = .shl ∨ op = .shr) (h : binV P op t (.d (.int k a)) (.d (.int k' b)) K) :
    ∃ x : D, x.scalar = true ∧ (∀ W, (binOp op t (.int k a) (.int k' b)).run P W = .ok (valD x) W) ∧ K (.d x) := by
  rcases hop with rfl | rfl <;> simp only [binV] at h
  · refine ⟨_, ?_, ?_, h.2 _ rfl⟩ <;> intros <;> simp [D.scalar, binOp, Op.shift, Int.not_lt.2 h.1, valD, shlI]
  · refine ⟨_, ?_, ?_, h.2 _ rfl⟩ <;> intros <;> simp [D.scalar, binOp, Op.shift, Int.not_lt.2 h.1, valD, shrI]
theorem binV_run {op : BinOp} {t : TypeId} {x y : AV} {K : AV → Prop} {w : World} {F : Nat → Prop} {B : Blk} {c : Nat} {u v : Value}
    (hx : VR w F B c x u) (hy : VR w F B c y v) (h : binV P op t x y K) :
    ∃ r : D, r.scalar = true ∧ (∀ p q W, (do eqGuard op t p q u v; binOp op t u v : Sem Value).run P W = .ok (valD r) W) ∧ K (.d r) := by
  unfold binV at h
  split at h
  · have hu := val_of_scalar rfl hx
    have hv := val_of_scalar rfl hy
    subst hu; subst hv
    obtain ⟨r, h1, h2, h3⟩ := bin_shift (P := P) (t := t) (.inl rfl) (by simpa only [binV] using h)
    exact ⟨r, h1, fun p q W => by simp [eqGuard, valD] at h2 ⊢; exact h2 W, h3⟩
  · have hu := val_of_scalar rfl hx
    have hv := val_of_scalar rfl hy
    subst hu; subst hv
    obtain ⟨r, h1, h2, h3⟩ := bin_shift (P := P) (t := t) (.inr rfl) (by simpa only [binV] using h)
    exact ⟨r, h1, fun p q W => by simp [eqGuard, valD] at h2 ⊢; exact h2 W, h3⟩
  · have hu := val_of_scalar rfl hx
    have hv := val_of_scalar rfl hy
    subst hu; subst hv
    obtain ⟨rfl, h⟩ := h
    obtain ⟨r, h1, h2, h3⟩ := bin_int (P := P) h
    refine ⟨r, h1, fun p q W => ?_, h3⟩
    have h2 := h2 t W
    simp only [valD] at h2 ⊢
    simp only [eqGuard]
    split <;> simpa using h2
  · have hu := val_of_scalar rfl hx
    have hv := val_of_scalar rfl hy
    subst hu; subst hv
    obtain ⟨r, h1, h2, h3⟩ := bin_str (P := P) h
    refine ⟨r, h1, fun p q W => ?_, h3⟩
    have h2 := h2 t W
    simp only [valD] at h2 ⊢
    simp only [eqGuard]
    split <;> simpa using h2
  · have hu := val_of_scalar rfl hx
    have hv := val_of_scalar rfl hy
    subst hu; subst hv
    obtain ⟨ht, h⟩ := h
    obtain ⟨r, h1, h2, h3⟩ := bin_bool (P := P) ht h
    refine ⟨r, h1, fun p q W => ?_, h3⟩
    have h2 := h2 W
    simp only [valD] at h2 ⊢
    simp only [eqGuard]
    split <;> simpa using h2
  · rename_i op x y _ _ _ _ _
    unfold cmpV at h
    split at h
    · obtain ⟨b, h1, h2, h3⟩ := eqlV_run (P := P) hx hy h
      exact ⟨.bool b, rfl, fun p q W => by simp only [Sem.run_bind, h2, Result.andThen_ok, (h1 W).1, valD], h3⟩
    · obtain ⟨b, h1, h2, h3⟩ := eqlV_run (P := P) hx hy h
      exact ⟨.bool (!b), rfl, fun p q W => by simp only [Sem.run_bind, h2, Result.andThen_ok, (h1 W).2, valD], h3⟩
    · exact h.elim
end
end Go.Fw
namespace Go.Fw
open Go
set_option linter.unusedVariables false
set_option linter.unusedSimpArgs false
def dsub (l : List D) (off sz : Nat) (b : Bool) : D := if b then .agg ((l.drop off).take sz) else l.getD off default
def asub (l : List AV) (off sz : Nat) (b : Bool) : AV := if b then mkAgg ((l.drop off).take sz) else l.getD off .dead
def unV : UnOp → AV → (AV → Prop) → Prop
  | .not, .d (.bool b), K => K (.d (.bool (!b)))
  | .neg, .d (.int k n), K => arI k (0 - n) K
  | .xor, .d (.int k n), K => K (.d (.int k (bitI .xor k (if k.signed then -1 else k.max) n)))
  | _, _, _ => False
def convV (P : Program) (src dst : TypeId) (x : AV) (K : AV → Prop) : Prop := match shapeT P src, shapeT P dst, x with
  | .int _, .int k, .d (.int _ n) => ∀ m, k.wrap n = m → K (.d (.int k m))
  | .str, .str, .d (.str s) => K (.d (.str s))
  | _, _, _ => False
def fieldAddrV (P : Program) (s : TypeId) (f : Nat) (x : AV) (K : AV → Prop) : Prop := match fieldI P s f with
  | some (off, sz, b) => match x with
    | .addr k g c => K (.addr k g (c + off))
    | .elt k g z j o => K (.elt k g z j (o + off))
    | .d (.ptr (.agg l)) => off + sz ≤ l.length ∧ K (.d (.ptr (dsub l off sz b)))
    | _ => False
  | none => False
def fieldV (P : Program) (s : TypeId) (f : Nat) (x : AV) (K : AV → Prop) : Prop := match fieldI P s f with
  | some (off, sz, b) => match x with
    | .d (.agg l) => off + sz ≤ l.length ∧ K (.d (dsub l off sz b))
    | .agg l => off + sz ≤ l.length ∧ K (asub l off sz b)
    | _ => False
  | none => False
def indexAddrV (P : Program) (t : TypeId) (x i : AV) (K : AV → Prop) : Prop := match elemI P t with
  | some (_, sz, _) => match x, i with
    | .d (.sl z l), .d (.int _ n) => 0 ≤ n ∧ n.toNat < l.length ∧ z = sz ∧ ∀ y, l.getD n.toNat default = y → K (.d (.ptr y))
    | .ref k g z off len, .d (.int _ n) => 0 ≤ n ∧ n.toNat < len ∧ z = sz ∧ K (.elt k g z (off + n.toNat) 0)
    | .nref k g len, .d (.int _ n) => 0 ≤ n ∧ n.toNat < len ∧ sz = 1 ∧ K (.elt k g 1 n.toNat 0)
    | .sub k g j z len, .d (.int _ n) => 0 ≤ n ∧ n.toNat < len ∧ z = sz ∧ K (.selt k g j z n.toNat)
    | _, _ => False
  | none => False
def bAt (s : ByteArray) (i : Nat) : Int := ((s.data.toList.getD i 0).toNat : Int)
def indexV (P : Program) (t : TypeId) (x i : AV) (K : AV → Prop) : Prop := match shapeT P t, x, i with
  | .str, .d (.str s), .d (.int _ n) => 0 ≤ n ∧ n.toNat < s.size ∧ (0 ≤ bAt s n.toNat ∧ bAt s n.toNat < 256 → K (.d (.int .u8 (bAt s n.toNat))))
  | _, _, _ => False
def bndV : Option AV → Nat → (Nat → Prop) → Prop
  | none, d, K => K d
  | some (.d (.int _ n)), _, K => 0 ≤ n ∧ K n.toNat
  | some _, _, _ => False
def sliceV (P : Program) (t : TypeId) (x : AV) (lo hi : Option AV) (K : AV → Prop) : Prop := match shapeT P t, x with
  | .str, .d (.str s) => bndV hi s.size fun h => h ≤ s.size ∧ bndV lo 0 fun l => l ≤ h ∧ ∀ r, s.extract l h = r → K (.d (.str r))
  | .slice, .d (.sl z xs) => match elemI P t with
    | some (_, sz, _) => z = sz ∧ bndV hi xs.length fun h => h ≤ xs.length ∧ bndV lo 0 fun l => l ≤ h ∧ ∀ r, (xs.take h).drop l = r → K (.d (.sl z r))
    | none => False
  | .slice, .ref k g z off len => match elemI P t with
    | some (_, sz, _) => z = sz ∧ bndV hi len fun h => h ≤ len ∧ bndV lo 0 fun l => l ≤ h ∧ ∀ o, off + l = o → ∀ m, h - l = m → K (.ref k g z o m)
    | none => False
  | .slice, .nils => match elemI P t with
    | some (_, sz, _) => bndV hi 0 fun h => h ≤ 0 ∧ bndV lo 0 fun l => l ≤ h ∧ K .nils
    | none => False
  | _, _ => False
def extractV (x : AV) (i : Nat) (K : AV → Prop) : Prop := match x with
  | .tup l => i < l.length ∧ K (l.getD i .dead)
  | _ => False
def nilCheckV (x : AV) (K : AV → Prop) : Prop := match x with
  | .addr .. | .elt .. | .d (.ptr _) => K x
  | _ => False
def lenV (P : Program) (t : TypeId) (x : AV) (K : AV → Prop) : Prop := match shapeT P t, x with
  | .str, .d (.str s) => K (.d (.int .i64 s.size))
  | .slice, .d (.sl _ l) => ∀ m : Nat, l.length = m → m ≤ 9223372036854775807 → K (.d (.int .i64 m))
  | .slice, .ref _ _ _ _ len => ∀ m : Nat, len = m → K (.d (.int .i64 m))
  | .slice, .nref _ _ len => ∀ m : Nat, len = m → K (.d (.int .i64 m))
  | .slice, .sub _ _ _ _ len => ∀ m : Nat, len = m → K (.d (.int .i64 m))
  | .slice, .nils => K (.d (.int .i64 0))
  | _, _ => False
def capV (P : Program) (t : TypeId) (x : AV) (K : AV → Prop) : Prop := match shapeT P t, x with
  | .slice, .nils => K (.d (.int .i64 0))
  | _, _ => False
def avCells : AV → List AV
  | .agg l => l
  | .d (.agg l) => l.map .d
  | .dead => []
  | .opt _ _ => []
  | .tup _ => []
  | x => [x]
def setCells (cs : List AV) (off : Nat) (new : List AV) : List AV := cs.take off ++ new ++ cs.drop (off + new.length)
def fillV (P : Program) (t : TypeId) : List AV → List (Nat × AV) → (List AV → Prop) → Prop
  | cs, [], K => K cs
  | cs, (i, v) :: r, K => match fieldI P t i with
    | some (off, sz, _) => (avCells v).length = sz ∧ off + sz ≤ cs.length ∧ cellsOK (avCells v) = true ∧ fillV P t (setCells cs off (avCells v)) r K
    | none => False
def zeroI (P : Program) (t : TypeId) : Option (List AV) := match P.info? t with
  | some i => match i.zero with
    | some z => some (z.cells.toList.map cAV)
    | none => none
  | none => none
 
def buildOK (P : Program) (t : TypeId) : Bool := match P.underlying t with
  | some (.struct fs) => fs.toList.all fun f => (P.info? f.type).isSome
  | _ => false
def buildV (P : Program) (t : TypeId) (parts : List (Nat × AV)) (K : AV → Prop) : Prop :=
  buildOK P t = true ∧ match zeroI P t with
  | some z => cellsOK z = true ∧ fillV P t z parts fun cs => K (mkAgg cs)
  | none => False
def intAV : AV → Option (IntKind × Int)
  | .d (.int k n) => some (k, n)
  | _ => none
def mmV (mx : Bool) : List AV → (AV → Prop) → Prop
  | [.d (.int k a), .d (.int _ b)], K => ∀ m, (if mx then max a b else min a b) = m → K (.d (.int k m))
  | [.d (.int k a), .d (.int _ b), .d (.int _ c)], K => ∀ m, (if mx then max (max a b) c else min (min a b) c) = m → K (.d (.int k m))
  | _, _ => False
 
def builtinV (P : Program) (b : Builtin) (ats : Array TypeId) (xs : List AV) (K : AV → Prop) : Prop := match b, xs with
  | .len, [x] => match ats[0]? with | some t => lenV P t x K | none => False
  | .cap, [x] => match ats[0]? with | some t => capV P t x K | none => False
  | .min, xs => mmV false xs K
  | .max, xs => mmV true xs K
  | _, _ => False
 
def optB : AV → Option (Bool × Bool)
  | .d (.bool b) => some (true, b)
  | .opt c (.d (.bool b)) => some (c, b)
  | .tup [] => some (false, false)
  | _ => none
def Both (x ca cb : Bool) : Prop := (x = true → ca = true) ∧ (x = false → cb = true)
def bx (oa ob : Operand) (x p q : Bool) : Bool := match oa with
  | .const (.bool true) => x || q
  | _ => match ob with
    | .const (.bool false) => x && p
    | _ => bif x then p else q
theorem bx_eq (oa ob : Operand) (S : St) (x p q : Bool) (ha : oa = .const (.bool true) → p = true) (hb : ob = .const (.bool false) → q = false) : bx oa ob x p q = bif x then p else q := by
  unfold bx
  split
  · rw [ha rfl]; cases x <;> rfl
  · split
    · rw [hb rfl]; cases x <;> rfl
    · rfl
def pickV (x : Bool) (a b : AV) (oa ob : Operand) (K : AV → Prop) : Prop := match optB a with
  | some (ca, p) => match optB b with
    | some (cb, q) => Both x ca cb ∧ ∀ r, bx oa ob x p q = r → K (.d (.bool r))
    | none => (x = true → K a) ∧ (x = false → K b)
  | none => (x = true → K a) ∧ (x = false → K b)
 
def valV (P : Program) (op : Op) (S : St) (K : AV → Prop) : Prop := match op with
  | .move x => K (S.ev x)
  | .pick c a b => match S.ev c with
    | .d (.bool x) => pickV x (S.ev a) (S.ev b) a b K
    | _ => False
  | .binOp op t x y _ => binV P op t (S.ev x) (S.ev y) K
  | .unOp op _ x => unV op (S.ev x) K
  | .convert src dst x => convV P src dst (S.ev x) K
  | .fieldAddr s x f => fieldAddrV P s f (S.ev x) K
  | .field s x f => fieldV P s f (S.ev x) K
  | .indexAddr t x i => indexAddrV P t (S.ev x) (S.ev i) K
  | .index t x i => indexV P t (S.ev x) (S.ev i) K
  | .slice t x lo hi none => sliceV P t (S.ev x) (lo.map S.ev) (hi.map S.ev) K
  | .extract x i => extractV (S.ev x) i K
  | .nilCheck x => nilCheckV (S.ev x) K
  | .build t parts => buildV P t (parts.toList.map fun p => (p.1, S.ev p.2)) K
  | .makeFunc fn f c => cellsOK (f.toList.map S.ev) = true ∧ cellsOK (c.toList.map S.ev) = true ∧ K (mkClo fn (f.toList.map S.ev) (c.toList.map S.ev))
  | .call c => match c.callee with
    | .builtin b => builtinV P b c.argTypes (c.args.toList.map S.ev) K
    | _ => False
  | _ => False
end Go.Fw
namespace Go.Fw
open Go
set_option linter.unusedVariables false
set_option linter.unusedSimpArgs false
section
variable {P : Program} {w : World} {F : Nat → Prop} {B : Blk} {c : Nat} {K : AV → Prop}
theorem run_isAgg {t : TypeId} {b : Bool} (h : aggT P t = some b) (W : World) : (isAgg t).run P W = .ok b W := by
  unfold aggT at h
  unfold isAgg
  split at h
  · rename_i fs hu; cases h; simp [run_underlying hu]
  · rename_i n e hu; cases h; simp [run_underlying hu]
  · rename_i d h1 h2 hu
    cases h
    simp only [Sem.run_bind, run_underlying hu, Result.andThen_ok]
    cases d <;> first | rfl | exact absurd hu (h1 _) | exact absurd hu (h2 _ _)
  · cases h
theorem run_sizeOf {t : TypeId} {i : TypeInfo} (h : P.info? t = some i) (W : World) : (sizeOf t).run P W = .ok i.size W := by simp [sizeOf, typeInfo, h]
theorem unV_run {op : UnOp} {x : AV} {u : Value} (hx : VR w F B c x u) (h : unV op x K) : ∃ r : D, r.scalar = true ∧ (∀ W, (Op.unary op u).run P W = .ok (valD r) W) ∧ K (.d r) := by
  unfold unV at h
  split at h
  · have := val_of_scalar rfl hx; subst this; exact ⟨_, rfl, fun W => by simp [Op.unary, valD], h⟩
  · have := val_of_scalar rfl hx; subst this; exact ⟨_, rfl, fun W => by simp [Op.unary, Op.intArith, valD], arI_imp h⟩
  · have := val_of_scalar rfl hx; subst this; exact ⟨_, rfl, fun W => by simp [Op.unary, Op.intBits, valD, bitI], h⟩
  · exact h.elim
theorem convV_run {src dst : TypeId} {x : AV} {u : Value} (hx : VR w F B c x u) (h : convV P src dst x K) : ∃ r : D, r.scalar = true ∧ (∀ W, (convert src dst u).run P W = .ok (valD r) W) ∧ K (.d r) := by
  unfold convV at h
  split at h
  · rename_i hs hd
    have := val_of_scalar rfl hx; subst this
    exact ⟨_, rfl, fun W => by simp [convert, run_underlying (shapeT_int hs), run_underlying (shapeT_int hd), Conv.intToInt, valD], h _ rfl⟩
  · rename_i hs hd
    have := val_of_scalar rfl hx; subst this
    exact ⟨_, rfl, fun W => by simp [convert, run_underlying (shapeT_str hs), run_underlying (shapeT_str hd), valD], h⟩
  · exact h.elim
 
theorem dsub_cells {l : List D} {off sz : Nat} {b : Bool} {cs : List Value} (hl : off + sz ≤ l.length) (hb : b = false → sz = 1) (h : DRl w F l cs) : DRc w F (dsub l off sz b) ((cs.drop off).take sz) := by
  unfold dsub
  cases b
  · have hs := hb rfl
    subst hs
    obtain ⟨v, h1, h2, h3⟩ := h.get off (by omega)
    have e : (cs.drop off).take 1 = [v] := by
      have hlt := (List.getElem?_eq_some_iff.1 h1).1
      have hv := (List.getElem?_eq_some_iff.1 h1).2
      rw [List.drop_eq_getElem_cons hlt, List.take_succ_cons, List.take_zero, hv]
    rw [e]
    simpa using h3
  · simp only [if_true, DRc]
    exact (h.drop off).take sz
theorem dsub_val {l : List D} {off sz : Nat} {b : Bool} {cs : Array Value} (hl : off + sz ≤ l.length) (hb : b = false → sz = 1) (h : DRl w F l cs.toList) :
    ∃ v, (∀ t i, aggT P t = some b → P.info? t = some i → i.size = sz → ∀ W, (part t cs off).run P W = .ok v W) ∧ VR w F B c (.d (dsub l off sz b)) v := by
  cases b
  · have hs := hb rfl
    subst hs
    obtain ⟨v, h1, h2, h3⟩ := h.get off (by omega)
    refine ⟨v, fun t i ht hi hz W => ?_, ?_⟩
    · have h1' : cs[off]? = some v := by simpa using h1
      simp [part, run_isAgg ht, h1']
    · simp only [dsub, VR]
      exact DRv_of_cell h2 h3
  · refine ⟨.agg (cs.extract off (off + sz)), fun t i ht hi hz W => ?_, ?_⟩
    · simp [part, run_isAgg ht, run_sizeOf hi, hz]
    · simp only [dsub, VR, DRv, if_true]
      refine ⟨_, rfl, ?_⟩
      have := (h.drop off).take sz
      rw [Array.toList_extract]
      simpa [List.extract_eq_take_drop] using this
theorem asub_val {l : List AV} {off sz : Nat} {b : Bool} {cs : Array Value} (hl : off + sz ≤ l.length) (hb : b = false → sz = 1) (hc : cellsOK l = true) (h : VRl w F B c l cs.toList) :
    ∃ v, (∀ t i, aggT P t = some b → P.info? t = some i → i.size = sz → ∀ W, (part t cs off).run P W = .ok v W) ∧ VR w F B c (asub l off sz b) v := by
  cases b
  · have hs := hb rfl
    subst hs
    obtain ⟨v, h1, h2⟩ := h.get off (by omega)
    refine ⟨v, fun t i ht hi hz W => ?_, ?_⟩
    · have h1' : cs[off]? = some v := by simpa using h1
      simp [part, run_isAgg ht, h1']
    · simpa [asub] using h2
  · refine ⟨.agg (cs.extract off (off + sz)), fun t i ht hi hz W => ?_, ?_⟩
    · simp [part, run_isAgg ht, run_sizeOf hi, hz]
    · simp only [asub, if_true]
      refine mkAgg_VR (cellsOK_take _ (cellsOK_drop _ hc)) ?_
      have := (h.drop off).take sz
      rw [Array.toList_extract]
      simpa [List.extract_eq_take_drop] using this
theorem fieldAddrV_run {s : TypeId} {f : Nat} {x : AV} {u : Value} (hx : VR w F B c x u) (h : fieldAddrV P s f x K) :
    ∃ v av, (∀ W, (Instr.fieldAt s u f).run P W = .ok v W) ∧ VR w F B c av v ∧ K av := by
  unfold fieldAddrV at h
  split at h
  · rename_i off sz b hfi
    obtain ⟨fs, fd, i, hu, hfd, rfl, hi, hz, h0, hag, hb⟩ := fieldI_spec hfi
    have key : ∀ ad : Addr, u = .pointer (some ad) → ∀ W, (Instr.fieldAt s u f).run P W = .ok (.pointer (some (ad.add fd.offset))) W := by
      intro ad e W
      subst e
      have : ¬ i.size = 0 := by omega
      simp [Instr.fieldAt, run_underlying hu, hfd, Instr.sureAddr, fieldPlace, run_sizeOf hi, this]
    split at h
    · simp only [VR] at hx
      obtain ⟨hg, bb, n, hB, rfl⟩ := hx
      exact ⟨_, _, key _ rfl, by simp only [VR]; exact ⟨hg, bb, n, hB, by rw [add_plain]⟩, h⟩
    · simp only [VR] at hx
      obtain ⟨hg, bb, n, hB, rfl⟩ := hx
      exact ⟨_, _, key _ rfl, by simp only [VR]; exact ⟨hg, bb, n, hB, by rw [add_plain, Nat.add_assoc]⟩, h⟩
    · rename_i l
      simp only [VR, DRv, DRc] at hx
      obtain ⟨ad, cs, hu', hF, hC, hD⟩ := hx
      simp only [List.cons.injEq, and_true] at hu'
      subst hu'
      refine ⟨_, _, key _ rfl, ?_, h.2⟩
      simp only [VR, DRv, DRc]
      exact ⟨_, _, rfl, by rw [add_block]; exact hF, hC.sub _ _, dsub_cells h.1 hb hD⟩
    · exact h.elim
  · exact h.elim
theorem fieldV_run {s : TypeId} {f : Nat} {x : AV} {u : Value} (hx : VR w F B c x u) (h : fieldV P s f x K) :
    ∃ v av, (∀ W, (Instr.field s u f).run P W = .ok v W) ∧ VR w F B c av v ∧ K av := by
  unfold fieldV at h
  split at h
  · rename_i off sz b hfi
    obtain ⟨fs, fd, i, hu, hfd, rfl, hi, hz, h0, hag, hb⟩ := fieldI_spec hfi
    split at h
    · rename_i l
      simp only [VR, DRv] at hx
      obtain ⟨cs, rfl, hD⟩ := hx
      obtain ⟨v, h1, h2⟩ := dsub_val (P := P) (B := B) (c := c) h.1 hb hD
      exact ⟨v, _, fun W => by simp [Instr.field, run_underlying hu, hfd, asAgg, h1 _ i hag hi hz], h2, h.2⟩
    · rename_i l
      simp only [VR] at hx
      obtain ⟨cs, rfl, hc, hD⟩ := hx
      obtain ⟨v, h1, h2⟩ := asub_val (P := P) h.1 hb hc hD
      exact ⟨v, _, fun W => by simp [Instr.field, run_underlying hu, hfd, asAgg, h1 _ i hag hi hz], h2, h.2⟩
    · exact h.elim
  · exact h.elim
theorem indexAddrV_run {t : TypeId} {x i : AV} {u v : Value} (hx : VR w F B c x u) (hi : VR w F B c i v) (h : indexAddrV P t x i K) :
    ∃ r av, (∀ W, (Instr.indexAt t u v).run P W = .ok r W) ∧ VR w F B c av r ∧ K av := by
  unfold indexAddrV at h
  split at h
  · rename_i e sz b hei
    obtain ⟨ti, hu, hti, hz, h0, hag, hb⟩ := elemI_spec hei
    have key : ∀ (ad : Addr) (len cap : Nat) (k : IntKind) (n : Int), 0 ≤ n → n.toNat < len → ∀ W, (Instr.indexAt t (.slice (some ad) len cap) (.int k n)).run P W = .ok (.pointer (some (ad.add (n.toNat * sz)))) W := by
      intro ad len cap k n h1 h2 W
      have h3 : 0 ≤ n ∧ n < (len : Int) := ⟨h1, by omega⟩
      subst hz
      simp [Instr.indexAt, asIntOf, run_underlying hu, h3, run_sizeOf hti]
    split at h
    · rename_i z l k n
      obtain ⟨h1, h2, rfl, h3⟩ := h
      have := val_of_scalar rfl hi; subst this
      simp only [VR, DRv, DRc] at hx
      obtain ⟨A, cc, hu', hl, hm, hr⟩ := hx
      simp only [List.cons.injEq, and_true] at hu'
      subst hu'
      rcases hr with rfl | ⟨ad, cs, rfl, hF, hC, hD⟩
      · simp at h2
      · refine ⟨_, _, key ad _ _ _ _ h1 h2, ?_, h3 _ rfl⟩
        have hg := hD.get n.toNat h2
        simp only [VR, DRv, DRc]
        exact ⟨_, _, rfl, by rw [add_block]; exact hF, hC.sub _ _, hg.1⟩
    · rename_i k g z off len k' n
      obtain ⟨h1, h2, rfl, h3⟩ := h
      have := val_of_scalar rfl hi; subst this
      simp only [VR] at hx
      obtain ⟨hg, hx⟩ := hx
      split at hx
      · omega
      · rename_i bb m hB
        obtain ⟨ad, rfl, hcap, had⟩ := hx
        have had' : ad = ⟨bb, off * z, none⟩ := by rcases had with h | ⟨h, _⟩; exact h; omega
        subst had'
        refine ⟨_, _, key _ _ _ _ _ h1 h2, ?_, h3⟩
        simp only [VR]
        exact ⟨hg, bb, m, hB, by rw [add_plain, Nat.add_mul, Nat.add_zero]⟩
    · rename_i k g len k' n
      obtain ⟨h1, h2, rfl, h3⟩ := h
      have := val_of_scalar rfl hi; subst this
      simp only [VR] at hx
      obtain ⟨hg, hx⟩ := hx
      split at hx
      · omega
      · rename_i bb m hB
        subst hx
        refine ⟨_, _, key _ _ _ _ _ h1 h2, ?_, h3⟩
        simp only [VR]
        exact ⟨hg, bb, m, hB, by rw [add_plain]; simp⟩
    · rename_i k g j z len k' n
      obtain ⟨h1, h2, rfl, h3⟩ := h
      have := val_of_scalar rfl hi; subst this
      simp only [VR] at hx
      obtain ⟨hg, bb, m, hB, hx, h0⟩ := hx
      cases hin : (decBN m).2.getD j none with
      | none => have := h0 hin; omega
      | some p =>
        obtain ⟨b', n'⟩ := p
        rw [hin] at hx
        simp only [slv] at hx
        subst hx
        refine ⟨_, _, key _ _ _ _ _ h1 h2, ?_, h3⟩
        simp only [VR]
        exact ⟨hg, bb, m, b', n', hB, hin, by rw [add_plain, Nat.zero_add]⟩
    · exact h.elim
  · exact h.elim
theorem indexV_run {t : TypeId} {x i : AV} {u v : Value} (hx : VR w F B c x u) (hi : VR w F B c i v) (h : indexV P t x i K) :
    ∃ r av, (∀ W, (Instr.index t u v).run P W = .ok r W) ∧ VR w F B c av r ∧ K av := by
  unfold indexV at h
  split at h
  · rename_i s k n hs
    have e1 := val_of_scalar rfl hx; subst e1
    have e2 := val_of_scalar rfl hi; subst e2
    obtain ⟨h1, h2, h3⟩ := h
    refine ⟨.int .u8 (bAt s n.toNat), _, fun W => ?_, by simp [VR, DRv, DRc], h3 (by unfold bAt; have := (s.data.toList.getD n.toNat 0).toNat_lt; omega)⟩
    have e : s[n.toNat]? = some (s[n.toNat]'h2) := by simp [h2]
    simp only [valD, Instr.index, asIntOf, Sem.run_bind, Sem.run_pure, Result.andThen_ok, run_underlying (shapeT_str hs), if_pos h1, e]
    simp only [Sem.run_pure, bAt]
    congr 3
    have e4 : s[n.toNat]'h2 = s.data[n.toNat]'h2 := rfl
    rw [e4, List.getD_eq_getElem?_getD]
    have h2' : n.toNat < s.data.size := h2
    simp [Array.getElem?_eq_getElem h2']
  · exact h.elim
theorem extractV_run {x : AV} {i : Nat} {u : Value} (hx : VR w F B c x u) (h : extractV x i K) : ∃ r av, (∀ W, (Instr.extract u i).run P W = .ok r W) ∧ VR w F B c av r ∧ K av := by
  unfold extractV at h
  split at h
  · rename_i l
    simp only [VR] at hx
    obtain ⟨vs, rfl, hl⟩ := hx
    obtain ⟨v, h1, h2⟩ := hl.get i h.1
    have h1' : vs[i]? = some v := by simpa using h1
    exact ⟨v, _, fun W => by simp [Instr.extract, h1'], h2, h.2⟩
  · exact h.elim
theorem lenV_run {t : TypeId} {x : AV} {u : Value} {ats : Array TypeId} {ty : TypeId} (ha : ats[0]? = some t) (hx : VR w F B c x u) (h : lenV P t x K) :
    ∃ r : D, r.scalar = true ∧ (∀ W, (Builtin.len_ ats ty #[u]).run P W = .ok (valD r) W) ∧ K (.d r) := by
  unfold lenV at h
  split at h
  · rename_i s hs
    have e1 := val_of_scalar rfl hx; subst e1
    exact ⟨_, rfl, fun W => by simp [Builtin.len_, ha, run_underlying (shapeT_str hs), valD, goInt], h⟩
  · rename_i z l hs
    obtain ⟨e, hu⟩ := shapeT_slice hs
    simp only [VR, DRv, DRc] at hx
    obtain ⟨A, cc, hu', hl, hm, hr⟩ := hx
    simp only [List.cons.injEq, and_true] at hu'
    subst hu'
    exact ⟨_, rfl, fun W => by simp [Builtin.len_, ha, run_underlying hu, valD, goInt], h _ rfl (by have : maxLen = 9223372036854775807 := rfl; omega)⟩
  · rename_i k g z off len hs
    obtain ⟨e, hu⟩ := shapeT_slice hs
    simp only [VR] at hx
    obtain ⟨hg, hx⟩ := hx
    split at hx
    · obtain ⟨rfl, rfl, rfl⟩ := hx
      exact ⟨_, rfl, fun W => by simp [Builtin.len_, ha, run_underlying hu, valD, goInt], h _ rfl⟩
    · obtain ⟨ad, rfl, had⟩ := hx
      exact ⟨_, rfl, fun W => by simp [Builtin.len_, ha, run_underlying hu, valD, goInt], h _ rfl⟩
  · rename_i k g len hs
    obtain ⟨e, hu⟩ := shapeT_slice hs
    simp only [VR] at hx
    obtain ⟨hg, hx⟩ := hx
    split at hx
    · obtain ⟨rfl, rfl⟩ := hx
      exact ⟨_, rfl, fun W => by simp [Builtin.len_, ha, run_underlying hu, valD, goInt], h _ rfl⟩
    · subst hx
      exact ⟨_, rfl, fun W => by simp [Builtin.len_, ha, run_underlying hu, valD, goInt], h _ rfl⟩
  · rename_i k g j z len hs
    obtain ⟨e, hu⟩ := shapeT_slice hs
    simp only [VR] at hx
    obtain ⟨hg, bb, m, hB, hx, h0⟩ := hx
    cases hin : (decBN m).2.getD j none with
    | none =>
      have := h0 hin
      subst this
      rw [hin] at hx
      simp only [slv] at hx
      subst hx
      exact ⟨_, rfl, fun W => by simp [Builtin.len_, ha, run_underlying hu, valD, goInt], h _ rfl⟩
    | some p =>
      rw [hin] at hx
      simp only [slv] at hx
      subst hx
      exact ⟨_, rfl, fun W => by simp [Builtin.len_, ha, run_underlying hu, valD, goInt], h _ rfl⟩
  · rename_i hs
    obtain ⟨e, hu⟩ := shapeT_slice hs
    simp only [VR] at hx
    subst hx
    exact ⟨_, rfl, fun W => by simp [Builtin.len_, ha, run_underlying hu, valD, goInt], h⟩
  · exact h.elim
theorem capV_run {t : TypeId} {x : AV} {u : Value} {ats : Array TypeId} {ty : TypeId} (ha : ats[0]? = some t) (hx : VR w F B c x u) (h : capV P t x K) :
    ∃ r : D, r.scalar = true ∧ (∀ W, (Builtin.cap_ ats ty #[u]).run P W = .ok (valD r) W) ∧ K (.d r) := by
  unfold capV at h
  split at h
  · rename_i hs
    obtain ⟨e, hu⟩ := shapeT_slice hs
    simp only [VR] at hx
    subst hx
    exact ⟨_, rfl, fun W => by simp [Builtin.cap_, ha, run_underlying hu, valD, goInt], h⟩
  · exact h.elim
theorem nilCheckV_run {x : AV} {u : Value} (hx : VR w F B c x u) (h : nilCheckV x K) : K x ∧ ∃ a, u = .pointer (some a) := by
  unfold nilCheckV at h
  split at h
  · simp only [VR] at hx
    obtain ⟨hg, bb, n, hB, rfl⟩ := hx
    exact ⟨h, _, rfl⟩
  · simp only [VR] at hx
    obtain ⟨hg, bb, n, hB, rfl⟩ := hx
    exact ⟨h, _, rfl⟩
  · simp only [VR, DRv, DRc] at hx
    obtain ⟨ad, cs, hu', hF, hC, hD⟩ := hx
    simp only [List.cons.injEq, and_true] at hu'
    exact ⟨h, _, hu'⟩
  · exact h.elim
theorem mmV_run {mx : Bool} {xs : List AV} {us : List Value} (hx : VRl w F B c xs us) (h : mmV mx xs K) :
    ∃ r : D, r.scalar = true ∧ (∀ W ats ty, ((if mx then Builtin.max_ ats ty us.toArray else Builtin.min_ ats ty us.toArray)).run P W = .ok (valD r) W) ∧ K (.d r) := by
  unfold mmV at h
  split at h
  · simp only [VRl] at hx
    obtain ⟨v1, _, rfl, h1, v2, _, rfl, h2, rfl⟩ := hx
    have e1 := val_of_scalar rfl h1; subst e1
    have e2 := val_of_scalar rfl h2; subst e2
    refine ⟨_, rfl, fun W ats ty => ?_, h _ rfl⟩
    cases mx
    · simp only [Bool.false_eq_true, if_false, Builtin.min_, valD, List.foldlM_cons, List.foldlM_nil, Sem.run_bind, Builtin.min2, Sem.run_pure, Result.andThen_ok]
      congr 2
      split <;> omega
    · simp only [if_true, Builtin.max_, valD, List.foldlM_cons, List.foldlM_nil, Sem.run_bind, Builtin.max2, Sem.run_pure, Result.andThen_ok]
      congr 2
      split <;> omega
  · simp only [VRl] at hx
    obtain ⟨v1, _, rfl, h1, v2, _, rfl, h2, v3, _, rfl, h3, rfl⟩ := hx
    have e1 := val_of_scalar rfl h1; subst e1
    have e2 := val_of_scalar rfl h2; subst e2
    have e3 := val_of_scalar rfl h3; subst e3
    refine ⟨_, rfl, fun W ats ty => ?_, h _ rfl⟩
    cases mx
    · simp only [Bool.false_eq_true, if_false, Builtin.min_, valD, List.foldlM_cons, List.foldlM_nil, Sem.run_bind, Builtin.min2, Sem.run_pure, Result.andThen_ok]
      congr 2
      split <;> split <;> omega
    · simp only [if_true, Builtin.max_, valD, List.foldlM_cons, List.foldlM_nil, Sem.run_bind, Builtin.max2, Sem.run_pure, Result.andThen_ok]
      congr 2
      split <;> split <;> omega
  · exact h.elim
 
def bndOf (o : Option Value) (d : Nat) : Option Nat := match o with
  | none => some d
  | some (.int _ n) => if 0 ≤ n then some n.toNat else none
  | _ => none
theorem bndV_spec {o : Option AV} {o' : Option Value} {d : Nat} {k : Nat → Prop} (ho : match o, o' with | none, none => True | some x, some v => VR w F B c x v | _, _ => False) (h : bndV o d k) :
    ∃ n, k n ∧ ((o' = none ∧ n = d) ∨ ∃ ki i, o' = some (.int ki i) ∧ 0 ≤ i ∧ n = i.toNat) := by
  unfold bndV at h
  split at h
  · cases o' <;> simp at ho
    exact ⟨_, h, .inl ⟨rfl, rfl⟩⟩
  · cases o' with
    | none => simp at ho
    | some v =>
      have e := val_of_scalar rfl ho
      subst e
      exact ⟨_, h.2, .inr ⟨_, _, rfl, h.1, rfl⟩⟩
  · exact h.elim
theorem run_sliceBounds {isS : Bool} {len cap l h : Nat} {lo hi : Option Value} (hh : (hi = none ∧ h = len) ∨ ∃ ki i, hi = some (.int ki i) ∧ 0 ≤ i ∧ h = i.toNat) (hl : (lo = none ∧ l = 0) ∨ ∃ ki i, lo = some (.int ki i) ∧ 0 ≤ i ∧ l = i.toNat)
    (h1 : h ≤ cap) (h2 : l ≤ h) (W : World) : (Instr.sliceBounds isS len cap lo hi none).run P W = .ok (l, h, cap) W := by
  unfold Instr.sliceBounds
  rcases hh with ⟨rfl, rfl⟩ | ⟨ki, i, rfl, hi0, rfl⟩
  · rcases hl with ⟨rfl, rfl⟩ | ⟨kj, j, rfl, hj0, rfl⟩
    · simp
    · have : 0 ≤ j ∧ j ≤ (h : Int) := ⟨hj0, by omega⟩
      simp [Instr.sliceBound, asIntOf, this]
  · have hb : 0 ≤ i ∧ i ≤ (cap : Int) := ⟨hi0, by omega⟩
    rcases hl with ⟨rfl, rfl⟩ | ⟨kj, j, rfl, hj0, rfl⟩
    · simp [Instr.sliceBound, asIntOf, hb]
    · have : 0 ≤ j ∧ j ≤ (i.toNat : Int) := ⟨hj0, by omega⟩
      simp [Instr.sliceBound, asIntOf, hb, this]
      omega
theorem sliceV_run {t : TypeId} {x : AV} {lo hi : Option AV} {lo' hi' : Option Value} {u : Value} (hx : VR w F B c x u)
    (hlo : match lo, lo' with | none, none => True | some x, some v => VR w F B c x v | _, _ => False) (hhi : match hi, hi' with | none, none => True | some x, some v => VR w F B c x v | _, _ => False)
    (h : sliceV P t x lo hi K) : ∃ r av, (∀ W, (Instr.sliceAt t u lo' hi' none).run P W = .ok r W) ∧ VR w F B c av r ∧ K av := by
  unfold sliceV at h
  split at h
  · rename_i s hs
    have e1 := val_of_scalar rfl hx; subst e1
    obtain ⟨hn, ⟨h1, h2⟩, hhn⟩ := bndV_spec hhi h
    obtain ⟨ln, ⟨h3, h4⟩, hln⟩ := bndV_spec hlo h2
    refine ⟨.string (s.extract ln hn), _, fun W => ?_, ?_, h4 _ rfl⟩
    · have := run_sliceBounds (P := P) (isS := false) (len := s.size) (cap := s.size) hhn hln h1 h3 W
      simp [Instr.sliceAt, Instr.slice, run_underlying (shapeT_str hs), valD, this]
    · simp [VR, DRv, DRc]
  · rename_i z xs hs
    split at h
    · rename_i e sz b hei
      obtain ⟨ti, hu, hti, hz, h0, hag, hb⟩ := elemI_spec hei
      obtain ⟨rfl, h⟩ := h
      simp only [VR, DRv, DRc] at hx
      obtain ⟨A, cc, hu', hl, hm, hr⟩ := hx
      simp only [List.cons.injEq, and_true] at hu'
      subst hu'
      obtain ⟨hn, ⟨h1, h2⟩, hhn⟩ := bndV_spec hhi h
      obtain ⟨ln, ⟨h3, h4⟩, hln⟩ := bndV_spec hlo h2
      refine ⟨.slice (if cc = ln then A else A.map (·.add (ln * z))) (hn - ln) (cc - ln), _, fun W => ?_, ?_, h4 _ rfl⟩
      · have := run_sliceBounds (P := P) (isS := true) (len := xs.length) (cap := cc) hhn hln (by omega) h3 W
        simp only [Instr.sliceAt, Instr.slice, Sem.run_bind, run_underlying hu, Result.andThen_ok, this, run_sizeOf hti, hz, Sem.run_pure]
      · simp only [VR, DRv, DRc]
        have hlen : (List.drop ln (List.take hn xs)).length = hn - ln := by simp; omega
        refine ⟨_, _, by rw [hlen], by rw [hlen]; omega, by omega, ?_⟩
        by_cases he : List.drop ln (List.take hn xs) = []
        · exact .inl he
        · right
          rcases hr with rfl | ⟨ad, cs, rfl, hF, hC, hD⟩
          · simp at he
          · have hlt : ln < hn := by
              rcases Nat.lt_or_ge ln hn with h' | h'
              · exact h'
              · exact absurd (List.drop_eq_nil_of_le (by simp; omega)) he
            rw [if_neg (by omega)]
            refine ⟨_, _, rfl, by rw [add_block]; exact hF, hC.sub (ln * z) ((hn - ln) * z), ?_⟩
            have := (hD.drop ln).take (hn - ln)
            rw [List.drop_take]
            exact this
    · exact h.elim
  · rename_i k g z off len hs
    split at h
    · rename_i e sz b hei
      obtain ⟨ti, hu, hti, hz, h0, hag, hb⟩ := elemI_spec hei
      obtain ⟨rfl, h⟩ := h
      obtain ⟨hn, ⟨h1, h2⟩, hhn⟩ := bndV_spec hhi h
      obtain ⟨ln, ⟨h3, h4⟩, hln⟩ := bndV_spec hlo h2
      simp only [VR] at hx
      obtain ⟨hg, hx⟩ := hx
      split at hx
      · rename_i hB
        obtain ⟨rfl, rfl, rfl⟩ := hx
        have e1 : hn = 0 := by omega
        have e2 : ln = 0 := by omega
        subst e1; subst e2
        refine ⟨.slice none 0 0, _, fun W => ?_, ?_, h4 _ rfl _ rfl⟩
        · have := run_sliceBounds (P := P) (isS := true) (len := 0) (cap := 0) hhn hln (by omega) (by omega) W
          simp [Instr.sliceAt, Instr.slice, run_underlying hu, this, run_sizeOf hti, hz]
        · simp only [VR, hB]
          exact ⟨hg, by simp⟩
      · rename_i bb m hB
        obtain ⟨ad, rfl, hcap, had⟩ := hx
        refine ⟨.slice (if m - off = ln then some ad else some (ad.add (ln * z))) (hn - ln) (m - off - ln), _, fun W => ?_, ?_, h4 _ rfl _ rfl⟩
        · have := run_sliceBounds (P := P) (isS := true) (len := len) (cap := m - off) hhn hln (by omega) h3 W
          simp only [Instr.sliceAt, Instr.slice, Sem.run_bind, run_underlying hu, Result.andThen_ok, this, run_sizeOf hti, hz, Sem.run_pure]
          rfl
        · simp only [VR, hB]
          refine ⟨hg, if m - off = ln then ad else ad.add (ln * z), ?_, by omega, ?_⟩
          · rw [Nat.sub_sub]; split <;> rfl
          · rcases Nat.eq_zero_or_pos ln with rfl | hpos
            · simp only [Nat.zero_mul, Nat.add_zero, Nat.sub_zero]
              have e : ad.add 0 = ad := by simp [Addr.add]
              rw [e, ite_self]
              rcases had with rfl | ⟨e1, e2⟩
              · exact .inl rfl
              · exact .inr ⟨by omega, e2⟩
            · by_cases hm : m - off = ln
              · exact .inr ⟨by omega, by omega⟩
              · rw [if_neg hm]
                rcases had with rfl | ⟨e1, e2⟩
                · exact .inl (by rw [add_plain, Nat.add_mul])
                · omega
    · exact h.elim
  · rename_i hs
    split at h
    · rename_i e sz b hei
      obtain ⟨ti, hu, hti, hz, h0, hag, hb⟩ := elemI_spec hei
      obtain ⟨hn, ⟨h1, h2⟩, hhn⟩ := bndV_spec hhi h
      obtain ⟨ln, ⟨h3, h4⟩, hln⟩ := bndV_spec hlo h2
      simp only [VR] at hx
      subst hx
      have e1 : hn = 0 := by omega
      have e2 : ln = 0 := by omega
      subst e1; subst e2
      refine ⟨.slice none 0 0, _, fun W => ?_, ?_, h4⟩
      · have := run_sliceBounds (P := P) (isS := true) (len := 0) (cap := 0) hhn hln (by omega) (by omega) W
        simp [Instr.sliceAt, Instr.slice, run_underlying hu, this, run_sizeOf hti, hz]
      · simp only [VR]
    · exact h.elim
  · exact h.elim
end
end Go.Fw
namespace Go.Fw
open Go
set_option linter.unusedVariables false
set_option linter.unusedSimpArgs false
section
variable {P : Program} {w : World} {F : Nat → Prop} {B : Blk} {c : Nat} {K : AV → Prop}
theorem run_mapM_list {α β : Type} (f : α → Sem β) (g : α → β) (W : World) : ∀ (l : List α), (∀ x ∈ l, (f x).run P W = .ok (g x) W) → (l.mapM f).run P W = .ok (l.map g) W
  | [], _ => by simp
  | x :: r, h => by
    rw [List.mapM_cons]
    simp [h x (by simp), run_mapM_list f g W r (fun y hy => h y (by simp [hy]))]
theorem foldl_set (new : List Value) : ∀ (cells : Array Value) (off k : Nat), off + k + new.length ≤ cells.size →
    ((new.zipIdx k).foldl (fun (cs : Array Value) (x : Value × Nat) => cs.setIfInBounds (off + x.2) x.1) cells).toList = cells.toList.take (off + k) ++ new ++ cells.toList.drop (off + k + new.length) := by
  induction new with
  | nil => intro cells off k h; simp
  | cons v r ih =>
    intro cells off k h
    simp only [List.length_cons] at h
    simp only [List.zipIdx_cons, List.foldl_cons]
    rw [ih _ off (k + 1) (by simp; omega)]
    rw [Array.toList_setIfInBounds]
    have hlt : off + k < cells.toList.length := by simp; omega
    have e1 : (cells.toList.set (off + k) v).take (off + (k + 1)) = cells.toList.take (off + k) ++ [v] := by
      rw [← Nat.add_assoc, List.take_succ_eq_append_getElem (by simpa using hlt)]
      rw [List.take_set_of_le (Nat.le_refl _)]
      simp
    have e2 : (cells.toList.set (off + k) v).drop (off + (k + 1) + r.length) = cells.toList.drop (off + k + (r.length + 1)) := by
      rw [List.drop_set_of_lt (by omega)]
      congr 1
      omega
    rw [e1, e2]
    simp
theorem VRl_setCells {cs new : List AV} {vs nv : List Value} {off : Nat} (h : VRl w F B c cs vs) (hn : VRl w F B c new nv) : VRl w F B c (setCells cs off new) (vs.take off ++ nv ++ vs.drop (off + nv.length)) := by
  unfold setCells
  rw [hn.length]
  exact ((h.take off).append hn).append (h.drop _)
theorem cellsOK_setCells {cs new : List AV} {off : Nat} (h : cellsOK cs = true) (hn : cellsOK new = true) : cellsOK (setCells cs off new) = true := by
  unfold setCells
  exact cellsOK_append (cellsOK_append (cellsOK_take _ h) hn) (cellsOK_drop _ h)
theorem avCells_VR {x : AV} {v : Value} (h : VR w F B c x v) (hne : avCells x ≠ []) : VRl w F B c (avCells x) v.cells.toList := by
  have one : ∀ {y : AV} {u : Value}, VR w F B c y u → u.cells = #[u] → VRl w F B c [y] u.cells.toList := by
    intro y u h1 h2
    rw [h2]
    simp only [VRl]
    exact ⟨u, [], rfl, h1, rfl⟩
  cases x with
  | d x =>
    cases x with
    | agg l =>
      simp only [VR, DRv] at h
      obtain ⟨cs, rfl, hl⟩ := h
      exact (VRl_of_DRl hl).1
    | sl z l =>
      refine one h ?_
      simp only [VR, DRv, DRc] at h
      obtain ⟨A, cc, hu, _⟩ := h
      simp only [List.cons.injEq, and_true] at hu
      subst hu; rfl
    | ptr y =>
      refine one h ?_
      simp only [VR, DRv, DRc] at h
      obtain ⟨A, cc, hu, _⟩ := h
      simp only [List.cons.injEq, and_true] at hu
      subst hu; rfl
    | clo fn f cp =>
      refine one h ?_
      simp only [VR, DRv, DRc] at h
      obtain ⟨A, cc, hu, _⟩ := h
      simp only [List.cons.injEq, and_true] at hu
      subst hu; rfl
    | _ => refine one h ?_; simp only [VR, DRv, DRc, List.cons.injEq, and_true] at h; subst h; rfl
  | nils => refine one h ?_; simp only [VR] at h; subst h; rfl
  | ref k g z off len =>
    refine one h ?_
    simp only [VR] at h
    obtain ⟨_, h⟩ := h
    split at h
    · obtain ⟨rfl, _⟩ := h; rfl
    · obtain ⟨ad, rfl, _⟩ := h; rfl
  | elt k g z j o => refine one h ?_; simp only [VR] at h; obtain ⟨_, b, n, _, rfl⟩ := h; rfl
  | addr k g o => refine one h ?_; simp only [VR] at h; obtain ⟨_, b, n, _, rfl⟩ := h; rfl
  | mp k g => refine one h ?_; simp only [VR] at h; obtain ⟨_, b, n, _, rfl⟩ := h; rfl
  | nref k g len =>
    refine one h ?_
    simp only [VR] at h
    obtain ⟨_, h⟩ := h
    split at h
    · rw [h.1]; rfl
    · rw [h]; rfl
  | sub k g j z len =>
    refine one h ?_
    simp only [VR] at h
    obtain ⟨_, b, n, _, h, _⟩ := h
    rw [h]
    unfold slv
    split <;> rfl
  | selt k g j z len =>
    refine one h ?_
    simp only [VR] at h
    obtain ⟨_, b, n, b', n', _, _, h⟩ := h
    rw [h]
    rfl
  | agg l => simp only [VR] at h; obtain ⟨cs, rfl, _, hl⟩ := h; exact hl
  | tup l => exact absurd rfl hne
  | clo fn f cp => refine one h ?_; simp only [VR] at h; obtain ⟨fv, cv, rfl, _⟩ := h; rfl
  | opt q x => exact absurd rfl hne
  | dead => exact absurd rfl hne
 
def PartsVR (w : World) (F : Nat → Prop) (B : Blk) (c : Nat) : List (Nat × AV) → List (Nat × Value) → Prop
  | [], vs => vs = []
  | (i, x) :: r, vs => ∃ v vs', vs = (i, v) :: vs' ∧ VR w F B c x v ∧ PartsVR w F B c r vs'
theorem fillV_run {t : TypeId} {place : Nat → Option (Nat × Nat)} (hpl : ∀ i off sz b, fieldI P t i = some (off, sz, b) → place i = some (off, sz)) {K : List AV → Prop} :
    ∀ {parts : List (Nat × AV)} {vs : List (Nat × Value)} {cs : List AV} {cells : Array Value}, PartsVR w F B c parts vs → cellsOK cs = true → VRl w F B c cs cells.toList → fillV P t cs parts K →
      ∃ cells' cs', Instr.fill place cells vs = some cells' ∧ cellsOK cs' = true ∧ VRl w F B c cs' cells'.toList ∧ K cs'
  | [], vs, cs, cells, hp, hc, hv, h => by
    simp only [PartsVR] at hp
    subst hp
    exact ⟨cells, cs, rfl, hc, hv, h⟩
  | (i, x) :: r, vs, cs, cells, hp, hc, hv, h => by
    simp only [PartsVR] at hp
    obtain ⟨v, vs', rfl, hx, hr⟩ := hp
    simp only [fillV] at h
    split at h
    · rename_i off sz b hfi
      obtain ⟨h1, h2, h3, h4⟩ := h
      obtain ⟨fs, fd, ti, hu, hfd, hoff, hi, hz, h0, hag, hb⟩ := fieldI_spec hfi
      have hne : avCells x ≠ [] := by intro e; rw [e] at h1; simp at h1; omega
      have hcx := avCells_VR hx hne
      have hlen : v.cells.size = sz := by have := hcx.length; rw [← h1, ← this]; simp
      have hcl : cs.length = cells.size := by have := hv.length; simpa using this.symm
      have hfold : (v.cells.zipIdx.foldl (fun (cs : Array Value) (x : Value × Nat) => cs.setIfInBounds (off + x.2) x.1) cells).toList = cells.toList.take off ++ v.cells.toList ++ cells.toList.drop (off + v.cells.toList.length) := by
        have := foldl_set v.cells.toList cells off 0 (by simp; omega)
        rw [← Array.foldl_toList, Array.toList_zipIdx]
        simpa using this
      have hv' : VRl w F B c (setCells cs off (avCells x)) (v.cells.zipIdx.foldl (fun (cs : Array Value) (x : Value × Nat) => cs.setIfInBounds (off + x.2) x.1) cells).toList := by
        rw [hfold]
        exact VRl_setCells hv hcx
      obtain ⟨cells', cs', e, hc', hv'', hk⟩ := fillV_run hpl hr (cellsOK_setCells hc h3) hv' h4
      refine ⟨cells', cs', ?_, hc', hv'', hk⟩
      simp only [Instr.fill, hpl i off sz b hfi]
      rw [if_neg (by simp [hlen]; omega)]
      exact e
    · exact h.elim
theorem zero_VR (z : Value) (w : World) (F : Nat → Prop) (B : Blk) (c : Nat) : ∀ l : List Value, VRl w F B c (l.map cAV) l
  | [] => by simp [VRl]
  | v :: r => by simp only [List.map_cons, VRl]; exact ⟨v, r, rfl, cAV_VR .., zero_VR z w F B c r⟩
theorem buildV_run {t : TypeId} {parts : List (Nat × AV)} {vs : Array (Nat × Value)} (hp : PartsVR w F B c parts vs.toList) (h : buildV P t parts K) :
    ∃ v av, (∀ W, (Instr.build t vs).run P W = .ok v W) ∧ VR w F B c av v ∧ K av := by
  obtain ⟨hok, h⟩ := h
  unfold buildOK at hok
  split at hok
  · rename_i fs hu
    split at h
    · rename_i z hz
      obtain ⟨hcz, h⟩ := h
      unfold zeroI at hz
      split at hz
      · rename_i ti hti
        split at hz
        · rename_i zv hzv
          simp only [Option.some.injEq] at hz
          subst hz
          have hpl : ∀ i off sz b, fieldI P t i = some (off, sz, b) → (fs.map fun f => (f.offset, P.cellsOf f.type))[i]? = some (off, sz) := by
            intro i off sz b hfi
            obtain ⟨fs', fd, i', hu', hfd, hoff, hi, hsz, _⟩ := fieldI_spec hfi
            rw [hu] at hu'
            simp only [Option.some.injEq, TypeDesc.struct.injEq] at hu'
            subst hu'
            simp [hfd, hoff, Program.cellsOf, hi, hsz]
          obtain ⟨cells', cs', e, hc', hv', hk⟩ := fillV_run (P := P) hpl hp hcz (zero_VR zv w F B c _) h
          refine ⟨.agg cells', _, fun W => ?_, mkAgg_VR hc' hv', hk⟩
          have hm : (fs.mapM fun f => do pure (f.offset, ← sizeOf f.type) : Sem (Array (Nat × Nat))).run P W = .ok (fs.map fun f => (f.offset, P.cellsOf f.type)) W := by
            rw [Array.mapM_eq_mapM_toList]
            rw [Sem.run_map, run_mapM_list (P := P) _ (fun f => (f.offset, P.cellsOf f.type)) W fs.toList ?_]
            · simp
              exact Array.ext' (by simp)
            · intro f hf
              have := List.all_eq_true.1 hok f hf
              obtain ⟨i, hi⟩ := Option.isSome_iff_exists.1 this
              simp [run_sizeOf hi, Program.cellsOf, hi]
          have hzr : (zeroValue t).run P W = .ok zv W := by simp [zeroValue, typeInfo, hti, hzv]
          simp only [Instr.build, Sem.run_bind, Result.andThen_ok, hzr, run_underlying hu, hm, e, Sem.run_pure]
        · cases hz
      · cases hz
    · exact h.elim
  · cases hok
theorem mkClo_VR {fn : Fn} {f cp : List AV} {fv cv : Array Value} (hf : VRl w F B c f fv.toList) (hc : VRl w F B c cp cv.toList) (h1 : cellsOK f = true) (h2 : cellsOK cp = true) : VR w F B c (mkClo fn f cp) (.func fn fv cv) := by
  unfold mkClo
  split
  · rename_i fs cs e1 e2
    simp only [VR, DRv, DRc]
    exact ⟨fv, cv, rfl, DRl_of_VRl e1 h1 hf, DRl_of_VRl e2 h2 hc⟩
  · simp only [VR]; exact ⟨fv, cv, rfl, hf, hc⟩
end
 
theorem valV_run {P : Program} {F : Nat → Prop} {B : Blk} {w : World} {S : St} {a : Act} {K : AV → Prop} (hf : FR F B w S a) (o : Oper) (h : valV P o.op S K) :
    ∃ v av, (∀ W, (execOp a.eval o).run P W = .ok (.value v) W) ∧ VR w F B S.c av v ∧ K av := by
  obtain ⟨dst, op, ty, pos, after, guard⟩ := o
  have sc : ∀ {r : D}, r.scalar = true → VR w F B S.c (.d r) (valD r) := fun h => valD_VR h
  cases op <;> simp only [valV] at h <;> try exact h.elim
  case move x => exact ⟨a.eval x, S.ev x, fun W => by simp [execOp], ev_VR hf x, h⟩
  case pick c x y =>
    have hc := ev_VR hf c
    split at h
    · rename_i b e
      rw [e] at hc
      have := val_of_scalar rfl hc
      have old : (b = true → K (S.ev x)) ∧ (b = false → K (S.ev y)) → ∃ v av, (∀ W, (execOp a.eval ⟨dst, .pick c x y, ty, pos, after, guard⟩).run P W = .ok (.value v) W) ∧ VR w F B S.c av v ∧ K av := by
        intro h
        cases b
        · exact ⟨a.eval y, S.ev y, fun W => by simp [execOp, this, valD, asBool], ev_VR hf y, h.2 rfl⟩
        · exact ⟨a.eval x, S.ev x, fun W => by simp [execOp, this, valD, asBool], ev_VR hf x, h.1 rfl⟩
      have ob : ∀ {z : Operand} {cz p : Bool}, optB (S.ev z) = some (cz, p) → cz = true → a.eval z = .bool p := by
        intro z cz p hz hcz
        have hv := ev_VR hf z
        unfold optB at hz
        split at hz
        · rename_i e1
          simp only [Option.some.injEq, Prod.mk.injEq] at hz
          rw [e1] at hv
          rw [← hz.2]
          exact val_of_scalar rfl hv
        · rename_i e1
          simp only [Option.some.injEq, Prod.mk.injEq] at hz
          rw [e1] at hv
          simp only [VR] at hv
          rw [← hz.2]
          exact val_of_scalar (F := F) (B := B) (w := w) (c := S.c) rfl (by simpa only [VR] using hv.1 (by rw [hz.1]; exact hcz))
        · simp only [Option.some.injEq, Prod.mk.injEq] at hz
          rw [← hz.1] at hcz
          cases hcz
        · cases hz
      unfold pickV at h
      split at h
      · rename_i ca p ha
        split at h
        · rename_i cb q hb
          obtain ⟨⟨k1, k2⟩, h⟩ := h
          have hbx : bx x y b p q = bif b then p else q := bx_eq x y S b p q
            (fun e => by subst e; simp only [St.ev, cAV, optB, Option.some.injEq, Prod.mk.injEq] at ha; exact ha.2.symm)
            (fun e => by subst e; simp only [St.ev, cAV, optB, Option.some.injEq, Prod.mk.injEq] at hb; exact hb.2.symm)
          refine ⟨.bool (bif b then p else q), .d (.bool (bif b then p else q)), fun W => ?_, by simp [VR, DRv, DRc], h _ hbx⟩
          cases b
          · have := ob hb (k2 rfl)
            simp [execOp, ‹a.eval c = _›, valD, asBool, this]
          · have := ob ha (k1 rfl)
            simp [execOp, ‹a.eval c = _›, valD, asBool, this]
        · exact old h
      · exact old h
    · exact h.elim
  case binOp op t x y yt =>
    obtain ⟨r, h1, h2, h3⟩ := binV_run (ev_VR hf x) (ev_VR hf y) h
    exact ⟨_, _, fun W => by simp only [execOp, Sem.run_bind, h2 x y W, Result.andThen_ok, Sem.run_pure], sc h1, h3⟩
  case unOp op t x =>
    obtain ⟨r, h1, h2, h3⟩ := unV_run (P := P) (ev_VR hf x) h
    exact ⟨_, _, fun W => by simp only [execOp, Sem.run_bind, h2 W, Result.andThen_ok, Sem.run_pure], sc h1, h3⟩
  case convert src dst x =>
    obtain ⟨r, h1, h2, h3⟩ := convV_run (ev_VR hf x) h
    exact ⟨_, _, fun W => by simp only [execOp, Sem.run_bind, h2 W, Result.andThen_ok, Sem.run_pure], sc h1, h3⟩
  case fieldAddr s x f =>
    obtain ⟨v, av, h1, h2, h3⟩ := fieldAddrV_run (ev_VR hf x) h
    exact ⟨_, _, fun W => by simp only [execOp, Sem.run_bind, h1 W, Result.andThen_ok, Sem.run_pure], h2, h3⟩
  case field s x f =>
    obtain ⟨v, av, h1, h2, h3⟩ := fieldV_run (ev_VR hf x) h
    exact ⟨_, _, fun W => by simp only [execOp, Sem.run_bind, h1 W, Result.andThen_ok, Sem.run_pure], h2, h3⟩
  case indexAddr t x i =>
    obtain ⟨v, av, h1, h2, h3⟩ := indexAddrV_run (ev_VR hf x) (ev_VR hf i) h
    exact ⟨_, _, fun W => by simp only [execOp, Sem.run_bind, h1 W, Result.andThen_ok, Sem.run_pure], h2, h3⟩
  case index t x i =>
    obtain ⟨v, av, h1, h2, h3⟩ := indexV_run (ev_VR hf x) (ev_VR hf i) h
    exact ⟨_, _, fun W => by simp only [execOp, Sem.run_bind, h1 W, Result.andThen_ok, Sem.run_pure], h2, h3⟩
  case slice t x lo hi mx =>
    cases mx with
    | some m => exact h.elim
    | none =>
      obtain ⟨v, av, h1, h2, h3⟩ := sliceV_run (P := P) (lo' := lo.map a.eval) (hi' := hi.map a.eval) (ev_VR hf x) (by cases lo <;> simp [ev_VR hf]) (by cases hi <;> simp [ev_VR hf]) h
      exact ⟨_, _, fun W => by simp only [execOp, Sem.run_bind, Option.map_none, h1 W, Result.andThen_ok, Sem.run_pure], h2, h3⟩
  case extract x i =>
    obtain ⟨v, av, h1, h2, h3⟩ := extractV_run (P := P) (ev_VR hf x) h
    exact ⟨_, _, fun W => by simp only [execOp, Sem.run_bind, h1 W, Result.andThen_ok, Sem.run_pure], h2, h3⟩
  case nilCheck x =>
    obtain ⟨h1, ad, h2⟩ := nilCheckV_run (ev_VR hf x) h
    exact ⟨.pointer (some ad), _, fun W => by simp only [execOp, h2, Sem.run_pure], by rw [← h2]; exact ev_VR hf x, h1⟩
  case build t parts =>
    have hp : PartsVR w F B S.c (parts.toList.map fun p => (p.1, S.ev p.2)) (parts.map fun p => (p.1, a.eval p.2)).toList := by
      rw [Array.toList_map]
      generalize parts.toList = l
      induction l with
      | nil => simp [PartsVR]
      | cons p r ih => simp only [List.map_cons, PartsVR]; exact ⟨_, _, rfl, ev_VR hf _, ih⟩
    obtain ⟨v, av, h1, h2, h3⟩ := buildV_run (P := P) hp h
    exact ⟨_, _, fun W => by simp only [execOp, Sem.run_bind, h1 W, Result.andThen_ok, Sem.run_pure], h2, h3⟩
  case makeFunc fn f cp =>
    have hl : ∀ l : List Operand, VRl w F B S.c (l.map S.ev) (l.map a.eval) := by
      intro l
      induction l with
      | nil => simp [VRl]
      | cons x r ih => simp only [List.map_cons, VRl]; exact ⟨_, _, rfl, ev_VR hf x, ih⟩
    exact ⟨.func fn (f.map a.eval) (cp.map a.eval), _, fun W => by simp [execOp, Instr.makeFunc], mkClo_VR (by rw [Array.toList_map]; exact hl _) (by rw [Array.toList_map]; exact hl _) h.1 h.2.1, h.2.2⟩
  case call cl =>
    obtain ⟨callee, args, ats⟩ := cl
    cases callee <;> simp only at h <;> try exact h.elim
    rename_i b
    have hl : ∀ l : List Operand, VRl w F B S.c (l.map S.ev) (l.map a.eval) := by
      intro l
      induction l with
      | nil => simp [VRl]
      | cons x r ih => simp only [List.map_cons, VRl]; exact ⟨_, _, rfl, ev_VR hf x, ih⟩
    have hh := hl args.toList
    have hargs : args.map a.eval = (args.toList.map a.eval).toArray := Array.ext' (by simp)
    generalize hxs : args.toList.map S.ev = xs at h hh
    unfold builtinV at h
    split at h
    · split at h
      · rename_i x t ha
        simp only [VRl] at hh
        obtain ⟨v, vs', e, hv, rfl⟩ := hh
        obtain ⟨r, h1, h2, h3⟩ := lenV_run (P := P) (ty := ty) ha hv h
        exact ⟨_, _, fun W => by simp only [execOp, resolve, invoke, builtin, Sem.run_bind, Sem.run_pure, Result.andThen_ok, hargs, e, h2 W], sc h1, h3⟩
      · exact h.elim
    · split at h
      · rename_i x t ha
        simp only [VRl] at hh
        obtain ⟨v, vs', e, hv, rfl⟩ := hh
        obtain ⟨r, h1, h2, h3⟩ := capV_run (P := P) (ty := ty) ha hv h
        exact ⟨_, _, fun W => by simp only [execOp, resolve, invoke, builtin, Sem.run_bind, Sem.run_pure, Result.andThen_ok, hargs, e, h2 W], sc h1, h3⟩
      · exact h.elim
    · obtain ⟨r, h1, h2, h3⟩ := mmV_run (P := P) hh h
      exact ⟨_, _, fun W => by
        have := h2 W ats ty
        simp only [Bool.false_eq_true, if_false] at this
        simp only [execOp, resolve, invoke, builtin, Sem.run_bind, Sem.run_pure, Result.andThen_ok, hargs, this], sc h1, h3⟩
    · obtain ⟨r, h1, h2, h3⟩ := mmV_run (P := P) hh h
      exact ⟨_, _, fun W => by
        have := h2 W ats ty
        simp only [if_true] at this
        simp only [execOp, resolve, invoke, builtin, Sem.run_bind, Sem.run_pure, Result.andThen_ok, hargs, this], sc h1, h3⟩
    · exact h.elim
end Go.Fw
