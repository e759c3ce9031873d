/- What the proofs of this seat lean on, part 16: a symbolic machine that is shown sound, walks through functions, plain laws. -/
import Derived.Test.YtcmbobdkilcjeaaDoorZ14
import Derived.Test.YtcmbobdkilcjeaaDoorZ15
import Derived.Lib.DecodeN
import Derived.Lib.RuneCountTail
import Derived.Lib.TrimU
import Derived.Lib.ItoaNum
namespace Go.Fw
open Go
set_option linter.unusedVariables false
set_option linter.unusedSimpArgs false
 
def psz (s : ByteArray) (i : Nat) : Nat := (Utf8.decode s i).2
theorem psz_pos (s : ByteArray) (i : Nat) : 1 ≤ psz s i := Lib.width_pos s i
theorem decodeN_le (n b0 b1 b2 b3 : Nat) (hn : 1 ≤ n) : (Lib.decodeN n b0 b1 b2 b3).2 ≤ n := by
  unfold Lib.decodeN
  repeat' split
  all_goals simp only
  all_goals omega
theorem psz_le {s : ByteArray} {i : Nat} (h : i < s.size) : i + psz s i ≤ s.size := by
  have := decodeN_le (s.size - i) (s.get! i).toNat (s.get! (i + 1)).toNat (s.get! (i + 2)).toNat (s.get! (i + 3)).toNat (by omega)
  unfold psz
  rw [Lib.decode_at]
  omega
theorem psz_tail (s : ByteArray) (n j : Nat) : psz (s.extract n s.size) j = psz s (n + j) := by unfold psz; rw [Lib.tail_decode]
 
def ppos (s : ByteArray) : Nat → Nat
  | 0 => 0
  | k + 1 => if ppos s k < s.size then ppos s k + psz s (ppos s k) else s.size
theorem ppos_le (s : ByteArray) : ∀ k, ppos s k ≤ s.size
  | 0 => Nat.zero_le _
  | k + 1 => by
    rw [ppos]
    split
    · rename_i h; exact psz_le h
    · exact Nat.le_refl _
theorem ppos_succ {s : ByteArray} {k : Nat} (h : ppos s k < s.size) : ppos s (k + 1) = ppos s k + psz s (ppos s k) := by rw [ppos, if_pos h]
theorem ppos_step (s : ByteArray) (k : Nat) : ppos s k ≤ ppos s (k + 1) := by
  have := ppos_le s k
  rw [ppos]
  split <;> omega
theorem ppos_mono (s : ByteArray) {j k : Nat} (h : j ≤ k) : ppos s j ≤ ppos s k := by
  induction k with
  | zero => rw [Nat.le_zero.1 h]; exact Nat.le_refl _
  | succ k ih =>
    rcases Nat.le_succ_iff.1 h with h | h
    · exact Nat.le_trans (ih h) (ppos_step s k)
    · rw [h]; exact Nat.le_refl _
theorem ppos_end {s : ByteArray} {j k : Nat} (h : s.size ≤ ppos s j) (hk : j ≤ k) : ppos s k = s.size :=
  Nat.le_antisymm (ppos_le s k) (Nat.le_trans h (ppos_mono s hk))
theorem ppos_ge (s : ByteArray) : ∀ k, min k s.size ≤ ppos s k
  | 0 => by simp
  | k + 1 => by
    have h1 := ppos_ge s k
    have h2 := psz_pos s (ppos s k)
    rw [ppos]
    split <;> omega
 
structure IsN (s : ByteArray) (k : Nat) : Prop where
  last : s.size ≤ ppos s k
  all : ∀ j, j < k → ppos s j < s.size
theorem IsN.eq {s : ByteArray} {j k : Nat} (h : IsN s j) (h' : IsN s k) : j = k := by
  rcases Nat.lt_trichotomy j k with hlt | he | hlt
  · have := h'.all j hlt; have := h.last; omega
  · exact he
  · have := h.all k hlt; have := h'.last; omega
def nptsG (s : ByteArray) : Nat → Nat → Nat
  | 0, _ => 0
  | f + 1, p => if p < s.size then nptsG s f (p + psz s p) + 1 else 0
def npts (s : ByteArray) : Nat := nptsG s s.size 0
theorem nptsG_spec (s : ByteArray) : ∀ f k, s.size ≤ ppos s k + f → (∀ j, j < k → ppos s j < s.size) → IsN s (k + nptsG s f (ppos s k))
  | 0, k, hf, h => ⟨by simpa [nptsG] using hf, by simpa [nptsG] using h⟩
  | f + 1, k, hf, h => by
    rw [nptsG]
    split
    · rename_i hp
      have h1 := psz_pos s (ppos s k)
      have := nptsG_spec s f (k + 1) (by rw [ppos_succ hp]; omega) (fun j hj => by
        rcases Nat.lt_succ_iff_lt_or_eq.1 hj with hj | hj
        · exact h j hj
        · rw [hj]; exact hp)
      rw [ppos_succ hp] at this
      rwa [show k + (nptsG s f (ppos s k + psz s (ppos s k)) + 1) = k + 1 + nptsG s f (ppos s k + psz s (ppos s k)) by omega]
    · exact ⟨by simpa using (by omega : s.size ≤ ppos s k), by simpa using h⟩
theorem npts_isN (s : ByteArray) : IsN s (npts s) := by
  have := nptsG_spec s s.size 0 (by simp [ppos]) (fun j hj => absurd hj (Nat.not_lt_zero _))
  simpa [ppos, npts] using this
theorem npts_of {s : ByteArray} {k : Nat} (h1 : s.size ≤ ppos s k) (h2 : ∀ j, j < k → ppos s j < s.size) : k = npts s := IsN.eq ⟨h1, h2⟩ (npts_isN s)
theorem upto_lt {p : Nat → Nat} {n k : Nat} (h : ∀ j, j < k → p j < n) (hk : p k < n) : ∀ j, j < k + 1 → p j < n := fun j hj => by
  rcases Nat.lt_succ_iff_lt_or_eq.1 hj with hj | hj
  · exact h j hj
  · rw [hj]; exact hk
theorem npts_le (s : ByteArray) : npts s ≤ s.size := by
  have h := npts_isN s
  rcases Nat.eq_zero_or_pos (npts s) with h0 | h0
  · omega
  · have h1 := h.all (npts s - 1) (by omega)
    have h2 := ppos_ge s (npts s - 1)
    omega
 
def subS (s : ByteArray) (fr n : Nat) : ByteArray := s.extract (ppos s fr) (ppos s (fr + n))
 
def ptv (s : ByteArray) (i : Nat) : Int := if Utf8.decode s i = (65533, 1) then 1114112 + bAt s i else ((Utf8.decode s i).1 : Int)
theorem bAt_get (s : ByteArray) (i : Nat) : bAt s i = ((s.get! i).toNat : Int) := by
  unfold bAt
  congr 2
  rw [← Lib.getD_get!']
theorem bAt_lt (s : ByteArray) (i : Nat) : 0 ≤ bAt s i ∧ bAt s i < 256 := by
  rw [bAt_get]
  have := (s.get! i).toNat_lt
  omega
def isTail (c : Int) : Bool := decide (128 ≤ c) && decide (c < 192)
section
variable {s : ByteArray}
theorem dec0 (h : 0 < s.size) : Utf8.decode s 0 = Lib.decodeN s.size (bAt s 0).toNat (bAt s 1).toNat (bAt s 2).toNat (bAt s 3).toNat := by
  rw [Lib.decode_at]
  simp only [bAt_get, Int.toNat_natCast, Nat.sub_zero, Nat.zero_add]
theorem pt_of {n : Nat} {v : Int} {k : Nat} (h : 0 < s.size) (hd : ∃ r, Lib.decodeN s.size (bAt s 0).toNat (bAt s 1).toNat (bAt s 2).toNat (bAt s 3).toNat = (r, k) ∧ (if r = 65533 ∧ k = 1 then 1114112 + bAt s 0 else (r : Int)) = v) : ptv s 0 = v ∧ psz s 0 = k := by
  obtain ⟨r, h1, h2⟩ := hd
  unfold ptv psz
  rw [dec0 h, h1]
  refine ⟨?_, rfl⟩
  rw [← h2]
  by_cases hc : r = 65533 ∧ k = 1
  · rw [if_pos hc, if_pos (by rw [hc.1, hc.2])]
  · rw [if_neg hc, if_neg (by simpa using hc)]
set_option maxHeartbeats 4000000
theorem pt1 (h : 0 < s.size) (h0 : bAt s 0 < 128) : ptv s 0 = bAt s 0 ∧ psz s 0 = 1 := by
  have b0 := bAt_lt s 0
  refine pt_of (n := 0) h ⟨(bAt s 0).toNat, ?_, ?_⟩
  · unfold Lib.decodeN; rw [if_pos (by omega)]
  · rw [if_neg (by omega)]; omega
theorem pt2 (h : 0 < s.size) (h0 : 194 ≤ bAt s 0 ∧ bAt s 0 < 224) (hs : 1 < s.size) (h1 : 128 ≤ bAt s 1 ∧ bAt s 1 < 192) : ptv s 0 = (bAt s 0 - 192) * 64 + bAt s 1 - 128 ∧ psz s 0 = 2 := by
  refine pt_of (n := 0) h ⟨(bAt s 0).toNat % 32 * 64 + (bAt s 1).toNat % 64, ?_, ?_⟩
  · unfold Lib.decodeN; rw [if_neg (by omega), if_pos (by omega), if_pos (by omega)]
  · rw [if_neg (by omega)]; omega
theorem pt3 (h : 0 < s.size) (h0 : 224 ≤ bAt s 0 ∧ bAt s 0 < 240) (hs : 2 < s.size) (h1 : 128 ≤ bAt s 1 ∧ bAt s 1 < 192) (h2 : 128 ≤ bAt s 2 ∧ bAt s 2 < 192)
    (hx : 2048 ≤ (bAt s 0 - 224) * 4096 + (bAt s 1 - 128) * 64 + bAt s 2 - 128 ∧ ((bAt s 0 - 224) * 4096 + (bAt s 1 - 128) * 64 + bAt s 2 - 128 < 55296 ∨ 57343 < (bAt s 0 - 224) * 4096 + (bAt s 1 - 128) * 64 + bAt s 2 - 128)) :
    ptv s 0 = (bAt s 0 - 224) * 4096 + (bAt s 1 - 128) * 64 + bAt s 2 - 128 ∧ psz s 0 = 3 := by
  refine pt_of (n := 0) h ⟨(bAt s 0).toNat % 16 * 4096 + (bAt s 1).toNat % 64 * 64 + (bAt s 2).toNat % 64, ?_, ?_⟩
  · unfold Lib.decodeN; rw [if_neg (by omega), if_neg (by omega), if_pos (by omega), if_pos (by omega)]
  · rw [if_neg (by omega)]; omega
theorem pt4 (h : 0 < s.size) (h0 : 240 ≤ bAt s 0 ∧ bAt s 0 < 245) (hs : 3 < s.size) (h1 : 128 ≤ bAt s 1 ∧ bAt s 1 < 192) (h2 : 128 ≤ bAt s 2 ∧ bAt s 2 < 192) (h3 : 128 ≤ bAt s 3 ∧ bAt s 3 < 192)
    (hx : 65536 ≤ (bAt s 0 - 240) * 262144 + (bAt s 1 - 128) * 4096 + (bAt s 2 - 128) * 64 + bAt s 3 - 128 ∧ (bAt s 0 - 240) * 262144 + (bAt s 1 - 128) * 4096 + (bAt s 2 - 128) * 64 + bAt s 3 - 128 ≤ 1114111) :
    ptv s 0 = (bAt s 0 - 240) * 262144 + (bAt s 1 - 128) * 4096 + (bAt s 2 - 128) * 64 + bAt s 3 - 128 ∧ psz s 0 = 4 := by
  refine pt_of (n := 0) h ⟨(bAt s 0).toNat % 8 * 262144 + (bAt s 1).toNat % 64 * 4096 + (bAt s 2).toNat % 64 * 64 + (bAt s 3).toNat % 64, ?_, ?_⟩
  · unfold Lib.decodeN; rw [if_neg (by omega), if_neg (by omega), if_neg (by omega), if_pos (by omega), if_pos (by omega)]
  · rw [if_neg (by omega)]; omega
theorem pt5 (h : 0 < s.size) (k1 : 128 ≤ bAt s 0) (k2 : ¬ ((194 ≤ bAt s 0 ∧ bAt s 0 < 224) ∧ 1 < s.size ∧ 128 ≤ bAt s 1 ∧ bAt s 1 < 192))
    (k3 : ¬ ((224 ≤ bAt s 0 ∧ bAt s 0 < 240) ∧ 2 < s.size ∧ (128 ≤ bAt s 1 ∧ bAt s 1 < 192) ∧ (128 ≤ bAt s 2 ∧ bAt s 2 < 192) ∧ 2048 ≤ (bAt s 0 - 224) * 4096 + (bAt s 1 - 128) * 64 + bAt s 2 - 128 ∧ ((bAt s 0 - 224) * 4096 + (bAt s 1 - 128) * 64 + bAt s 2 - 128 < 55296 ∨ 57343 < (bAt s 0 - 224) * 4096 + (bAt s 1 - 128) * 64 + bAt s 2 - 128)))
    (k4 : ¬ ((240 ≤ bAt s 0 ∧ bAt s 0 < 245) ∧ 3 < s.size ∧ (128 ≤ bAt s 1 ∧ bAt s 1 < 192) ∧ (128 ≤ bAt s 2 ∧ bAt s 2 < 192) ∧ (128 ≤ bAt s 3 ∧ bAt s 3 < 192) ∧ 65536 ≤ (bAt s 0 - 240) * 262144 + (bAt s 1 - 128) * 4096 + (bAt s 2 - 128) * 64 + bAt s 3 - 128 ∧ (bAt s 0 - 240) * 262144 + (bAt s 1 - 128) * 4096 + (bAt s 2 - 128) * 64 + bAt s 3 - 128 ≤ 1114111)) :
    ptv s 0 = 1114112 + bAt s 0 ∧ psz s 0 = 1 := by
  have b0 := bAt_lt s 0
  have b1 := bAt_lt s 1
  have b2 := bAt_lt s 2
  have b3 := bAt_lt s 3
  refine pt_of (n := 0) h ⟨65533, ?_, by simp⟩
  unfold Lib.decodeN
  rw [if_neg (by omega)]
  split
  · rename_i hc; rw [if_neg (by omega)]
  · split
    · rename_i hc; rw [if_neg (by omega)]
    · split
      · rename_i hc; rw [if_neg (by omega)]
      · rfl
end
 
theorem ba_ext {a b : ByteArray} (h : a.data.toList = b.data.toList) : a = b := by
  cases a; cases b
  simp only [ByteArray.mk.injEq]
  exact Array.ext' h
theorem ext_tail {s : ByteArray} {p : Nat} (n : Nat) (h : p ≤ s.size) : (s.extract p s.size).extract n (s.extract p s.size).size = s.extract (p + n) s.size := by
  refine ba_ext ?_
  have e : s.data.toList.length = s.size := by simp
  rw [Lib.tail_size]
  simp only [Lib.extract_data, List.drop_take, List.drop_drop, List.take_take]
  congr 1
  omega
theorem ext_head {s : ByteArray} {p n : Nat} (h : p + n ≤ s.size) : (s.extract p s.size).extract 0 n = s.extract p (p + n) := by
  refine ba_ext ?_
  simp only [Lib.extract_data, List.drop_zero, List.take_take]
  congr 1
  omega
theorem ext_app {s : ByteArray} {a b c : Nat} (h1 : a ≤ b) (h2 : b ≤ c) (h3 : c ≤ s.size) : s.extract a b ++ s.extract b c = s.extract a c := by
  refine ba_ext ?_
  have e : (s.extract a b ++ s.extract b c).data.toList = (s.extract a b).data.toList ++ (s.extract b c).data.toList := by rw [ByteArray.data_append, Array.toList_append]
  rw [e]
  simp only [Lib.extract_data]
  rw [show c - a = (b - a) + (c - b) by omega, List.take_add, List.drop_drop, show a + (b - a) = b by omega]
theorem ext_all (s : ByteArray) : s.extract 0 s.size = s := ba_ext (by simp [Lib.extract_data, List.take_of_length_le])
theorem ext_nil (s : ByteArray) (a : Nat) : s.extract a a = ⟨#[]⟩ := ba_ext (by simp [Lib.extract_data])
theorem sz_tail (s : ByteArray) (k : Nat) : (s.extract (ppos s k) s.size).size = s.size - ppos s k := Lib.tail_size _ _
theorem sz_ext {s : ByteArray} {a b : Nat} (h : b ≤ s.size) : (s.extract a b).size = b - a := by
  rw [ByteArray.size_extract]; omega
theorem ptv_tail {s : ByteArray} {n : Nat} (j : Nat) : ptv (s.extract n s.size) j = ptv s (n + j) := by
  unfold ptv
  rw [Lib.tail_decode, bAt_get, bAt_get, Lib.tail_get!]
theorem map_range_snoc {α : Type} (f : Nat → α) (k : Nat) : (List.range k).map f ++ [f k] = (List.range (k + 1)).map f := by
  rw [List.range_succ, List.map_append]; rfl
 
def lowN (c : Int) : Int := if 65 ≤ c ∧ c ≤ 90 then c + 32 else c
def lowB (b : UInt8) : UInt8 := UInt8.ofNat (lowN b.toNat).toNat
theorem lowB_nat (b : UInt8) : ((lowB b).toNat : Int) = lowN b.toNat := by
  have := b.toNat_lt
  unfold lowB lowN
  split
  · rw [UInt8.toNat_ofNat_of_lt' (by simp [UInt8.size]; omega)]; omega
  · simp
def foldS (s : ByteArray) : ByteArray := strB (s.data.toList.map lowB)
def foldRow (l : List UInt8) (i : Nat) : List UInt8 := (l.take i).map lowB ++ l.drop i
theorem foldRow_len (l : List UInt8) (i : Nat) : (foldRow l i).length = l.length := by simp [foldRow]; omega
theorem foldRow_succ {l : List UInt8} {i : Nat} (h : i < l.length) : (foldRow l i).set i (lowB ((foldRow l i).getD i default)) = foldRow l (i + 1) := by
  have hm : min i l.length = i := by omega
  have e : (foldRow l i).getD i default = l[i] := by
    simp [foldRow, List.getD_eq_getElem?_getD, List.getElem?_append_right, hm, h]
  rw [e]
  unfold foldRow
  rw [List.set_append_right _ _ (by simp; omega), List.take_succ_eq_append_getElem h, List.map_append, List.drop_eq_getElem_cons h]
  simp [hm, -List.getElem_cons_drop]
theorem foldRow_end {l : List UInt8} {i : Nat} (h : l.length ≤ i) : foldRow l i = l.map lowB := by
  simp [foldRow, List.take_of_length_le h, List.drop_eq_nil_of_le h]
theorem foldRow_zero (l : List UInt8) : foldRow l 0 = l := by simp [foldRow]
theorem take_snoc_low {l : List UInt8} {i : Nat} (h : i < l.length) : (l.take i).map lowB ++ [lowB (l.getD i 0)] = (l.take (i + 1)).map lowB := by
  rw [List.take_succ_eq_append_getElem h, List.map_append]
  simp [List.getD_eq_getElem?_getD, h]
theorem bAt_low {s : ByteArray} {i : Nat} : ((lowB (s.data.toList.getD i 0)).toNat : Int) = lowN (bAt s i) := lowB_nat _
theorem ext_size_le (s : ByteArray) (a b : Nat) : (s.extract a b).size ≤ s.size := by rw [ByteArray.size_extract]; omega
theorem low_in {s : ByteArray} {i : Nat} (h : 65 ≤ bAt s i ∧ bAt s i ≤ 90) : List.map byteD [lowB (s.data.toList.getD i 0)] = [D.int .u8 (bAt s i + 32)] := by
  simp only [List.map_cons, List.map_nil, byteD, bAt_low, lowN, if_pos h]
theorem low_out {s : ByteArray} {i : Nat} (h : bAt s i < 65 ∨ 90 < bAt s i) : List.map byteD [lowB (s.data.toList.getD i 0)] = [D.int .u8 (bAt s i)] := by
  simp only [List.map_cons, List.map_nil, byteD, bAt_low, lowN, if_neg (show ¬ (65 ≤ bAt s i ∧ bAt s i ≤ 90) by omega)]
 
structure SubI (s : ByteArray) (fr n k : Nat) (o : ByteArray) (m : Int) : Prop where
  a : k ≤ fr → o = ⟨#[]⟩ ∧ m = n
  b : fr ≤ k → k ≤ fr + n → o = s.extract (ppos s fr) (ppos s k) ∧ m = n - (k - fr)
  c : fr + n ≤ k → o = subS s fr n ∧ m = 0
theorem SubI.start (s : ByteArray) (fr n : Nat) : SubI s fr n 0 ⟨#[]⟩ n where
  a _ := ⟨rfl, rfl⟩
  b h1 _ := by
    have : fr = 0 := by omega
    subst this
    exact ⟨(ext_nil s _).symm, by simp⟩
  c h := by
    have : fr = 0 := by omega
    have : n = 0 := by omega
    subst this; subst fr
    exact ⟨(ext_nil s _).symm, rfl⟩
theorem SubI.size {s : ByteArray} {fr n k : Nat} {o : ByteArray} {m : Int} (h : SubI s fr n k o m) : o.size ≤ s.size := by
  by_cases h1 : k ≤ fr
  · rw [(h.a h1).1]; exact Nat.zero_le _
  · by_cases h2 : k ≤ fr + n
    · rw [(h.b (by omega) h2).1]; exact ext_size_le _ _ _
    · rw [(h.c (by omega)).1]; exact ext_size_le _ _ _
theorem SubI.bnd {s : ByteArray} {fr n k : Nat} {o : ByteArray} {m : Int} (h : SubI s fr n k o m) : 0 ≤ m ∧ m ≤ n := by
  by_cases h1 : k ≤ fr
  · have := (h.a h1).2; omega
  · by_cases h2 : k ≤ fr + n
    · have := (h.b (by omega) h2).2; omega
    · have := (h.c (by omega)).2; omega
theorem SubI.take {s : ByteArray} {fr n k : Nat} {o t : ByteArray} {m : Int} (h : SubI s fr n k o m) (ht : t = s.extract (ppos s k) s.size) (hlt : ppos s k < s.size) (h1 : fr ≤ k) (h2 : 0 < m) :
    SubI s fr n (k + 1) (o ++ t.extract 0 (psz s (ppos s k))) (m - 1) := by
  have hk : k < fr + n := by
    by_cases hc : fr + n ≤ k
    · have := (h.c hc).2; omega
    · omega
  obtain ⟨e1, e2⟩ := h.b h1 (by omega)
  have hp := psz_le hlt
  have e : o ++ t.extract 0 (psz s (ppos s k)) = s.extract (ppos s fr) (ppos s (k + 1)) := by
    rw [e1, ht, ext_head hp, ← ppos_succ hlt]
    exact ext_app (ppos_mono s h1) (ppos_step s k) (ppos_le s _)
  refine ⟨fun hc => by omega, fun _ _ => ⟨e, by omega⟩, fun hc => ⟨?_, by omega⟩⟩
  rw [e, subS, show fr + n = k + 1 by omega]
theorem SubI.skip {s : ByteArray} {fr n k : Nat} {o : ByteArray} {m : Int} (h : SubI s fr n k o m) (h1 : k < fr ∨ m ≤ 0) : SubI s fr n (k + 1) o m := by
  by_cases hk : k < fr
  · obtain ⟨e1, e2⟩ := h.a (by omega)
    refine ⟨fun _ => ⟨e1, e2⟩, fun hc _ => ?_, fun hc => ?_⟩
    · have : fr = k + 1 := by omega
      subst this
      exact ⟨by rw [e1, ext_nil], by omega⟩
    · have : fr = k + 1 := by omega
      have : n = 0 := by omega
      subst this; subst fr
      exact ⟨by rw [e1, subS, Nat.add_zero, ext_nil], by omega⟩
  · have hc : fr + n ≤ k := by
      by_cases hc : k ≤ fr + n
      · have := (h.b (by omega) hc).2; omega
      · omega
    obtain ⟨e1, e2⟩ := h.c hc
    refine ⟨fun _ => by omega, fun _ _ => by omega, fun _ => ⟨e1, e2⟩⟩
theorem SubI.fin {s : ByteArray} {fr n k : Nat} {o : ByteArray} {m : Int} (h : SubI s fr n k o m) (hk : s.size ≤ ppos s k) : o = subS s fr n := by
  unfold subS
  by_cases h1 : k ≤ fr
  · rw [(h.a h1).1, ppos_end hk h1, ppos_end hk (by omega : k ≤ fr + n), ext_nil]
  · by_cases h2 : k ≤ fr + n
    · rw [(h.b (by omega) h2).1, ppos_end hk h2, Nat.le_antisymm (ppos_le s k) hk]
    · exact (h.c (by omega)).1
end Go.Fw
namespace Go.Fw
open Go
set_option linter.unusedVariables false
set_option linter.unusedSimpArgs false
abbrev Vl := Bool × ByteArray
def encV (v : Vl) : D := .agg [.bool v.1, .str v.2]
def nilB : ByteArray := ⟨#[]⟩
instance : Inhabited Vl := ⟨(false, nilB)⟩
def itoaS (n : Nat) : ByteArray := strB (Lib.decDigits n)
theorem itoaS_len (n : Nat) : ∀ k, n < 10 ^ (k + 1) → (Lib.decDigits n).length ≤ k + 1 := by
  induction n using Nat.strongRecOn with
  | _ n ih =>
    intro k hk
    rw [Lib.decDigits]
    split
    · simp
    · rename_i h
      cases k with
      | zero => omega
      | succ k =>
        have := ih (n / 10) (by omega) k (by rw [Nat.pow_succ] at hk; omega)
        simp only [List.length_append, List.length_cons, List.length_nil]
        omega
theorem strB_size (l : List UInt8) : (strB l).size = l.length := by simp [strB, ByteArray.size]
theorem itoaS_size {n : Nat} (h : n ≤ 9223372036854775807) : (itoaS n).size ≤ 19 := by
  unfold itoaS
  rw [strB_size]
  exact itoaS_len n 18 (by omega)
theorem itoaS_room {n : Nat} (h : n ≤ 9223372036854775807) : (itoaS (n / 10)).size + (itoaS (n % 10)).size ≤ 9223372036854775807 := by
  have := itoaS_size (n := n / 10) (by omega)
  have := itoaS_size (n := n % 10) (by omega)
  omega
theorem byte48 {n : Nat} (h : n < 10) : D.int .u8 (48 + (n : Int)) = byteD (UInt8.ofNat (48 + n)) := by
  unfold byteD
  rw [UInt8.toNat_ofNat_of_lt' (by simp [UInt8.size]; omega)]
  simp
theorem itoaS_one {n : Nat} (h : n < 10) : itoaS n = ⟨(List.map dByte [D.int .u8 (48 + (n : Int))]).toArray⟩ := by
  rw [byte48 h]
  unfold itoaS
  rw [Lib.decDigits, dif_pos h]
  have := dByte_bytes [UInt8.ofNat (48 + n)]
  simp only [List.map_cons, List.map_nil] at this ⊢
  rw [this]
  rfl
theorem strB_app (a b : List UInt8) : strB (a ++ b) = strB a ++ strB b := ba_ext (by rw [ByteArray.data_append, Array.toList_append]; simp [strB])
theorem itoaS_more {n : Nat} (h : 10 ≤ n) : itoaS n = itoaS (n / 10) ++ itoaS (n % 10) := by
  unfold itoaS
  rw [← strB_app, Lib.decDigits, dif_neg (by omega)]
  congr 2
  rw [Lib.decDigits, dif_pos (by omega)]
def madeS (k fr n : Int) (s : ByteArray) : ByteArray := if k = 4 then itoaS (npts s) else if k = 6 then subS s fr.toNat n.toNat else if k = 7 then foldS s else s
mutual
def valS (row : List Vl) : Sc → Vl × Int
  | .mk k c s fr n l =>
    if k = 1 then (row.getD c.toNat default, 0)
    else if k = 2 then ((false, s), 0)
    else if k = 3 then ((true, nilB), 0)
    else if k = 8 then firstS row l
    else match wholeS row l nilB true with
      | (s, ok, e) => if e ≠ 0 then ((false, nilB), e) else if ok = false then ((true, nilB), 0)
        else if 4096 < (madeS k fr n s).size then ((false, nilB), 6) else ((false, madeS k fr n s), 0)
def firstS (row : List Vl) : List Sc → Vl × Int
  | [] => ((true, nilB), 0)
  | x :: r => if (valS row x).2 ≠ 0 ∨ (valS row x).1.1 = false then valS row x else firstS row r
def wholeS (row : List Vl) : List Sc → ByteArray → Bool → ByteArray × Bool × Int
  | [], s, ok => (s, ok, 0)
  | x :: r, s, ok => if (valS row x).2 ≠ 0 then (nilB, false, (valS row x).2) else wholeS row r (s ++ (valS row x).1.2) (ok && !(valS row x).1.1)
end
theorem valS_eq (row : List Vl) (x : Sc) : valS row x =
    if x.kind = 1 then (row.getD x.col.toNat default, 0)
    else if x.kind = 2 then ((false, x.s), 0)
    else if x.kind = 3 then ((true, nilB), 0)
    else if x.kind = 8 then firstS row x.kids
    else match wholeS row x.kids nilB true with
      | (s, ok, e) => if e ≠ 0 then ((false, nilB), e) else if ok = false then ((true, nilB), 0)
        else if 4096 < (madeS x.kind x.fr x.n s).size then ((false, nilB), 6) else ((false, madeS x.kind x.fr x.n s), 0) := by
  cases x; rw [valS]; rfl
theorem valS_whole {row : List Vl} {x : Sc} (h1 : ¬ x.kind = 1) (h2 : ¬ x.kind = 2) (h3 : ¬ x.kind = 3) (h8 : ¬ x.kind = 8) : valS row x =
    if ¬ (wholeS row x.kids nilB true).2.2 = 0 then ((false, nilB), (wholeS row x.kids nilB true).2.2) else if (wholeS row x.kids nilB true).2.1 = false then ((true, nilB), 0)
        else if 4096 < (madeS x.kind x.fr x.n (wholeS row x.kids nilB true).1).size then ((false, nilB), 6) else ((false, madeS x.kind x.fr x.n (wholeS row x.kids nilB true).1), 0) := by
  rw [valS_eq, if_neg h1, if_neg h2, if_neg h3, if_neg h8]
theorem firstS_at (row : List Vl) {l : List Sc} {i : Nat} (h : i < l.length) : firstS row (l.drop i) = if (valS row (l.getD i default)).2 ≠ 0 ∨ (valS row (l.getD i default)).1.1 = false then valS row (l.getD i default) else firstS row (l.drop (i + 1)) := by
  rw [List.drop_eq_getElem_cons h, firstS]
  simp only [List.getD_eq_getElem?_getD, List.getElem?_eq_getElem h, Option.getD_some]
theorem wholeS_at (row : List Vl) {l : List Sc} {i : Nat} (h : i < l.length) (s : ByteArray) (ok : Bool) : wholeS row (l.drop i) s ok =
    if (valS row (l.getD i default)).2 ≠ 0 then (nilB, false, (valS row (l.getD i default)).2) else wholeS row (l.drop (i + 1)) (s ++ (valS row (l.getD i default)).1.2) (ok && !(valS row (l.getD i default)).1.1) := by
  rw [List.drop_eq_getElem_cons h, wholeS]
  simp only [List.getD_eq_getElem?_getD, List.getElem?_eq_getElem h, Option.getD_some]
 
inductive Good (c : Int) : Sc → Prop
  | mk {x : Sc} : ShapeP x c → x.fr ≤ 9223372036854775807 → x.n ≤ 9223372036854775807 → (∀ k ∈ x.kids, Good c k) → Good c x
def rowOK (row : List Vl) : Prop := ∀ v ∈ row, v.2.size ≤ 4096
theorem rowOK.at {row : List Vl} (h : rowOK row) {i : Nat} (hi : i < row.length) : (row.getD i default).2.size ≤ 4096 := h _ (getD_mem hi)
 
def ValI (r : Vl × Int) : Prop := (r.2 = 0 ∨ r.2 = 6) ∧ r.1.2.size ≤ 4096 ∧ (r.2 = 6 → r.1 = (false, nilB))
theorem nilB_size : nilB.size = 0 := rfl
theorem firstS_I (row : List Vl) : ∀ l : List Sc, (∀ x ∈ l, ValI (valS row x)) → ValI (firstS row l)
  | [], _ => ⟨.inl rfl, Nat.zero_le _, fun h => by simp [firstS] at h⟩
  | x :: r, h => by
    rw [firstS]
    split
    · exact h x (by simp)
    · exact firstS_I row r fun y hy => h y (by simp [hy])
theorem wholeS_I (row : List Vl) : ∀ (l : List Sc) (s : ByteArray) (ok : Bool), (∀ x ∈ l, ValI (valS row x)) → ((wholeS row l s ok).2.2 = 0 ∨ (wholeS row l s ok).2.2 = 6) ∧ (wholeS row l s ok).1.size ≤ s.size + l.length * 4096
  | [], s, ok, _ => ⟨.inl rfl, by simp [wholeS]⟩
  | x :: r, s, ok, h => by
    rw [wholeS]
    have hx := h x (by simp)
    split
    · exact ⟨hx.1, by rw [nilB_size]; omega⟩
    · have := wholeS_I row r (s ++ (valS row x).1.2) (ok && !(valS row x).1.1) fun y hy => h y (by simp [hy])
      refine ⟨this.1, ?_⟩
      have h2 := this.2
      rw [ByteArray.size_append] at h2
      have := hx.2.1
      simp only [List.length_cons]
      omega
theorem Good.valI {row : List Vl} (hr : rowOK row) {x : Sc} (h : Good row.length x) : ValI (valS row x) := by
  induction h with
  | @mk x hs hf hn hk ih =>
    rw [valS_eq]
    unfold ShapeP at hs
    split
    · exact ⟨.inl rfl, hr.at (by omega), fun h => by simp at h⟩
    · split
      · exact ⟨.inl rfl, by show x.s.size ≤ 4096; omega, fun h => by simp at h⟩
      · split
        · exact ⟨.inl rfl, Nat.zero_le _, fun h => by simp at h⟩
        · split
          · exact firstS_I row _ ih
          · have hw := wholeS_I row x.kids nilB true ih
            split
            rename_i s ok e he
            rw [he] at hw
            split
            · refine ⟨hw.1, Nat.zero_le _, fun _ => rfl⟩
            · split
              · exact ⟨.inl rfl, Nat.zero_le _, fun h => by simp at h⟩
              · split
                · exact ⟨.inr rfl, Nat.zero_le _, fun _ => rfl⟩
                · exact ⟨.inl rfl, by show (madeS x.kind x.fr x.n s).size ≤ 4096; omega, fun h => by simp at h⟩
theorem Good.whole {row : List Vl} (hr : rowOK row) {x : Sc} (h : Good row.length x) (hk : x.kind ≠ 1 ∧ x.kind ≠ 2 ∧ x.kind ≠ 3) : (wholeS row x.kids nilB true).1.size ≤ 32768 := by
  cases h with
  | mk hs hf hn hg =>
    have := (wholeS_I row x.kids nilB true fun y hy => (hg y hy).valI hr).2
    unfold ShapeP at hs
    rw [nilB_size] at this
    have hl : x.kids.length ≤ 8 := by omega
    omega
 
mutual
def sizeS : Sc → Int → Int
  | .mk _ _ _ _ _ l, most => sizeL l 1 most
def sizeL : List Sc → Int → Int → Int
  | [], n, _ => n
  | x :: r, n, most => if n ≤ most then sizeL r (n + sizeS x (most - n)) most else n
end
theorem sizeS_eq (x : Sc) (m : Int) : sizeS x m = sizeL x.kids 1 m := by cases x; rw [sizeS]; rfl
theorem sizeL_at {l : List Sc} {i : Nat} (h : i < l.length) (n m : Int) : sizeL (l.drop i) n m = if n ≤ m then sizeL (l.drop (i + 1)) (n + sizeS (l.getD i default) (m - n)) m else n := by
  rw [List.drop_eq_getElem_cons h, sizeL]
  simp only [List.getD_eq_getElem?_getD, List.getElem?_eq_getElem h, Option.getD_some]
theorem sizeL_stop (l : List Sc) {n m : Int} (h : m < n) : sizeL l n m = n := by
  cases l with
  | nil => rfl
  | cons x r => rw [sizeL, if_neg (by omega)]
mutual
theorem sizeS_bnd : ∀ (x : Sc) (m : Int), 0 ≤ m → 1 ≤ sizeS x m ∧ sizeS x m ≤ m + 1
  | .mk _ _ _ _ _ l, m, hm => by rw [sizeS]; exact sizeL_bnd l 1 m (by omega) (by omega)
theorem sizeL_bnd : ∀ (l : List Sc) (n m : Int), 1 ≤ n → n ≤ m + 1 → 1 ≤ sizeL l n m ∧ sizeL l n m ≤ m + 1
  | [], n, m, h1, h2 => ⟨h1, h2⟩
  | x :: r, n, m, h1, h2 => by
    rw [sizeL]
    split
    · have := sizeS_bnd x (m - n) (by omega)
      exact sizeL_bnd r _ m (by omega) (by omega)
    · exact ⟨h1, h2⟩
end
mutual
def smallS : Sc → Int → Bool
  | .mk k c s f n l, d => decide (0 ≤ d ∧ s.size ≤ 5000 ∧ l.length ≤ 20 ∧ sizeL l 1 100 ≤ 60) && smallL l (d - 1)
def smallL : List Sc → Int → Bool
  | [], _ => true
  | x :: r, d => smallS x d && smallL r d
end
theorem smallL_all : ∀ (l : List Sc) (d : Int), smallL l d = l.all fun x => smallS x d
  | [], _ => rfl
  | x :: r, d => by rw [smallL, smallL_all r d]; rfl
theorem smallS_eq (x : Sc) (d : Int) : smallS x d = (decide (0 ≤ d ∧ x.s.size ≤ 5000 ∧ x.kids.length ≤ 20 ∧ sizeS x 100 ≤ 60) && x.kids.all fun k => smallS k (d - 1)) := by
  cases x; rw [smallS, smallL_all, sizeS]; rfl
 
def rowB (r : List Vl) (c : Int) : Bool := decide ((r.length : Int) = c) && r.all fun v => decide (v.2.size ≤ 100) && (!v.1 || decide (v.2.size = 0))
def rowsB (rows : List (List Vl)) (c : Int) : Bool := decide (1 ≤ c ∧ c ≤ 8 ∧ rows.length ≤ 100) && rows.all fun r => rowB r c
theorem all_at {α : Type} [Inhabited α] {l : List α} {p : α → Bool} {i : Nat} (h : i < l.length) (hp : p (l.getD i default) = false) : l.all p = false :=
  List.all_eq_false.2 ⟨_, getD_mem h, by rw [hp]; exact Bool.false_ne_true⟩
theorem all_upto {α : Type} [Inhabited α] {l : List α} {p : α → Bool} (h : ∀ j, j < l.length → p (l.getD j default) = true) : l.all p = true := by
  refine List.all_eq_true.2 fun x hx => ?_
  obtain ⟨k, hk, rfl⟩ := List.mem_iff_getElem.1 hx
  have := h k hk
  simpa [List.getD_eq_getElem?_getD, hk] using this
theorem Good.shape {c : Int} {x : Sc} (h : Good c x) : ShapeP x c := by cases h; assumption
theorem Good.kid {c : Int} {x k : Sc} (h : Good c x) (hk : k ∈ x.kids) : Good c k := by
  cases h with
  | mk _ _ _ hg => exact hg k hk
theorem Good.nums {c : Int} {x : Sc} (h : Good c x) : (0 ≤ x.fr ∧ 0 ≤ x.n) ∧ (x.fr ≤ 9223372036854775807 ∧ x.n ≤ 9223372036854775807) ∧ x.kids.length ≤ 8 ∧ (x.kind = 1 → 0 ≤ x.col ∧ x.col < c) := by
  cases h with
  | mk hs hf hn hg =>
    unfold ShapeP Odd at hs
    refine ⟨⟨?_, ?_⟩, ⟨hf, hn⟩, ?_, ?_⟩ <;> omega
 
def rowsS (row : List Vl) : List Sc → List Vl → List Vl × Int
  | [], acc => (acc, 0)
  | x :: r, acc => if ¬ (valS row x).2 = 0 then ([], (valS row x).2) else rowsS row r (acc ++ [(valS row x).1])
theorem rowsS_at (row : List Vl) {l : List Sc} {i : Nat} (h : i < l.length) (acc : List Vl) : rowsS row (l.drop i) acc = if ¬ (valS row (l.getD i default)).2 = 0 then ([], (valS row (l.getD i default)).2) else rowsS row (l.drop (i + 1)) (acc ++ [(valS row (l.getD i default)).1]) := by
  rw [List.drop_eq_getElem_cons h, rowsS]
  simp only [List.getD_eq_getElem?_getD, List.getElem?_eq_getElem h, Option.getD_some]
theorem encV_snoc (o : List Vl) (v : Vl) : o.map encV ++ [D.agg [.bool v.1, .str v.2]] = (o ++ [v]).map encV := by simp [encV]
 
structure RefI (row : List Vl) (x : Sc) (i : Nat) (s : ByteArray) (no : Bool) : Prop where
  size : s.size ≤ i * 4096
  a : x.kind ≠ 8 → wholeS row (x.kids.drop i) s (!no) = wholeS row x.kids nilB true
  b : x.kind = 8 → firstS row (x.kids.drop i) = firstS row x.kids ∧ (0 < i → no = true)
theorem RefI.start (row : List Vl) (x : Sc) : RefI row x 0 nilB false := ⟨Nat.zero_le _, fun _ => rfl, fun _ => ⟨rfl, fun h => absurd h (Nat.lt_irrefl _)⟩⟩
theorem RefI.next {row : List Vl} {x : Sc} {i : Nat} {s : ByteArray} {no : Bool} (h : RefI row x i s no) (hi : i < x.kids.length) (hv : (valS row (x.kids.getD i default)).1.2.size ≤ 4096) (h0 : (valS row (x.kids.getD i default)).2 = 0)
    (h8 : x.kind = 8 → (valS row (x.kids.getD i default)).1.1 = true) : RefI row x (i + 1) (s ++ (valS row (x.kids.getD i default)).1.2) (no || (valS row (x.kids.getD i default)).1.1) := by
  refine ⟨by have := h.size; rw [ByteArray.size_append]; omega, fun hk => ?_, fun hk => ?_⟩
  · rw [← h.a hk, wholeS_at row hi, if_neg (fun hc => hc h0), Bool.not_or]
  · obtain ⟨e1, _⟩ := h.b hk
    refine ⟨?_, fun _ => by rw [h8 hk, Bool.or_true]⟩
    rw [← e1, firstS_at row hi, if_neg]
    rintro (hc | hc)
    · exact hc h0
    · rw [h8 hk] at hc; cases hc
theorem RefI.bad {row : List Vl} {x : Sc} {i : Nat} {s : ByteArray} {no : Bool} (h : RefI row x i s no) (hi : i < x.kids.length) (hg : ∀ k ∈ x.kids, ValI (valS row k)) (h0 : ¬ (valS row (x.kids.getD i default)).2 = 0) (k1 : ¬ x.kind = 1) (k2 : ¬ x.kind = 2) (k3 : ¬ x.kind = 3) :
    (valS row x).1 = (false, nilB) ∧ ¬ (valS row x).2 = 0 := by
  by_cases hk : x.kind = 8
  · have e : valS row x = valS row (x.kids.getD i default) := by
      rw [valS_eq, if_neg k1, if_neg k2, if_neg k3, if_pos hk, ← (h.b hk).1, firstS_at row hi, if_pos (.inl h0)]
    have hv := hg _ (getD_mem hi)
    rw [e]
    exact ⟨hv.2.2 (hv.1.resolve_left h0), h0⟩
  · have e : wholeS row x.kids nilB true = (nilB, false, (valS row (x.kids.getD i default)).2) := by rw [← h.a hk, wholeS_at row hi, if_pos h0]
    rw [valS_whole k1 k2 k3 hk, e, if_pos h0]
    exact ⟨rfl, h0⟩
theorem RefI.hit {row : List Vl} {x : Sc} {i : Nat} {s : ByteArray} {no : Bool} (h : RefI row x i s no) (hi : i < x.kids.length) (h0 : (valS row (x.kids.getD i default)).2 = 0) (hk : x.kind = 8) (hn : (valS row (x.kids.getD i default)).1.1 = false) :
    valS row x = valS row (x.kids.getD i default) := by
  rw [valS_eq, if_neg (by omega), if_neg (by omega), if_neg (by omega), if_pos hk, ← (h.b hk).1, firstS_at row hi, if_pos (.inr hn)]
theorem RefI.none {row : List Vl} {x : Sc} {i : Nat} {s : ByteArray} {no : Bool} (h : RefI row x i s no) (hi : x.kids.length ≤ i) (hn : no = true) (k1 : ¬ x.kind = 1) (k2 : ¬ x.kind = 2) (k3 : ¬ x.kind = 3) : valS row x = ((true, nilB), 0) := by
  by_cases hk : x.kind = 8
  · rw [valS_eq, if_neg k1, if_neg k2, if_neg k3, if_pos hk, ← (h.b hk).1, List.drop_eq_nil_of_le hi]; rfl
  · have e : wholeS row x.kids nilB true = (s, false, 0) := by rw [← h.a hk, List.drop_eq_nil_of_le hi, hn]; rfl
    rw [valS_whole k1 k2 k3 hk, e, if_neg (fun h => h rfl), if_pos rfl]
theorem RefI.made {row : List Vl} {x : Sc} {i : Nat} {s : ByteArray} {no : Bool} (h : RefI row x i s no) (hi : x.kids.length ≤ i) (hn : no = false) (hl : x.kind = 8 → 0 < x.kids.length) (k1 : ¬ x.kind = 1) (k2 : ¬ x.kind = 2) (k3 : ¬ x.kind = 3) :
    x.kind ≠ 8 ∧ valS row x = if 4096 < (madeS x.kind x.fr x.n s).size then ((false, nilB), 6) else ((false, madeS x.kind x.fr x.n s), 0) := by
  by_cases hk : x.kind = 8
  · have := (h.b hk).2 (by have := hl hk; omega)
    rw [hn] at this
    cases this
  · have e : wholeS row x.kids nilB true = (s, true, 0) := by rw [← h.a hk, List.drop_eq_nil_of_le hi, hn]; rfl
    refine ⟨hk, ?_⟩
    rw [valS_whole k1 k2 k3 hk, e, if_neg (fun h => h rfl), if_neg (by simp)]
def encRow (r : List Vl) : D := .sl 2 (r.map encV)
def cellB (v : Vl) : Bool := decide (v.2.size ≤ 100) && (!v.1 || decide (v.2.size = 0))
theorem cell_no {v : Vl} (h : (100 : Int) < v.2.size ∨ v.1 = true ∧ ¬ v.2.size = 0) : cellB v = false := by
  unfold cellB
  rcases h with h | ⟨h1, h2⟩
  · rw [decide_eq_false (by omega)]; rfl
  · rw [h1, decide_eq_false h2]; simp
theorem cell_yes {v : Vl} (h : (v.2.size : Int) ≤ 100 ∧ (v.1 = false ∨ v.2.size = 0)) : cellB v = true := by
  unfold cellB
  obtain ⟨h1, h2⟩ := h
  rw [decide_eq_true (by omega)]
  rcases h2 with h2 | h2
  · rw [h2]; rfl
  · rw [decide_eq_true h2]; simp
theorem rowB_eq (r : List Vl) (c : Int) : rowB r c = (decide ((r.length : Int) = c) && r.all cellB) := rfl
theorem rowB_len {r : List Vl} {c : Int} (h : ¬ (r.length : Int) = c) : rowB r c = false := by rw [rowB_eq, decide_eq_false h]; rfl
theorem rowB_cell {r : List Vl} {c : Int} {k : Nat} (hk : k < r.length) (h : cellB (r.getD k default) = false) : rowB r c = false := by rw [rowB_eq, all_at hk h, Bool.and_false]
theorem rowB_true {r : List Vl} {c : Int} (h : (r.length : Int) = c) (hc : ∀ j, j < r.length → cellB (r.getD j default) = true) : rowB r c = true := by rw [rowB_eq, decide_eq_true h, all_upto hc]; rfl
theorem rowsB_no {rows : List (List Vl)} {c : Int} (h : ¬ (1 ≤ c ∧ c ≤ 8 ∧ rows.length ≤ 100)) : rowsB rows c = false := by rw [rowsB, decide_eq_false h]; rfl
theorem rowsB_row {rows : List (List Vl)} {c : Int} {i : Nat} (hi : i < rows.length) (h : rowB (rows.getD i default) c = false) : rowsB rows c = false := by rw [rowsB, all_at hi h, Bool.and_false]
theorem rowsB_true {rows : List (List Vl)} {c : Int} (h : 1 ≤ c ∧ c ≤ 8 ∧ rows.length ≤ 100) (hc : ∀ j, j < rows.length → rowB (rows.getD j default) c = true) : rowsB rows c = true := by rw [rowsB, decide_eq_true h, all_upto hc]; rfl
theorem smallS_no {x : Sc} {d : Int} (h : ¬ (0 ≤ d ∧ x.s.size ≤ 5000 ∧ x.kids.length ≤ 20 ∧ sizeS x 100 ≤ 60)) : smallS x d = false := by rw [smallS_eq, decide_eq_false h]; rfl
theorem smallS_kid {x : Sc} {d : Int} {i : Nat} (hi : i < x.kids.length) (h : smallS (x.kids.getD i default) (d - 1) = false) : smallS x d = false := by rw [smallS_eq, all_at hi h, Bool.and_false]
theorem smallS_yes {x : Sc} {d : Int} (h : 0 ≤ d ∧ x.s.size ≤ 5000 ∧ x.kids.length ≤ 20 ∧ sizeS x 100 ≤ 60) (hc : ∀ j, j < x.kids.length → smallS (x.kids.getD j default) (d - 1) = true) : smallS x d = true := by rw [smallS_eq, decide_eq_true h, all_upto hc]; rfl
def sameV (a b : List Vl) : Bool := decide (a = b)
theorem sameV_len {a b : List Vl} (h : ¬ a.length = b.length) : sameV a b = false := decide_eq_false fun e => h (by rw [e])
theorem sameV_at {a b : List Vl} {i : Nat} (h : ¬ a.getD i default = b.getD i default) : sameV a b = false := decide_eq_false fun e => h (by rw [e])
theorem sameV_true {a b : List Vl} (hl : a.length = b.length) (h : ∀ j, j < a.length → a.getD j default = b.getD j default) : sameV a b = true := by
  refine decide_eq_true (List.ext_getElem hl fun j h1 h2 => ?_)
  have := h j h1
  simpa [List.getD_eq_getElem?_getD, h1, h2] using this
theorem all_below {p : Nat → Prop} {i : Nat} (h : ∀ j, j < i → p j) (hi : p i) : ∀ j, j < i + 1 → p j := fun j hj => by
  rcases Nat.lt_succ_iff_lt_or_eq.1 hj with hj | hj
  · exact h j hj
  · rw [hj]; exact hi
end Go.Fw
namespace Go.Fw
open Go
set_option linter.unusedVariables false
set_option linter.unusedSimpArgs false
section
variable {P : Program}
theorem HasT.asAggL {t : TypeId} {fs : Array Field} {x : D} (hu : P.underlying t = some (.struct fs)) (h : HasT P t x) : ∃ l, x = .agg l ∧ HasTs P (fs.toList.map (·.type)) l := by
  obtain ⟨l, rfl, hl, hy⟩ := h.asAgg hu
  refine ⟨l, rfl, ?_⟩
  have key : ∀ (gs : List Field) (l : List D), l.length = gs.length → (∀ (i : Nat) (f : Field) (y : D), gs[i]? = some f → l[i]? = some y → HasT P f.type y) → HasTs P (gs.map (·.type)) l := by
    intro gs
    induction gs with
    | nil => intro l hl _; rw [List.eq_nil_of_length_eq_zero hl]; exact trivial
    | cons g gs ih =>
      intro l hl hy
      cases l with
      | nil => simp at hl
      | cons y l => exact ⟨hy 0 g y rfl rfl, ih l (by simpa using hl) fun i f z hf hz => hy (i + 1) f z (by simpa using hf) (by simpa using hz)⟩
  exact key fs.toList l (by simpa using hl) fun i f y hf hy' => hy i f y (by simpa using hf) hy'
theorem HasTs.cons {t : TypeId} {ts : List TypeId} {xs : List D} (h : HasTs P (t :: ts) xs) : ∃ y r, xs = y :: r ∧ HasT P t y ∧ HasTs P ts r := by
  cases xs with
  | nil => exact h.elim
  | cons y r => exact ⟨y, r, rfl, h.1, h.2⟩
theorem HasTs.nil {xs : List D} (h : HasTs P [] xs) : xs = [] := by
  cases xs with
  | nil => rfl
  | cons y r => exact h.elim
theorem wf_i64 {n : Int} (h : (Lit.int .i64 n).wf = true) : -9223372036854775808 ≤ n ∧ n ≤ 9223372036854775807 := by
  simp [Lit.wf, IntKind.min, IntKind.max, IntKind.bits, IntKind.signed] at h
  omega
 
theorem HasT.asVl {t tb ts : TypeId} {fs : Array Field} {x : D} (hu : P.underlying t = some (.struct fs)) (hf : fs.toList.map (·.type) = [tb, ts]) (hb : P.underlying tb = some .bool) (hs : P.underlying ts = some .string) (h : HasT P t x) : ∃ v : Vl, x = encV v ∧ v.2.size ≤ maxLen := by
  obtain ⟨l, rfl, hl⟩ := h.asAggL hu
  rw [hf] at hl
  obtain ⟨a, r, rfl, h1, h2⟩ := hl.cons
  obtain ⟨b, r2, rfl, h3, h4⟩ := h2.cons
  obtain rfl := h4.nil
  obtain ⟨q, rfl⟩ := h1.asBool hb
  obtain ⟨s, rfl, hz⟩ := h3.asStr hs
  exact ⟨(q, s), rfl, hz⟩
theorem HasT.asRow {tr t tb ts : TypeId} {fs : Array Field} {x : D} (hr : P.underlying tr = some (.slice t)) (hc : P.cellsOf t = 2) (hu : P.underlying t = some (.struct fs)) (hf : fs.toList.map (·.type) = [tb, ts]) (hb : P.underlying tb = some .bool) (hs : P.underlying ts = some .string) (h : HasT P tr x) : ∃ row : List Vl, x = .sl 2 (row.map encV) ∧ row.length ≤ maxLen := by
  obtain ⟨l, rfl, hl, hy⟩ := h.asSl hr
  obtain ⟨az, rfl, _⟩ := map_of (f := encV) (p := fun _ => True) fun y hy' => by
    obtain ⟨v, e, _⟩ := (hy y hy').asVl hu hf hb hs
    exact ⟨v, e, trivial⟩
  exact ⟨az, by rw [hc], by simpa using hl⟩
 
inductive Wf : Sc → Prop
  | mk {x : Sc} : x.fr ≤ 9223372036854775807 → x.n ≤ 9223372036854775807 → (∀ k ∈ x.kids, Wf k) → Wf x
theorem Wf.good {c : Int} : ∀ (d : Nat) (x : Sc), Wf x → rightD d x c = true → Good c x
  | 0, x, _, h => by simp [rightD] at h
  | d + 1, x, hw, h => by
    rw [rightD, Bool.and_eq_true, decide_eq_true_eq, List.all_eq_true] at h
    cases hw with
    | mk h1 h2 h3 => exact .mk h.1 h1 h2 fun k hk => Wf.good d k (h3 k hk) (h.2 k hk)
theorem HasT.asSc {t ti ts tl : TypeId} {fs : Array Field} (hu : P.underlying t = some (.struct fs)) (hf : fs.toList.map (·.type) = [ti, ti, ts, ti, ti, tl]) (hi : P.underlying ti = some (.int .i64)) (hs : P.underlying ts = some .string) (hl : P.underlying tl = some (.slice t)) (hc : P.cellsOf t = 6) : ∀ (x : D), HasT P t x → ∃ s : Sc, x = encSc s ∧ Wf s := by
  have key : ∀ (n : Nat) (x : D), SizeOf.sizeOf x ≤ n → HasT P t x → ∃ s : Sc, x = encSc s ∧ Wf s := by
    intro n
    induction n with
    | zero =>
      intro x hn h
      obtain ⟨l, rfl, _⟩ := h.asAggL hu
      simp at hn
    | succ n ih =>
      intro x hn h
      obtain ⟨l, rfl, hl'⟩ := h.asAggL hu
      rw [hf] at hl'
      obtain ⟨a0, r0, rfl, h0, hl'⟩ := hl'.cons
      obtain ⟨a1, r1, rfl, h1, hl'⟩ := hl'.cons
      obtain ⟨a2, r2, rfl, h2, hl'⟩ := hl'.cons
      obtain ⟨a3, r3, rfl, h3, hl'⟩ := hl'.cons
      obtain ⟨a4, r4, rfl, h4, hl'⟩ := hl'.cons
      obtain ⟨a5, r5, rfl, h5, hl'⟩ := hl'.cons
      obtain rfl := hl'.nil
      obtain ⟨n0, rfl, _⟩ := h0.asInt hi
      obtain ⟨n1, rfl, _⟩ := h1.asInt hi
      obtain ⟨s2, rfl, _⟩ := h2.asStr hs
      obtain ⟨n3, rfl, w3⟩ := h3.asInt hi
      obtain ⟨n4, rfl, w4⟩ := h4.asInt hi
      obtain ⟨l5, rfl, _, hy⟩ := h5.asSl hl
      obtain ⟨az, rfl, haz⟩ := map_of (f := encSc) (p := Wf) fun y hy' => ih y (by
        have := List.sizeOf_lt_of_mem hy'
        simp at hn
        omega) (hy y hy')
      refine ⟨.mk n0 n1 s2 n3 n4 az, ?_, .mk (wf_i64 w3).2 (wf_i64 w4).2 haz⟩
      rw [encSc_eq, hc]
      rfl
  exact fun x h => key _ x (Nat.le_refl _) h
end
theorem rowOK_of {row : List Vl} {c : Int} (h : rowsB [row] c = true) : rowOK row ∧ (row.length : Int) = c ∧ ∀ v ∈ row, v.2.size ≤ 100 ∧ (v.1 = true → v.2.size = 0) := by
  simp only [rowsB, rowB, List.all_cons, List.all_nil, Bool.and_true, Bool.and_eq_true, decide_eq_true_eq, List.all_eq_true, Bool.or_eq_true, Bool.not_eq_true'] at h
  have key : ∀ v ∈ row, v.2.size ≤ 100 ∧ (v.1 = true → v.2.size = 0) := fun v hv => by
    have := h.2.2 v hv
    refine ⟨this.1, fun hn => this.2.resolve_left (by simp [hn])⟩
  exact ⟨fun v hv => Nat.le_trans (key v hv).1 (by decide), h.2.1, key⟩
end Go.Fw
