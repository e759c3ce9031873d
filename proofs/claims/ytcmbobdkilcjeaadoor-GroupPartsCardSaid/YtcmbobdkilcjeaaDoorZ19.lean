/- What the proofs of this seat lean on, part 19: a symbolic machine that is shown sound, walks through functions, plain laws. -/
import Derived.Test.YtcmbobdkilcjeaaDoorZ18
import Derived.Lib.MinMaxS
namespace Go.Fw
open Go
set_option linter.unusedVariables false
set_option linter.unusedSimpArgs false
abbrev Ag := Int × Int
def encA (a : Ag) : D := .agg [.int .i64 a.1, .int .i64 a.2]
 
def presS (rows : List Rw) (c : Int) : List ByteArray := (rows.filter fun r => !(r.getD c.toNat default).1).map fun r => (r.getD c.toNat default).2
theorem presS_yes {rows : List Rw} {c : Int} {i : Nat} (h : i < rows.length) (hn : ((rows.getD i default).getD c.toNat default).1 = false) : presS (rows.take i) c ++ [((rows.getD i default).getD c.toNat default).2] = presS (rows.take (i + 1)) c := by
  have e : rows.take (i + 1) = rows.take i ++ [rows.getD i default] := by
    rw [List.take_add_one]
    simp [List.getD_eq_getElem?_getD, h]
  rw [e]
  unfold presS
  rw [List.filter_append, List.map_append]
  simp only [List.filter_cons, List.filter_nil, hn, Bool.not_false, Bool.not_true, if_true, List.map_cons, List.map_nil, Bool.false_eq_true, if_false, List.append_nil]
theorem presS_no {rows : List Rw} {c : Int} {i : Nat} (h : i < rows.length) (hn : ((rows.getD i default).getD c.toNat default).1 = true) : presS (rows.take (i + 1)) c = presS (rows.take i) c := by
  have e : rows.take (i + 1) = rows.take i ++ [rows.getD i default] := by
    rw [List.take_add_one]
    simp [List.getD_eq_getElem?_getD, h]
  rw [e]
  unfold presS
  rw [List.filter_append, List.map_append]
  simp only [List.filter_cons, List.filter_nil, hn, Bool.not_false, Bool.not_true, if_true, List.map_cons, List.map_nil, Bool.false_eq_true, if_false, List.append_nil]
theorem presS_len (rows : List Rw) (c : Int) : (presS rows c).length ≤ rows.length := by
  unfold presS
  rw [List.length_map]
  exact List.length_filter_le _ _
theorem presS_take_len (rows : List Rw) (c : Int) (i : Nat) : (presS (rows.take i) c).length ≤ i := by
  have h1 := presS_len (rows.take i) c
  have h2 := List.length_take_le i rows
  omega
theorem presS_size {rows : List Rw} {c : Int} {m : Nat} (h : ∀ r ∈ rows, ∀ v ∈ r, v.2.size ≤ m) : ∀ s ∈ presS rows c, s.size ≤ m := fun s hs => by
  obtain ⟨r, hr, rfl⟩ := List.mem_map.1 hs
  have hr2 := (List.mem_filter.1 hr).1
  rw [List.getD_eq_getElem?_getD]
  cases hc : r[c.toNat]? with
  | none => exact Nat.zero_le _
  | some v => exact h r hr2 v (List.mem_of_getElem? hc)
def oneS (rows : List Rw) (a : Ag) : Vl :=
  if a.1 = 1 then (false, itoaS rows.length)
  else if a.1 = 2 then (false, itoaS (presS rows a.2).length)
  else if a.1 = 3 then (false, itoaS (tidy (presS rows a.2)).length)
  else if (presS rows a.2).length = 0 then (true, nilB)
  else if a.1 = 4 then (false, Lib.minOfS (presS rows a.2))
  else (false, Lib.maxOfS (presS rows a.2))
theorem tidy_len (l : List ByteArray) : (tidy l).length ≤ l.length := by
  unfold tidy
  rw [compactS_len]
  have := Lib.compact_length_le ((sortS l).map bytesOf)
  rw [List.length_map, sortS_len] at this
  exact this
theorem lt_slt {a b : ByteArray} : a.data.toList < b.data.toList ↔ slt a b = true := (less_iff a.data.toList b.data.toList).symm
theorem getD_empty {l : List ByteArray} {k : Nat} (h : k < l.length) : l.getD k ByteArray.empty = l.getD k default := by simp [List.getD_eq_getElem?_getD, h]
theorem min_take {l : List ByteArray} {k : Nat} (h0 : 0 < k) (hk : k < l.length) :
    (cmpS (l.getD k default) (Lib.minOfS (l.take k)) < 0 → Lib.minOfS (l.take (k + 1)) = l.getD k default) ∧ (0 ≤ cmpS (l.getD k default) (Lib.minOfS (l.take k)) → Lib.minOfS (l.take (k + 1)) = Lib.minOfS (l.take k)) := by
  rw [Lib.minOfS_step l k h0 hk, getD_empty hk]
  unfold Lib.minS
  refine ⟨fun h => ?_, fun h => ?_⟩
  · have h1 := cmp_lt h
    have h2 := slt_asymm h1
    refine if_neg fun h3 => ?_
    rcases h3 with h3 | h3
    · rw [lt_slt] at h3
      rw [h2] at h3
      cases h3
    · have : Lib.minOfS (l.take k) = l.getD k default := ba_ext h3
      rw [this, slt_irrefl] at h1
      cases h1
  · have h1 := cmp_ge h
    by_cases h2 : slt (Lib.minOfS (l.take k)) (l.getD k default) = true
    · exact if_pos (.inl (lt_slt.2 h2))
    · refine if_pos (.inr ?_)
      rw [Bool.not_eq_true] at h2
      exact less_total _ _ h1 h2 |>.symm
theorem max_take {l : List ByteArray} {k : Nat} (h0 : 0 < k) (hk : k < l.length) :
    (0 < cmpS (l.getD k default) (Lib.maxOfS (l.take k)) → Lib.maxOfS (l.take (k + 1)) = l.getD k default) ∧ (cmpS (l.getD k default) (Lib.maxOfS (l.take k)) ≤ 0 → Lib.maxOfS (l.take (k + 1)) = Lib.maxOfS (l.take k)) := by
  rw [Lib.maxOfS_step l k h0 hk, getD_empty hk]
  unfold Lib.maxS
  refine ⟨fun h => if_pos (lt_slt.2 (cmp_gt h)), fun h => if_neg fun h3 => ?_⟩
  have := cmp_le h
  rw [lt_slt] at h3
  rw [this] at h3
  cases h3
theorem min_one (l : List ByteArray) (h : 0 < l.length) : Lib.minOfS (l.take 1) = l.getD 0 default := by rw [Lib.minOfS_one, getD_empty h]
theorem max_one (l : List ByteArray) (h : 0 < l.length) : Lib.maxOfS (l.take 1) = l.getD 0 default := by rw [Lib.maxOfS_one, getD_empty h]
end Go.Fw
