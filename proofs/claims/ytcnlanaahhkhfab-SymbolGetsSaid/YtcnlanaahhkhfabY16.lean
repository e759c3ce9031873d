/- What the proofs of this seat lean on, part 16: a symbolic machine that is shown sound, walks through functions, plain laws. -/
import Derived.Shelf.Small.Bits
import Derived.Shelf.Strconv.Itoa0
import Derived.Shelf.Sort.Plain
import Derived.Shelf.Slices.CompactS
import Derived.Shelf.Slices.Cells
import Derived.Shelf.Slices.In.SortNone
import Derived.Test.YtcnlanaahhkhfabProg
import Derived.Test.YtcnlanaahhkhfabY13
import Derived.Test.YtcnlanaahhkhfabY15
import Derived.Test.YtcnlanaahhkhfabY12
namespace Go.Proofs
open Go.Shelf
def Try.lays128_ren : Go.Shelf.Ren := ⟨fun | 128 => 46 | n => n, fun | 51 => 66 | 3 => 3 | 4 => 4 | 46 => 56 | 5 => 5 | 9 => 9 | n => n, fun | n => n⟩
theorem Try.lays128 : Go.Proofs.Lays.n128 Try.prog Try.lays128_ren := {
  mixed := by kernel_rfl
  f128 := Try.func46.trans (congrArg some (by kernel_rfl))
  t3 := Try.underlying3
  a3 := Try.isAgg3
  z3 := Try.sizeOf3
  v3 := Try.zeroValue3
  t4 := Try.underlying4
  a4 := Try.isAgg4
  z4 := Try.sizeOf4
  v4 := Try.zeroValue4
  t5 := Try.underlying5
  a5 := Try.isAgg5
  z5 := Try.sizeOf5
  v5 := Try.zeroValue5
  t9 := Try.underlying9
  a9 := Try.isAgg9
  z9 := Try.sizeOf9
  v9 := Try.zeroValue9
  t46 := Try.underlying56
  a46 := Try.isAgg56
  z46 := Try.sizeOf56
  v46 := Try.zeroValue56
  t51 := Try.underlying66
  a51 := Try.isAgg66
  z51 := Try.sizeOf66
  v51 := Try.zeroValue66 }
 
theorem Try.bits_Len32 (x : Int) (w : World) (h0 : 0 ≤ x) (h1 : x ≤ 4294967295) :
    Calls Try.prog 46 #[.int .u32 x] w fun e w' => e = .returned (.int .i64 (Lib.bitLen x.toNat)) ∧ w' = w := Any.bits_Len32 Try.lays128 x w h0 h1
def Try.lays125_ren : Go.Shelf.Ren := ⟨fun | 125 => 35 | 128 => 46 | 129 => 47 | n => n, fun | 46 => 56 | 3 => 3 | 51 => 66 | 53 => 68 | 4 => 4 | 5 => 5 | 9 => 9 | n => n, fun | n => n⟩
theorem Try.lays125 : Go.Proofs.Lays.n125 Try.prog Try.lays125_ren := {
  mixed := by kernel_rfl
  f125 := Try.func35.trans (congrArg some (by kernel_rfl))
  f128 := Try.func46.trans (congrArg some (by kernel_rfl))
  f129 := Try.func47.trans (congrArg some (by kernel_rfl))
  t3 := Try.underlying3
  a3 := Try.isAgg3
  z3 := Try.sizeOf3
  v3 := Try.zeroValue3
  t4 := Try.underlying4
  a4 := Try.isAgg4
  z4 := Try.sizeOf4
  v4 := Try.zeroValue4
  t5 := Try.underlying5
  a5 := Try.isAgg5
  z5 := Try.sizeOf5
  v5 := Try.zeroValue5
  t9 := Try.underlying9
  a9 := Try.isAgg9
  z9 := Try.sizeOf9
  v9 := Try.zeroValue9
  t46 := Try.underlying56
  a46 := Try.isAgg56
  z46 := Try.sizeOf56
  v46 := Try.zeroValue56
  t51 := Try.underlying66
  a51 := Try.isAgg66
  z51 := Try.sizeOf66
  v51 := Try.zeroValue66
  t53 := Try.underlying68
  a53 := Try.isAgg68
  z53 := Try.sizeOf68
  v53 := Try.zeroValue68 }
 
theorem Try.bits_Len (x : Int) (w : World) (h0 : 0 ≤ x) (h1 : x ≤ 18446744073709551615) :
    Calls Try.prog 35 #[.int .u64 x] w fun e w' => e = .returned (.int .i64 (Lib.bitLen x.toNat)) ∧ w' = w := Any.bits_Len Try.lays125 x w h0 h1
def Try.lays129_ren : Go.Shelf.Ren := ⟨fun | 129 => 47 | n => n, fun | 53 => 68 | 3 => 3 | 4 => 4 | 46 => 56 | 5 => 5 | 9 => 9 | n => n, fun | n => n⟩
theorem Try.lays129 : Go.Proofs.Lays.n129 Try.prog Try.lays129_ren := {
  mixed := by kernel_rfl
  f129 := Try.func47.trans (congrArg some (by kernel_rfl))
  t3 := Try.underlying3
  a3 := Try.isAgg3
  z3 := Try.sizeOf3
  v3 := Try.zeroValue3
  t4 := Try.underlying4
  a4 := Try.isAgg4
  z4 := Try.sizeOf4
  v4 := Try.zeroValue4
  t5 := Try.underlying5
  a5 := Try.isAgg5
  z5 := Try.sizeOf5
  v5 := Try.zeroValue5
  t9 := Try.underlying9
  a9 := Try.isAgg9
  z9 := Try.sizeOf9
  v9 := Try.zeroValue9
  t46 := Try.underlying56
  a46 := Try.isAgg56
  z46 := Try.sizeOf56
  v46 := Try.zeroValue56
  t53 := Try.underlying68
  a53 := Try.isAgg68
  z53 := Try.sizeOf68
  v53 := Try.zeroValue68 }
 
theorem Try.bits_Len64 (x : Int) (w : World) (h0 : 0 ≤ x) (h1 : x ≤ 18446744073709551615) :
    Calls Try.prog 47 #[.int .u64 x] w fun e w' => e = .returned (.int .i64 (Lib.bitLen x.toNat)) ∧ w' = w := Any.bits_Len64 Try.lays129 x w h0 h1
def Try.lays190_ren : Go.Shelf.Ren := ⟨fun | 190 => 27 | 125 => 35 | 258 => 34 | 128 => 46 | 129 => 47 | 302 => 38 | 303 => 39 | 304 => 40 | 305 => 41 | 306 => 42 | 307 => 43 | 308 => 36 | 309 => 44 | 310 => 45 | 333 => 49 | 329 => 50 | 330 => 51 | 334 => 52 | 335 => 53 | 336 => 48 | 344 => 54 | n => n, fun | 31 => 22 | 9 => 9 | 3 => 3 | 46 => 56 | 0 => 0 | 51 => 66 | 53 => 68 | 4 => 4 | 183 => 60 | 182 => 59 | 131 => 47 | 5 => 5 | 218 => 69 | 222 => 73 | 228 => 75 | 229 => 33 | n => n, fun | n => n⟩
theorem Try.lays190 : Go.Proofs.Lays.n190 Try.prog Try.lays190_ren := {
  mixed := by kernel_rfl
  f125 := Try.func35.trans (congrArg some (by kernel_rfl))
  f128 := Try.func46.trans (congrArg some (by kernel_rfl))
  f129 := Try.func47.trans (congrArg some (by kernel_rfl))
  f190 := Try.func27.trans (congrArg some (by kernel_rfl))
  f258 := Try.func34.trans (congrArg some (by kernel_rfl))
  f302 := Try.func38.trans (congrArg some (by kernel_rfl))
  f303 := Try.func39.trans (congrArg some (by kernel_rfl))
  f304 := Try.func40.trans (congrArg some (by kernel_rfl))
  f305 := Try.func41.trans (congrArg some (by kernel_rfl))
  f306 := Try.func42.trans (congrArg some (by kernel_rfl))
  f307 := Try.func43.trans (congrArg some (by kernel_rfl))
  f308 := Try.func36.trans (congrArg some (by kernel_rfl))
  f309 := Try.func44.trans (congrArg some (by kernel_rfl))
  f310 := Try.func45.trans (congrArg some (by kernel_rfl))
  f329 := Try.func50.trans (congrArg some (by kernel_rfl))
  f330 := Try.func51.trans (congrArg some (by kernel_rfl))
  f333 := Try.func49.trans (congrArg some (by kernel_rfl))
  f334 := Try.func52.trans (congrArg some (by kernel_rfl))
  f335 := Try.func53.trans (congrArg some (by kernel_rfl))
  f336 := Try.func48.trans (congrArg some (by kernel_rfl))
  f344 := Try.func54.trans (congrArg some (by kernel_rfl))
  t0 := Try.underlying0
  a0 := Try.isAgg0
  z0 := Try.sizeOf0
  v0 := Try.zeroValue0
  t3 := Try.underlying3
  a3 := Try.isAgg3
  z3 := Try.sizeOf3
  v3 := Try.zeroValue3
  t4 := Try.underlying4
  a4 := Try.isAgg4
  z4 := Try.sizeOf4
  v4 := Try.zeroValue4
  t5 := Try.underlying5
  a5 := Try.isAgg5
  z5 := Try.sizeOf5
  v5 := Try.zeroValue5
  t9 := Try.underlying9
  a9 := Try.isAgg9
  z9 := Try.sizeOf9
  v9 := Try.zeroValue9
  t31 := Try.underlying22
  a31 := Try.isAgg22
  z31 := Try.sizeOf22
  v31 := Try.zeroValue22
  t46 := Try.underlying56
  a46 := Try.isAgg56
  z46 := Try.sizeOf56
  v46 := Try.zeroValue56
  t51 := Try.underlying66
  a51 := Try.isAgg66
  z51 := Try.sizeOf66
  v51 := Try.zeroValue66
  t53 := Try.underlying68
  a53 := Try.isAgg68
  z53 := Try.sizeOf68
  v53 := Try.zeroValue68
  t131 := Try.underlying47
  a131 := Try.isAgg47
  z131 := Try.sizeOf47
  v131 := Try.zeroValue47
  t182 := Try.underlying59
  a182 := Try.isAgg59
  z182 := Try.sizeOf59
  v182 := Try.zeroValue59
  t183 := Try.underlying60
  a183 := Try.isAgg60
  z183 := Try.sizeOf60
  v183 := Try.zeroValue60
  t218 := Try.underlying69
  a218 := Try.isAgg69
  z218 := Try.sizeOf69
  v218 := Try.zeroValue69
  t222 := Try.underlying73
  a222 := Try.isAgg73
  z222 := Try.sizeOf73
  v222 := Try.zeroValue73
  t228 := Try.underlying75
  a228 := Try.isAgg75
  z228 := Try.sizeOf75
  v228 := Try.zeroValue75
  t229 := Try.underlying33
  a229 := Try.isAgg33
  z229 := Try.sizeOf33
  v229 := Try.zeroValue33 }
open Go.Sort Go.RowKit in
theorem Try.slices_Sort_string (blk off cap : Nat) (ss : List (List UInt8)) (w : World) (hH : Holds encStr w blk off ss.toArray) (hblk : blk < w.heap.size) (hsz : ss.length < 4611686018427387904) :
    Calls Try.prog 27 #[.slice (some ⟨blk, off, none⟩) ss.length cap] w fun e w' =>
      e = .returned (.tuple #[]) ∧ ∃ n os, w' = grow (putRow encStr (Sort.ahead w n) blk off (ss.mergeSort fun x y => decide (x ≤ y)).toArray) os := Any.slices_Sort_string Try.lays190 blk off cap ss w hH hblk hsz
def Try.lays194_ren : Go.Shelf.Ren := ⟨fun | 194 => 28 | n => n, fun | 31 => 22 | 9 => 9 | 3 => 3 | 4 => 4 | 0 => 0 | n => n, fun | n => n⟩
theorem Try.lays194 : Go.Proofs.Lays.n194 Try.prog Try.lays194_ren := {
  mixed := by kernel_rfl
  f194 := Try.func28.trans (congrArg some (by kernel_rfl))
  t0 := Try.underlying0
  a0 := Try.isAgg0
  z0 := Try.sizeOf0
  v0 := Try.zeroValue0
  t3 := Try.underlying3
  a3 := Try.isAgg3
  z3 := Try.sizeOf3
  v3 := Try.zeroValue3
  t4 := Try.underlying4
  a4 := Try.isAgg4
  z4 := Try.sizeOf4
  v4 := Try.zeroValue4
  t9 := Try.underlying9
  a9 := Try.isAgg9
  z9 := Try.sizeOf9
  v9 := Try.zeroValue9
  t31 := Try.underlying22
  a31 := Try.isAgg22
  z31 := Try.sizeOf22
  v31 := Try.zeroValue22 }
open Go.RowKit Go.Lib Go.Sort in
 
theorem Try.slices_Compact_string_arr (blk off cap : Nat) (d : Array (List UInt8)) (w : World) (hH : Holds encStr w blk off d) (hsz : d.size ≤ 9223372036854775807) (hcap : d.size ≤ cap) :
    Calls Try.prog 28 #[.slice (some ⟨blk, off, none⟩) d.size cap] w fun e w' => e = .returned (.slice (some ⟨blk, off, none⟩) (compactUpTo d d.size).length cap) ∧ ∃ q, w' = putRow encStr (Sort.ahead w q) blk off (compactUpTo d d.size ++ List.replicate (d.size - (compactUpTo d d.size).length) []).toArray := Any.slices_Compact_string_arr Try.lays194 blk off cap d w hH hsz hcap
open Go.RowKit Go.Lib Go.Sort in
 
theorem Try.slices_Compact_string (blk off cap : Nat) (zs : List (List UInt8)) (w : World) (hH : Holds encStr w blk off zs.toArray) (hsz : zs.length ≤ 9223372036854775807) (hcap : zs.length ≤ cap) :
    Calls Try.prog 28 #[.slice (some ⟨blk, off, none⟩) zs.length cap] w fun e w' => e = .returned (.slice (some ⟨blk, off, none⟩) (Lib.compact zs).length cap) ∧ ∃ q, w' = putRow encStr (Sort.ahead w q) blk off (Lib.compact zs ++ List.replicate (zs.length - (Lib.compact zs).length) []).toArray := Any.slices_Compact_string Try.lays194 blk off cap zs w hH hsz hcap
open Go.RowKit Go.Lib Go.Sort in
 
theorem Try.slices_Compact_string_empty (a : Option Addr) (cap : Nat) (w : World) :
    Calls Try.prog 28 #[.slice a 0 cap] w fun e w' => e = .returned (.slice a 0 cap) ∧ w' = w := Any.slices_Compact_string_empty Try.lays194 a cap w
open Go.RowKit Go.Lib Go.Sort in
 
theorem Try.slices_Compact_string_cells (b off n c : Nat) (Sx : Nat → ByteArray) (w : World) (hbig : n ≤ 9223372036854775807) (hcap : n ≤ c) (hc : ∀ i, i < n → w.cell? ⟨b, off + i, none⟩ = some (.string (Sx i))) (hf : ∀ j, j < n → w.frozen? ⟨b, off + j, none⟩ = false) :
    Calls Try.prog 28 #[.slice (some ⟨b, off, none⟩) n c] w fun e w' => e = .returned (.slice (some ⟨b, off, none⟩) (Lib.compact (Lib.strsOf Sx n)).length c) ∧ ∃ q, w' = (w.drewN q).setCells b off ((Lib.compact (Lib.strsOf Sx n) ++ List.replicate (n - (Lib.compact (Lib.strsOf Sx n)).length) []).map encStr) := Any.slices_Compact_string_cells Try.lays194 b off n c Sx w hbig hcap hc hf
open Go.RowKit Go.Sort in
 
theorem Try.slices_Sort_string_none (p : Option Addr) (cap : Nat) (w : World) :
    Calls Try.prog 27 #[.slice p 0 cap] w fun e w' => e = .returned (.tuple #[]) ∧ w' = w := Any.slices_Sort_string_none Try.lays190 p cap w
end Go.Proofs
namespace Go.Fw
open Go Go.Proofs
set_option maxHeartbeats 10000000
set_option maxRecDepth 100000
set_option linter.constructorNameAsVariable false
set_option linter.unusedVariables false
set_option linter.unusedSimpArgs false
theorem sort_con (e : Nat) (ss : List ByteArray) (hlen : ss.length < 4611686018427387904) :
    Has Try.prog 27 [.own e 1 (ss.map D.str)] (fun rs bs => rs = [] ∧ bs = [.own e 1 ((sortS ss).map D.str)]) :=
  sort_has (fn := Try.f27) (by kernel_rfl) (by kernel_rfl) (by kernel_rfl) Try.slices_Sort_string Try.slices_Sort_string_none e ss hlen
theorem compact_con (e : Nat) (ss : List ByteArray) :
    Has Try.prog 28 [.own e 1 (ss.map D.str)] (fun rs bs => rs = [.own e 1 ((compactS ss).map D.str)] ∧ bs = [.gone]) :=
  compact_has (fn := Try.f28) (by kernel_rfl) (by kernel_rfl) (by kernel_rfl) Try.slices_Compact_string Try.slices_Compact_string_empty e ss
def M16 : FuncId → List Mode := fun g => if g = 27 then [.own] else if g = 28 then [.own] else []
theorem order_con (l : List ByteArray) (hl : l.length ≤ 1000000000) : Has Try.prog 16 [CV.d (D.sl 1 (l.map D.str))] (fun rs _ => rs = [CV.own 9 1 ((orderS l).map D.str)] ) := by
  have hb9 : Try.prog.bytesOf 9 = 16 := by kernel_rfl
  refine Has_of_run (fn := Try.f16) (M := M16) fol (by kernel_rfl) 6 noPlan [.own] [] (by kernel_rfl) (Nat.le_of_ble_eq_true rfl) ?_
  repeat' ((conv => whnf); first | (refine And.intro (fun h => ?_) (fun h => ?_) <;> (try simp only [toNat_pred, toNat_succ, toNat_addn, toNat_subn, decide_eq_true_eq, decide_eq_false_iff_not, Bool.not_eq_true', Bool.not_eq_false', List.length_map, Int.toNat_natCast, Int.not_lt, Int.not_le, Bool.not_eq_true, Bool.false_eq_true, Bool.true_eq_false, Bool.not_true, Bool.not_false, reduceCtorEq, beq_iff_eq, Bool.not_eq_eq_eq_not, bne_iff_ne, ne_eq, decide_not, Decidable.not_not, Classical.not_not, sortS_len] at h)) | refine And.intro rfl ?_ | refine And.intro (Or.inr rfl) ?_ | refine And.intro (Nat.le_of_ble_eq_true rfl) ?_ | refine And.intro ⟨rfl, rfl⟩ ?_ | refine And.intro ⟨rfl, rfl, trivial⟩ ?_ | refine And.intro (Int.natCast_nonneg _) ?_ | refine Or.inl (And.intro rfl (And.intro rfl (And.intro rfl (And.intro rfl ?_)))) | refine Or.inl (And.intro rfl (And.intro rfl ?_)) | refine Or.inr (And.intro (Nat.le_of_ble_eq_true rfl) ?_) | refine Or.inl (And.intro (by unfold in64; omega) ?_) | refine And.intro (by first | omega | (simp only [dlen, true_and, and_true, Nat.le_refl, List.length_map, List.length_append, List.length_cons, List.length_nil, List.length_take, List.length_drop, List.length_replicate, Int.toNat_natCast, List.append_nil, hb9, sortS_len] <;> omega) | fail) ?_ | refine And.intro (allU8_bytes _) ?_ | refine And.intro (show elemsP _ _ _ by repeat' (first | exact rfl | exact trivial | constructor)) ?_ | (refine (may_con _).mono fun rs bs hr => ?_; subst hr) | (refine (sort_con _ _ (by omega)).mono fun rs bs hr => ?_; obtain ⟨rfl, rfl⟩ := hr) | (refine (compact_con _ _).mono fun rs bs hr => ?_; obtain ⟨rfl, rfl⟩ := hr) | (refine Loops.by (M := M16) 6 noPlan fol (by kernel_rfl) (ι := Nat) (fun i => ⟨[(3, AV.ref [3] 16 1 0 (((l.take i).filter mayD).map D.str).length), (6, AV.d (D.sl 1 (l.map D.str))), (7, AV.d (D.int .i64 l.length)), (8, AV.d (D.int .i64 i))], [([3], 16, AO.row 9 1 (((l.take i).filter mayD).map D.str))], 17⟩) (fun i => i ≤ l.length) (fun i => l.length - i) (fun i hI => ?_) (0) (Nat.zero_le _) (Forget.mk' ⟨⟨rfl, rfl⟩, ⟨rfl, rfl⟩, ⟨rfl, rfl⟩, ⟨rfl, rfl⟩, trivial⟩ ⟨⟨rfl, rfl, rfl⟩, trivial⟩ rfl rfl); have hf := filter_upto mayD l i) | (refine fun x hx => ?_; (try simp (disch := omega) only [if_true, if_false, Bool.false_eq_true, min_nn, max_nn, min_ln, min_nl, max_ln, max_nl, getD_map, str_of_bytes, take_bytes, take_data, wrap_u64, wrap_u32, shr_i64, shr_u64, shr_u32, shl_i64, shl_u64, Int.reduceToNat, Int.reducePow, Int.pow_succ, Int.pow_zero, Int.one_mul, Int.reduceMul, wrap_id, wrap_u8_nat, wrap_i64_u8, byteD_mk, map_snoc, map_app, set_map, take_map', drop_map', Nat.sub_zero, List.length_map, List.length_append, List.length_cons, List.length_nil, Int.toNat_natCast, List.drop_zero, List.take_succ_cons, List.take_zero, List.take_length, List.nil_append, List.append_nil, Nat.zero_add, toNat_pred, toNat_succ, toNat_addn, toNat_subn, sortS_len] at hx); subst hx) | rw [List.take_length] | (rw [List.take_of_length_le]; rotate_left; (first | omega | (simp only [dlen, true_and, and_true, Nat.le_refl, List.length_map, List.length_append, List.length_cons, List.length_nil, List.length_take, List.length_drop, List.length_replicate, Int.toNat_natCast, List.append_nil, hb9, sortS_len] <;> omega) | fail)) | refine fun h => ?_ | fail); all_goals (try (conv => whnf))
  · refine ⟨i + 1, ⟨by omega, by omega⟩, ?_⟩
    rw [filter_yes (by omega) (by assumption)]
    exact (Forget.mk' ⟨⟨rfl, rfl⟩, ⟨rfl, rfl⟩, ⟨rfl, rfl⟩, ⟨rfl, rfl⟩, trivial⟩ ⟨⟨rfl, rfl, rfl⟩, trivial⟩ rfl rfl)
  · refine ⟨i + 1, ⟨by omega, by omega⟩, ?_⟩
    rw [filter_no (by omega) (by assumption)]
    exact (Forget.mk' ⟨⟨rfl, rfl⟩, ⟨rfl, rfl⟩, ⟨rfl, rfl⟩, ⟨rfl, rfl⟩, trivial⟩ ⟨⟨rfl, rfl, rfl⟩, trivial⟩ rfl rfl)
  · rw [List.take_of_length_le (i := i) (l := l) (by omega), order_eq]
end Go.Fw
namespace Go.Fw
open Go Go.Proofs
set_option maxHeartbeats 10000000
set_option maxRecDepth 100000
set_option linter.constructorNameAsVariable false
set_option linter.unusedVariables false
set_option linter.unusedSimpArgs false
theorem awake_con : Has Try.prog 9 [] (fun rs _ => rs = [CV.d (D.bool true)]) := by
  refine Has_of_run (fn := Try.f9) (M := M0) fol (by kernel_rfl) 6 noPlan [] [] (by kernel_rfl) (Nat.le_of_ble_eq_true rfl) ?_
  repeat' ((conv => whnf); first | (refine And.intro (fun h => ?_) (fun h => ?_) <;> (try simp only [toNat_pred, toNat_succ, toNat_addn, toNat_subn, decide_eq_true_eq, decide_eq_false_iff_not, Bool.not_eq_true', Bool.not_eq_false', List.length_map, Int.toNat_natCast, Int.not_lt, Int.not_le, Bool.not_eq_true, Bool.false_eq_true, Bool.true_eq_false, Bool.not_true, Bool.not_false, reduceCtorEq, beq_iff_eq, Bool.not_eq_eq_eq_not, bne_iff_ne, ne_eq, decide_not, Decidable.not_not, Classical.not_not] at h)) | refine And.intro rfl ?_ | refine And.intro (Or.inr rfl) ?_ | refine And.intro (Nat.le_of_ble_eq_true rfl) ?_ | refine And.intro ⟨rfl, rfl⟩ ?_ | refine And.intro ⟨rfl, rfl, trivial⟩ ?_ | refine And.intro (Int.natCast_nonneg _) ?_ | refine Or.inl (And.intro rfl (And.intro rfl (And.intro rfl (And.intro rfl ?_)))) | refine Or.inl (And.intro rfl (And.intro rfl ?_)) | refine Or.inr (And.intro (Nat.le_of_ble_eq_true rfl) ?_) | refine Or.inl (And.intro (by unfold in64; omega) ?_) | refine And.intro (by first | omega | (simp only [dlen, true_and, and_true, Nat.le_refl, List.length_map, List.length_append, List.length_cons, List.length_nil, List.length_take, List.length_drop, List.length_replicate, Int.toNat_natCast, List.append_nil] <;> omega) | fail) ?_ | refine And.intro (allU8_bytes _) ?_ | refine And.intro (show elemsP _ _ _ by repeat' (first | exact rfl | exact trivial | constructor)) ?_ | (refine (put_con [_, _]).mono fun rs bs hr => ?_; rw [if_pos (by decide +kernel)] at hr; subst hr) | (refine (right_con [_, _]).mono fun rs bs hr => ?_; subst hr) | (refine (order_con [_, _, _] (by decide)).mono fun rs bs hr => ?_; rw [order_bab] at hr; subst hr) | (refine (longest_con [_, _] _ (by decide) rises_ab).mono fun rs bs hr => ?_; replace hr := found_unique rises_ab hr found_ab; subst hr) | (refine fun x hx => ?_; (try simp (disch := omega) only [if_true, if_false, Bool.false_eq_true, min_nn, max_nn, min_ln, min_nl, max_ln, max_nl, getD_map, str_of_bytes, take_bytes, take_data, wrap_u64, wrap_u32, shr_i64, shr_u64, shr_u32, shl_i64, shl_u64, Int.reduceToNat, Int.reducePow, Int.pow_succ, Int.pow_zero, Int.one_mul, Int.reduceMul, wrap_id, wrap_u8_nat, wrap_i64_u8, byteD_mk, map_snoc, map_app, set_map, take_map', drop_map', Nat.sub_zero, List.length_map, List.length_append, List.length_cons, List.length_nil, Int.toNat_natCast, List.drop_zero, List.take_succ_cons, List.take_zero, List.take_length, List.nil_append, List.append_nil, Nat.zero_add, toNat_pred, toNat_succ, toNat_addn, toNat_subn] at hx); subst hx) | rw [List.take_length] | (rw [List.take_of_length_le]; rotate_left; (first | omega | (simp only [dlen, true_and, and_true, Nat.le_refl, List.length_map, List.length_append, List.length_cons, List.length_nil, List.length_take, List.length_drop, List.length_replicate, Int.toNat_natCast, List.append_nil] <;> omega) | fail)) | refine fun h => ?_ | fail); all_goals (try (conv => whnf))
  all_goals first | exact rb rfl | exact absurd ‹rightS _ = false› (by decide +kernel) | exact absurd trivial ‹¬True› | exact absurd awake_str ‹_›
end Go.Fw
namespace Go.Fw
open Go
set_option linter.unusedVariables false
set_option linter.unusedSimpArgs false
 
def takeB (b : List UInt8) (n : Nat) (e k : Int) : List UInt8 × Nat × Int :=
  if e ≠ 0 then ([], n, e) else if k < 0 then ([], n, 3) else if (b.length : Int) - n < k then ([], n, 2) else ((b.drop n).take k.toNat, n + k.toNat, e)
theorem takeB_err {b : List UInt8} {n : Nat} {e k : Int} (h : ¬ e = 0) : takeB b n e k = ([], n, e) := by simp [takeB, h]
theorem takeB_neg {b : List UInt8} {n : Nat} {e k : Int} (h : e = 0) (hk : k < 0) : takeB b n e k = ([], n, 3) := by simp [takeB, h, hk]
theorem takeB_cut {b : List UInt8} {n : Nat} {e k : Int} (h : e = 0) (hn : n ≤ b.length) (hk : ((b.length - n : Nat) : Int) < k) : takeB b n e k = ([], n, 2) := by
  have h1 : ¬ k < 0 := by omega
  have h2 : (b.length : Int) - n < k := by omega
  simp [takeB, h, h1, h2]
theorem takeB_ok {b : List UInt8} {n : Nat} {e k : Int} (h : e = 0) (hn : n ≤ b.length) (h0 : 0 ≤ k) (hk : k ≤ ((b.length - n : Nat) : Int)) : takeB b n e k = ((b.drop n).take k.toNat, n + k.toNat, e) := by
  have h1 : ¬ k < 0 := by omega
  have h2 : ¬ (b.length : Int) - n < k := by omega
  simp [takeB, h, h1, h2]
theorem takeB_le {b : List UInt8} {n : Nat} {e k : Int} (hn : n ≤ b.length) : (takeB b n e k).2.1 ≤ b.length := by
  unfold takeB
  split
  · exact hn
  · split
    · exact hn
    · split
      · exact hn
      · simp only; omega
theorem takeB_slice {b : List UInt8} {n : Nat} {k : Int} (h0 : 0 ≤ k) : List.drop ((n : Int) + k - k).toNat (List.take ((n : Int) + k).toNat b) = (b.drop n).take k.toNat := by
  rw [show ((n : Int) + k - k).toNat = n by omega, show ((n : Int) + k).toNat = n + k.toNat by omega, List.drop_take]
  congr 1
  omega
theorem takeB_place {n : Nat} {k : Int} (h0 : 0 ≤ k) : (n : Int) + k = ((n + k.toNat : Nat) : Int) := by omega
 
def byteOf1 : List UInt8 → Int
  | [x] => x.toNat
  | _ => 0
theorem byteOf1_one {l : List UInt8} (h : l.length = 1) : ((l.getD 0 default).toNat : Int) = byteOf1 l := by
  match l, h with
  | [x], _ => rfl
theorem byteOf1_no {l : List UInt8} (h : ¬ l.length = 1) : byteOf1 l = 0 := by
  match l, h with
  | [], _ => rfl
  | [x], h => exact absurd rfl h
  | _ :: _ :: _, _ => rfl
theorem byteOf1_le (l : List UInt8) : 0 ≤ byteOf1 l ∧ byteOf1 l ≤ 255 := by
  unfold byteOf1
  split
  · rename_i x; have := x.toNat_lt; omega
  · omega
def failE (e x : Int) : Int := if e = 0 then x else e
 
def getGo (b : List UInt8) : Nat → List ByteArray → Nat → Int → List ByteArray × Nat × Int
  | 0, out, n, e => (out, n, e)
  | m + 1, out, n, e =>
    let r := takeB b n e 1
    let k := byteOf1 r.1
    let e2 := if 8 < k then failE r.2.2 3 else r.2.2
    let q := takeB b r.2.1 e2 k
    getGo b m (out ++ [strB q.1]) q.2.1 q.2.2
def getS (b : List UInt8) (n : Nat) (e : Int) : List ByteArray × Nat × Int :=
  let r := takeB b n e 1
  let g := getGo b (byteOf1 r.1).toNat [] r.2.1 r.2.2
  if rightS g.1 then g else ([], g.2.1, failE g.2.2 3)
theorem getGo_le (b : List UInt8) : ∀ (m : Nat) (out : List ByteArray) (n : Nat) (e : Int), n ≤ b.length → (getGo b m out n e).2.1 ≤ b.length
  | 0, _, _, _, h => h
  | m + 1, out, n, e, h => by simp only [getGo]; exact getGo_le b m _ _ _ (takeB_le (takeB_le h))
theorem getGo_len (b : List UInt8) : ∀ (m : Nat) (out : List ByteArray) (n : Nat) (e : Int), (getGo b m out n e).1.length = out.length + m
  | 0, _, _, _ => rfl
  | m + 1, out, n, e => by simp only [getGo]; rw [getGo_len b m]; simp; omega
theorem getGo_bad {b : List UInt8} {m n : Nat} {out : List ByteArray} {e : Int} (h : 8 < byteOf1 (takeB b n e 1).1) : getGo b (m + 1) out n e =
    getGo b m (out ++ [strB (takeB b (takeB b n e 1).2.1 (failE (takeB b n e 1).2.2 3) (byteOf1 (takeB b n e 1).1)).1]) (takeB b (takeB b n e 1).2.1 (failE (takeB b n e 1).2.2 3) (byteOf1 (takeB b n e 1).1)).2.1 (takeB b (takeB b n e 1).2.1 (failE (takeB b n e 1).2.2 3) (byteOf1 (takeB b n e 1).1)).2.2 := by
  simp only [getGo, if_pos h]
theorem getGo_good {b : List UInt8} {m n : Nat} {out : List ByteArray} {e : Int} (h : byteOf1 (takeB b n e 1).1 ≤ 8) : getGo b (m + 1) out n e =
    getGo b m (out ++ [strB (takeB b (takeB b n e 1).2.1 (takeB b n e 1).2.2 (byteOf1 (takeB b n e 1).1)).1]) (takeB b (takeB b n e 1).2.1 (takeB b n e 1).2.2 (byteOf1 (takeB b n e 1).1)).2.1 (takeB b (takeB b n e 1).2.1 (takeB b n e 1).2.2 (byteOf1 (takeB b n e 1).1)).2.2 := by
  have h' : ¬ 8 < byteOf1 (takeB b n e 1).1 := by omega
  simp only [getGo, if_neg h']
theorem toNat_step {M : Int} {i : Nat} (h : (i : Int) < M) : (M - i).toNat = (M - ((i + 1 : Nat) : Int)).toNat + 1 := by omega
theorem getS_eq {b : List UInt8} {n n' : Nat} {e e' : Int} {out : List ByteArray} {i : Nat} (hM : byteOf1 (takeB b n e 1).1 ≤ i)
    (h : getGo b (byteOf1 (takeB b n e 1).1 - i).toNat out n' e' = getGo b (byteOf1 (takeB b n e 1).1).toNat [] (takeB b n e 1).2.1 (takeB b n e 1).2.2) :
    getS b n e = if rightS out then (out, n', e') else ([], n', failE e' 3) := by
  rw [show (byteOf1 (takeB b n e 1).1 - (i : Int)).toNat = 0 by omega] at h
  simp only [getGo] at h
  simp only [getS, ← h]
theorem getS_yes {b : List UInt8} {n n' : Nat} {e e' : Int} {out : List ByteArray} {i : Nat} (hM : byteOf1 (takeB b n e 1).1 ≤ i)
    (h : getGo b (byteOf1 (takeB b n e 1).1 - i).toNat out n' e' = getGo b (byteOf1 (takeB b n e 1).1).toNat [] (takeB b n e 1).2.1 (takeB b n e 1).2.2) (hr : rightS out = true) : getS b n e = (out, n', e') := by
  rw [getS_eq hM h, if_pos hr]
theorem getS_no {b : List UInt8} {n n' : Nat} {e e' : Int} {out : List ByteArray} {i : Nat} (hM : byteOf1 (takeB b n e 1).1 ≤ i)
    (h : getGo b (byteOf1 (takeB b n e 1).1 - i).toNat out n' e' = getGo b (byteOf1 (takeB b n e 1).1).toNat [] (takeB b n e 1).2.1 (takeB b n e 1).2.2) (hr : rightS out = false) : getS b n e = ([], n', failE e' 3) := by
  rw [getS_eq hM h, if_neg (by rw [hr]; exact Bool.false_ne_true)]
end Go.Fw
namespace Go.Fw
open Go Go.Proofs
set_option maxHeartbeats 10000000
set_option maxRecDepth 100000
set_option linter.constructorNameAsVariable false
set_option linter.unusedVariables false
set_option linter.unusedSimpArgs false
theorem right_ro (t : List ByteArray) : Has Try.prog 12 [CV.d (D.sl 1 (t.map D.str))] (fun rs bs => rs = [CV.d (D.bool (rightS t))] ∧ bs = [.gone]) := by
  refine Has_of_run (fn := Try.f12) (M := M0) fol (by kernel_rfl) 5 noPlan [] [] (by kernel_rfl) (Nat.le_of_ble_eq_true rfl) ?_
  repeat' ((conv => whnf); first | (refine And.intro (fun h => ?_) (fun h => ?_) <;> (try simp only [toNat_pred, toNat_succ, toNat_addn, toNat_subn, decide_eq_true_eq, decide_eq_false_iff_not, Bool.not_eq_true', Bool.not_eq_false', List.length_map, Int.toNat_natCast, Int.not_lt, Int.not_le, Bool.not_eq_true, Bool.false_eq_true, Bool.true_eq_false, Bool.not_true, Bool.not_false, reduceCtorEq, beq_iff_eq, Bool.not_eq_eq_eq_not, bne_iff_ne, ne_eq, decide_not, Decidable.not_not, Classical.not_not] at h)) | refine And.intro rfl ?_ | refine And.intro (Or.inr rfl) ?_ | refine And.intro (Nat.le_of_ble_eq_true rfl) ?_ | refine And.intro ⟨rfl, rfl⟩ ?_ | refine And.intro ⟨rfl, rfl, trivial⟩ ?_ | refine And.intro (Int.natCast_nonneg _) ?_ | refine Or.inl (And.intro rfl (And.intro rfl (And.intro rfl (And.intro rfl ?_)))) | refine Or.inl (And.intro rfl (And.intro rfl ?_)) | refine Or.inr (And.intro (Nat.le_of_ble_eq_true rfl) ?_) | refine Or.inl (And.intro (by unfold in64; omega) ?_) | refine And.intro (by first | omega | (simp only [dlen, true_and, and_true, Nat.le_refl, List.length_map, List.length_append, List.length_cons, List.length_nil, List.length_take, List.length_drop, List.length_replicate, Int.toNat_natCast, List.append_nil] <;> omega) | fail) ?_ | refine And.intro (allU8_bytes _) ?_ | refine And.intro (show elemsP _ _ _ by repeat' (first | exact rfl | exact trivial | constructor)) ?_ | (refine (may_con _).mono fun rs bs hr => ?_; subst hr) | (refine Loops.by (M := M0) 5 noPlan fol (by kernel_rfl) (ι := Nat) (fun i => ⟨[(0, AV.d (D.sl 1 (t.map D.str))), (8, AV.d (D.sl 1 (t.map D.str))), (9, AV.d (D.int .i64 t.length)), (10, AV.d (D.int .i64 i))], [], 16⟩) (fun i => i ≤ t.length ∧ ∀ j, j < i → okAt t j = true) (fun i => t.length - i) (fun i hI => ?_) (0) ⟨Nat.zero_le _, fun j h => absurd h (Nat.not_lt_zero _)⟩ (Forget.mk' ⟨⟨rfl, rfl⟩, ⟨rfl, rfl⟩, ⟨rfl, rfl⟩, ⟨rfl, rfl⟩, trivial⟩ trivial rfl rfl); obtain ⟨hi, hok⟩ := hI) | (refine fun x hx => ?_; (try simp (disch := omega) only [if_true, if_false, Bool.false_eq_true, min_nn, max_nn, min_ln, min_nl, max_ln, max_nl, getD_map, str_of_bytes, take_bytes, take_data, wrap_u64, wrap_u32, shr_i64, shr_u64, shr_u32, shl_i64, shl_u64, Int.reduceToNat, Int.reducePow, Int.pow_succ, Int.pow_zero, Int.one_mul, Int.reduceMul, wrap_id, wrap_u8_nat, wrap_i64_u8, byteD_mk, map_snoc, map_app, set_map, take_map', drop_map', Nat.sub_zero, List.length_map, List.length_append, List.length_cons, List.length_nil, Int.toNat_natCast, List.drop_zero, List.take_succ_cons, List.take_zero, List.take_length, List.nil_append, List.append_nil, Nat.zero_add, toNat_pred, toNat_succ, toNat_addn, toNat_subn] at hx); subst hx) | rw [List.take_length] | (rw [List.take_of_length_le]; rotate_left; (first | omega | (simp only [dlen, true_and, and_true, Nat.le_refl, List.length_map, List.length_append, List.length_cons, List.length_nil, List.length_take, List.length_drop, List.length_replicate, Int.toNat_natCast, List.append_nil] <;> omega) | fail)) | refine fun h => ?_ | fail); all_goals (try (conv => whnf))
  · exact ⟨rb (right_long (by omega)).symm, rfl⟩
  · exact ⟨rb (right_bad (i := i) (by omega) (by simp_all [okAt]; omega)).symm, rfl⟩
  · exact ⟨i + 1, ⟨⟨by omega, upto_succ hok (by simp_all [okAt])⟩, by omega⟩, (Forget.mk' ⟨⟨rfl, rfl⟩, ⟨rfl, rfl⟩, ⟨rfl, rfl⟩, ⟨rfl, rfl⟩, trivial⟩ trivial rfl rfl)⟩
  · exact ⟨i + 1, ⟨⟨by omega, upto_succ hok (by simp_all [okAt])⟩, by omega⟩, (Forget.mk' ⟨⟨rfl, rfl⟩, ⟨rfl, rfl⟩, ⟨rfl, rfl⟩, ⟨rfl, rfl⟩, trivial⟩ trivial rfl rfl)⟩
  · exact ⟨rb (right_bad (i := i) (by omega) (by simp_all [okAt])).symm, rfl⟩
  · exact ⟨rb (right_good (by omega) (fun j hj => hok j (by omega))).symm, rfl⟩
theorem cloneB_con (a : List UInt8) (ha : a.length ≤ 1000000000) : Has Try.prog 30 [CV.d (D.sl 1 (a.map byteD))] (fun rs _ => rs = [CV.d (D.sl 1 (a.map byteD))]) := by
  have hb5 : Try.prog.bytesOf 5 = 1 := by kernel_rfl
  refine Has_of_run (fn := Try.f30) (M := M0) fol (by kernel_rfl) 3 noPlan [] [] (by kernel_rfl) (Nat.le_of_ble_eq_true rfl) ?_
  repeat' ((conv => whnf); first | (refine And.intro (fun h => ?_) (fun h => ?_) <;> (try simp only [toNat_pred, toNat_succ, toNat_addn, toNat_subn, decide_eq_true_eq, decide_eq_false_iff_not, Bool.not_eq_true', Bool.not_eq_false', List.length_map, Int.toNat_natCast, Int.not_lt, Int.not_le, Bool.not_eq_true, Bool.false_eq_true, Bool.true_eq_false, Bool.not_true, Bool.not_false, reduceCtorEq, beq_iff_eq, Bool.not_eq_eq_eq_not, bne_iff_ne, ne_eq, decide_not, Decidable.not_not, Classical.not_not] at h)) | refine And.intro rfl ?_ | refine And.intro (Or.inr rfl) ?_ | refine And.intro (Nat.le_of_ble_eq_true rfl) ?_ | refine And.intro ⟨rfl, rfl⟩ ?_ | refine And.intro ⟨rfl, rfl, trivial⟩ ?_ | refine And.intro (Int.natCast_nonneg _) ?_ | refine Or.inl (And.intro rfl (And.intro rfl (And.intro rfl (And.intro rfl ?_)))) | refine Or.inl (And.intro rfl (And.intro rfl ?_)) | refine Or.inr (And.intro (Nat.le_of_ble_eq_true rfl) ?_) | refine Or.inl (And.intro (by unfold in64; omega) ?_) | refine And.intro (by first | omega | (simp only [dlen, true_and, and_true, Nat.le_refl, List.length_map, List.length_append, List.length_cons, List.length_nil, List.length_take, List.length_drop, List.length_replicate, Int.toNat_natCast, List.append_nil, hb5] <;> omega) | fail) ?_ | refine And.intro (allU8_bytes _) ?_ | refine And.intro (show elemsP _ _ _ by repeat' (first | exact rfl | exact trivial | constructor)) ?_ | (refine fun x hx => ?_; (try simp (disch := omega) only [if_true, if_false, Bool.false_eq_true, min_nn, max_nn, min_ln, min_nl, max_ln, max_nl, getD_map, str_of_bytes, take_bytes, take_data, wrap_u64, wrap_u32, shr_i64, shr_u64, shr_u32, shl_i64, shl_u64, Int.reduceToNat, Int.reducePow, Int.pow_succ, Int.pow_zero, Int.one_mul, Int.reduceMul, wrap_id, wrap_u8_nat, wrap_i64_u8, byteD_mk, map_snoc, map_app, set_map, take_map', drop_map', Nat.sub_zero, List.length_map, List.length_append, List.length_cons, List.length_nil, Int.toNat_natCast, List.drop_zero, List.take_succ_cons, List.take_zero, List.take_length, List.nil_append, List.append_nil, Nat.zero_add, toNat_pred, toNat_succ, toNat_addn, toNat_subn] at hx); subst hx) | rw [List.take_length] | (rw [List.take_of_length_le]; rotate_left; (first | omega | (simp only [dlen, true_and, and_true, Nat.le_refl, List.length_map, List.length_append, List.length_cons, List.length_nil, List.length_take, List.length_drop, List.length_replicate, Int.toNat_natCast, List.append_nil, hb5] <;> omega) | fail)) | refine fun h => ?_ | fail); all_goals (try (conv => whnf))
  · have h1 : a = [] := by simp_all
    subst h1
    rfl
  · rfl
 
def curC (b : List UInt8) (n : Nat) (e : Int) : CV := CV.box 51 [CV.d (D.sl 1 (b.map byteD)), CV.d (D.int .i64 n), CV.d (D.int .i64 e)]
theorem curNew_con (a : List UInt8) (ha : a.length ≤ 1000000000) : Has Try.prog 21 [CV.d (D.sl 1 (a.map byteD))] (fun rs _ => rs = [curC a 0 0] ) := by
  refine Has_of_run (fn := Try.f21) (M := M0) fol (by kernel_rfl) 3 noPlan [.own] [] (by kernel_rfl) (Nat.le_of_ble_eq_true rfl) ?_
  repeat' ((conv => whnf); first | (refine And.intro (fun h => ?_) (fun h => ?_) <;> (try simp only [toNat_pred, toNat_succ, toNat_addn, toNat_subn, decide_eq_true_eq, decide_eq_false_iff_not, Bool.not_eq_true', Bool.not_eq_false', List.length_map, Int.toNat_natCast, Int.not_lt, Int.not_le, Bool.not_eq_true, Bool.false_eq_true, Bool.true_eq_false, Bool.not_true, Bool.not_false, reduceCtorEq, beq_iff_eq, Bool.not_eq_eq_eq_not, bne_iff_ne, ne_eq, decide_not, Decidable.not_not, Classical.not_not] at h)) | refine And.intro rfl ?_ | refine And.intro (Or.inr rfl) ?_ | refine And.intro (Nat.le_of_ble_eq_true rfl) ?_ | refine And.intro ⟨rfl, rfl⟩ ?_ | refine And.intro ⟨rfl, rfl, trivial⟩ ?_ | refine And.intro (Int.natCast_nonneg _) ?_ | refine Or.inl (And.intro rfl (And.intro rfl (And.intro rfl (And.intro rfl ?_)))) | refine Or.inl (And.intro rfl (And.intro rfl ?_)) | refine Or.inr (And.intro (Nat.le_of_ble_eq_true rfl) ?_) | refine Or.inl (And.intro (by unfold in64; omega) ?_) | refine And.intro (by first | omega | (simp only [dlen, true_and, and_true, Nat.le_refl, List.length_map, List.length_append, List.length_cons, List.length_nil, List.length_take, List.length_drop, List.length_replicate, Int.toNat_natCast, List.append_nil] <;> omega) | fail) ?_ | refine And.intro (allU8_bytes _) ?_ | refine And.intro (show elemsP _ _ _ by repeat' (first | exact rfl | exact trivial | constructor)) ?_ | (refine (cloneB_con _ ha).mono fun rs bs hr => ?_; subst hr) | (refine fun x hx => ?_; (try simp (disch := omega) only [if_true, if_false, Bool.false_eq_true, min_nn, max_nn, min_ln, min_nl, max_ln, max_nl, getD_map, str_of_bytes, take_bytes, take_data, wrap_u64, wrap_u32, shr_i64, shr_u64, shr_u32, shl_i64, shl_u64, Int.reduceToNat, Int.reducePow, Int.pow_succ, Int.pow_zero, Int.one_mul, Int.reduceMul, wrap_id, wrap_u8_nat, wrap_i64_u8, byteD_mk, map_snoc, map_app, set_map, take_map', drop_map', Nat.sub_zero, List.length_map, List.length_append, List.length_cons, List.length_nil, Int.toNat_natCast, List.drop_zero, List.take_succ_cons, List.take_zero, List.take_length, List.nil_append, List.append_nil, Nat.zero_add, toNat_pred, toNat_succ, toNat_addn, toNat_subn] at hx); subst hx) | rw [List.take_length] | (rw [List.take_of_length_le]; rotate_left; (first | omega | (simp only [dlen, true_and, and_true, Nat.le_refl, List.length_map, List.length_append, List.length_cons, List.length_nil, List.length_take, List.length_drop, List.length_replicate, Int.toNat_natCast, List.append_nil] <;> omega) | fail)) | refine fun h => ?_ | fail); all_goals (try (conv => whnf))
  rfl
def pl24 : Nat → Plan
  | 1 => tks 0 [0, 0, 0, 1, 0, 0, 0, 0, 1, 0] (.one 10 (.done))
  | _ => .done
theorem curLeft_con (b : List UInt8) (n : Nat) (e : Int) (hb : b.length ≤ 1000000000) (hn : n ≤ b.length) : Has Try.prog 24 [curC b n e] (fun rs bs => rs = [CV.d (D.int .i64 (b.length - n : Nat))] ∧ bs = [curC b n e] ) := by
  refine Has_of_run (fn := Try.f24) (M := M0) fol (by kernel_rfl) 3 pl24 [] [true] (by kernel_rfl) (Nat.le_of_ble_eq_true rfl) ?_
  repeat' ((conv => whnf); first | (refine And.intro (fun h => ?_) (fun h => ?_) <;> (try simp only [toNat_pred, toNat_succ, toNat_addn, toNat_subn, decide_eq_true_eq, decide_eq_false_iff_not, Bool.not_eq_true', Bool.not_eq_false', List.length_map, Int.toNat_natCast, Int.not_lt, Int.not_le, Bool.not_eq_true, Bool.false_eq_true, Bool.true_eq_false, Bool.not_true, Bool.not_false, reduceCtorEq, beq_iff_eq, Bool.not_eq_eq_eq_not, bne_iff_ne, ne_eq, decide_not, Decidable.not_not, Classical.not_not] at h)) | refine And.intro rfl ?_ | refine And.intro (Or.inr rfl) ?_ | refine And.intro (Nat.le_of_ble_eq_true rfl) ?_ | refine And.intro ⟨rfl, rfl⟩ ?_ | refine And.intro ⟨rfl, rfl, trivial⟩ ?_ | refine And.intro (Int.natCast_nonneg _) ?_ | refine Or.inl (And.intro rfl (And.intro rfl (And.intro rfl (And.intro rfl ?_)))) | refine Or.inl (And.intro rfl (And.intro rfl ?_)) | refine Or.inr (And.intro (Nat.le_of_ble_eq_true rfl) ?_) | refine Or.inl (And.intro (by unfold in64; omega) ?_) | refine And.intro (by first | omega | (simp only [dlen, true_and, and_true, Nat.le_refl, List.length_map, List.length_append, List.length_cons, List.length_nil, List.length_take, List.length_drop, List.length_replicate, Int.toNat_natCast, List.append_nil] <;> omega) | fail) ?_ | refine And.intro (allU8_bytes _) ?_ | refine And.intro (show elemsP _ _ _ by repeat' (first | exact rfl | exact trivial | constructor)) ?_ | (refine fun x hx => ?_; (try simp (disch := omega) only [if_true, if_false, Bool.false_eq_true, min_nn, max_nn, min_ln, min_nl, max_ln, max_nl, getD_map, str_of_bytes, take_bytes, take_data, wrap_u64, wrap_u32, shr_i64, shr_u64, shr_u32, shl_i64, shl_u64, Int.reduceToNat, Int.reducePow, Int.pow_succ, Int.pow_zero, Int.one_mul, Int.reduceMul, wrap_id, wrap_u8_nat, wrap_i64_u8, byteD_mk, map_snoc, map_app, set_map, take_map', drop_map', Nat.sub_zero, List.length_map, List.length_append, List.length_cons, List.length_nil, Int.toNat_natCast, List.drop_zero, List.take_succ_cons, List.take_zero, List.take_length, List.nil_append, List.append_nil, Nat.zero_add, toNat_pred, toNat_succ, toNat_addn, toNat_subn] at hx); subst hx) | rw [List.take_length] | (rw [List.take_of_length_le]; rotate_left; (first | omega | (simp only [dlen, true_and, and_true, Nat.le_refl, List.length_map, List.length_append, List.length_cons, List.length_nil, List.length_take, List.length_drop, List.length_replicate, Int.toNat_natCast, List.append_nil] <;> omega) | fail)) | refine fun h => ?_ | fail); all_goals (try (conv => whnf))
  exact ⟨ri (by omega), rfl⟩
theorem curFail_con (b : List UInt8) (n : Nat) (e x : Int) : Has Try.prog 32 [curC b n e, CV.d (D.int .i64 x)] (fun rs bs => rs = [] ∧ bs = [curC b n (if e = 0 then x else e), .gone] ) := by
  refine Has_of_run (fn := Try.f32) (M := M0) fol (by kernel_rfl) 4 noPlan [] [true] (by kernel_rfl) (Nat.le_of_ble_eq_true rfl) ?_
  repeat' ((conv => whnf); first | (refine And.intro (fun h => ?_) (fun h => ?_) <;> (try simp only [toNat_pred, toNat_succ, toNat_addn, toNat_subn, decide_eq_true_eq, decide_eq_false_iff_not, Bool.not_eq_true', Bool.not_eq_false', List.length_map, Int.toNat_natCast, Int.not_lt, Int.not_le, Bool.not_eq_true, Bool.false_eq_true, Bool.true_eq_false, Bool.not_true, Bool.not_false, reduceCtorEq, beq_iff_eq, Bool.not_eq_eq_eq_not, bne_iff_ne, ne_eq, decide_not, Decidable.not_not, Classical.not_not] at h)) | refine And.intro rfl ?_ | refine And.intro (Or.inr rfl) ?_ | refine And.intro (Nat.le_of_ble_eq_true rfl) ?_ | refine And.intro ⟨rfl, rfl⟩ ?_ | refine And.intro ⟨rfl, rfl, trivial⟩ ?_ | refine And.intro (Int.natCast_nonneg _) ?_ | refine Or.inl (And.intro rfl (And.intro rfl (And.intro rfl (And.intro rfl ?_)))) | refine Or.inl (And.intro rfl (And.intro rfl ?_)) | refine Or.inr (And.intro (Nat.le_of_ble_eq_true rfl) ?_) | refine Or.inl (And.intro (by unfold in64; omega) ?_) | refine And.intro (by first | omega | (simp only [dlen, true_and, and_true, Nat.le_refl, List.length_map, List.length_append, List.length_cons, List.length_nil, List.length_take, List.length_drop, List.length_replicate, Int.toNat_natCast, List.append_nil] <;> omega) | fail) ?_ | refine And.intro (allU8_bytes _) ?_ | refine And.intro (show elemsP _ _ _ by repeat' (first | exact rfl | exact trivial | constructor)) ?_ | (refine fun x hx => ?_; (try simp (disch := omega) only [if_true, if_false, Bool.false_eq_true, min_nn, max_nn, min_ln, min_nl, max_ln, max_nl, getD_map, str_of_bytes, take_bytes, take_data, wrap_u64, wrap_u32, shr_i64, shr_u64, shr_u32, shl_i64, shl_u64, Int.reduceToNat, Int.reducePow, Int.pow_succ, Int.pow_zero, Int.one_mul, Int.reduceMul, wrap_id, wrap_u8_nat, wrap_i64_u8, byteD_mk, map_snoc, map_app, set_map, take_map', drop_map', Nat.sub_zero, List.length_map, List.length_append, List.length_cons, List.length_nil, Int.toNat_natCast, List.drop_zero, List.take_succ_cons, List.take_zero, List.take_length, List.nil_append, List.append_nil, Nat.zero_add, toNat_pred, toNat_succ, toNat_addn, toNat_subn] at hx); subst hx) | rw [List.take_length] | (rw [List.take_of_length_le]; rotate_left; (first | omega | (simp only [dlen, true_and, and_true, Nat.le_refl, List.length_map, List.length_append, List.length_cons, List.length_nil, List.length_take, List.length_drop, List.length_replicate, Int.toNat_natCast, List.append_nil] <;> omega) | fail)) | refine fun h => ?_ | fail); all_goals (try (conv => whnf))
  all_goals (conv => whnf); refine ⟨by simp, ?_⟩; conv => whnf
  · exact ⟨rfl, by rw [if_pos (by assumption)]; rfl⟩
  · exact ⟨rfl, by rw [if_neg (by assumption)]; rfl⟩
def M23 : FuncId → List Mode := fun g => if g = 24 then [.own] else []
theorem curEnd_con (b : List UInt8) (n : Nat) (e : Int) (hb : b.length ≤ 1000000000) (hn : n ≤ b.length) : Has Try.prog 23 [curC b n e] (fun rs bs => rs = [CV.d (D.int .i64 (if e = 0 ∧ n < b.length then 2 else e))] ∧ bs = [curC b n e] ) := by
  refine Has_of_run (fn := Try.f23) (M := M23) fol (by kernel_rfl) 3 noPlan [] [true] (by kernel_rfl) (Nat.le_of_ble_eq_true rfl) ?_
  repeat' ((conv => whnf); first | (refine And.intro (fun h => ?_) (fun h => ?_) <;> (try simp only [toNat_pred, toNat_succ, toNat_addn, toNat_subn, decide_eq_true_eq, decide_eq_false_iff_not, Bool.not_eq_true', Bool.not_eq_false', List.length_map, Int.toNat_natCast, Int.not_lt, Int.not_le, Bool.not_eq_true, Bool.false_eq_true, Bool.true_eq_false, Bool.not_true, Bool.not_false, reduceCtorEq, beq_iff_eq, Bool.not_eq_eq_eq_not, bne_iff_ne, ne_eq, decide_not, Decidable.not_not, Classical.not_not] at h)) | refine And.intro rfl ?_ | refine And.intro (Or.inr rfl) ?_ | refine And.intro (Nat.le_of_ble_eq_true rfl) ?_ | refine And.intro ⟨rfl, rfl⟩ ?_ | refine And.intro ⟨rfl, rfl, trivial⟩ ?_ | refine And.intro (Int.natCast_nonneg _) ?_ | refine Or.inl (And.intro rfl (And.intro rfl (And.intro rfl (And.intro rfl ?_)))) | refine Or.inl (And.intro rfl (And.intro rfl ?_)) | refine Or.inr (And.intro (Nat.le_of_ble_eq_true rfl) ?_) | refine Or.inl (And.intro (by unfold in64; omega) ?_) | refine And.intro (by first | omega | (simp only [dlen, true_and, and_true, Nat.le_refl, List.length_map, List.length_append, List.length_cons, List.length_nil, List.length_take, List.length_drop, List.length_replicate, Int.toNat_natCast, List.append_nil] <;> omega) | fail) ?_ | refine And.intro (allU8_bytes _) ?_ | refine And.intro (show elemsP _ _ _ by repeat' (first | exact rfl | exact trivial | constructor)) ?_ | (refine (curLeft_con _ _ _ hb hn).mono fun rs bs hr => ?_; obtain ⟨rfl, rfl⟩ := hr) | (refine fun x hx => ?_; (try simp (disch := omega) only [if_true, if_false, Bool.false_eq_true, min_nn, max_nn, min_ln, min_nl, max_ln, max_nl, getD_map, str_of_bytes, take_bytes, take_data, wrap_u64, wrap_u32, shr_i64, shr_u64, shr_u32, shl_i64, shl_u64, Int.reduceToNat, Int.reducePow, Int.pow_succ, Int.pow_zero, Int.one_mul, Int.reduceMul, wrap_id, wrap_u8_nat, wrap_i64_u8, byteD_mk, map_snoc, map_app, set_map, take_map', drop_map', Nat.sub_zero, List.length_map, List.length_append, List.length_cons, List.length_nil, Int.toNat_natCast, List.drop_zero, List.take_succ_cons, List.take_zero, List.take_length, List.nil_append, List.append_nil, Nat.zero_add, toNat_pred, toNat_succ, toNat_addn, toNat_subn] at hx); subst hx) | rw [List.take_length] | (rw [List.take_of_length_le]; rotate_left; (first | omega | (simp only [dlen, true_and, and_true, Nat.le_refl, List.length_map, List.length_append, List.length_cons, List.length_nil, List.length_take, List.length_drop, List.length_replicate, Int.toNat_natCast, List.append_nil] <;> omega) | fail)) | refine fun h => ?_ | fail); all_goals (try (conv => whnf))
  · exact ⟨ri (by rw [if_pos ⟨by assumption, by omega⟩]), rfl⟩
  · exact ⟨ri (by rw [if_neg (by omega)]), rfl⟩
  · exact ⟨ri (by rw [if_neg (fun hh => absurd hh.1 (by assumption))]), rfl⟩
def M33 : FuncId → List Mode := fun g => if g = 24 then [.own] else if g = 32 then [.own] else []
def pl33 : Nat → Plan
  | 10 => tks 0 [0, 0, 0] (tks 4 [0, 0, 0] (tks 8 [0] (tks 10 [0, 0, 0] (.tak 3 .rd [14, 15, 16] (.tak 7 .rd [9, 14, 15, 16] (tks 9 [0] (.tak 13 .rd [14, 15, 16] (tks 14 [0] (.one 15 (.one 16 (.done)))))))))))
  | _ => .done
theorem curBytes_con (b : List UInt8) (n : Nat) (e k : Int) (hb : b.length ≤ 1000000000) (hn : n ≤ b.length) : Has Try.prog 33 [curC b n e, CV.d (D.int .i64 k)] (fun rs bs => rs = [CV.d (D.sl 1 (((takeB b n e k).1).map byteD))] ∧ bs = [curC b (takeB b n e k).2.1 (takeB b n e k).2.2, .gone] ) := by
  refine Has_of_run (fn := Try.f33) (M := M33) fol (by kernel_rfl) 6 pl33 [] [true] (by kernel_rfl) (Nat.le_of_ble_eq_true rfl) ?_
  repeat' ((conv => whnf); first | (refine And.intro (fun h => ?_) (fun h => ?_) <;> (try simp only [toNat_pred, toNat_succ, toNat_addn, toNat_subn, decide_eq_true_eq, decide_eq_false_iff_not, Bool.not_eq_true', Bool.not_eq_false', List.length_map, Int.toNat_natCast, Int.not_lt, Int.not_le, Bool.not_eq_true, Bool.false_eq_true, Bool.true_eq_false, Bool.not_true, Bool.not_false, reduceCtorEq, beq_iff_eq, Bool.not_eq_eq_eq_not, bne_iff_ne, ne_eq, decide_not, Decidable.not_not, Classical.not_not] at h)) | refine And.intro rfl ?_ | refine And.intro (Or.inr rfl) ?_ | refine And.intro (Nat.le_of_ble_eq_true rfl) ?_ | refine And.intro ⟨rfl, rfl⟩ ?_ | refine And.intro ⟨rfl, rfl, trivial⟩ ?_ | refine And.intro (Int.natCast_nonneg _) ?_ | refine Or.inl (And.intro rfl (And.intro rfl (And.intro rfl (And.intro rfl ?_)))) | refine Or.inl (And.intro rfl (And.intro rfl ?_)) | refine Or.inr (And.intro (Nat.le_of_ble_eq_true rfl) ?_) | refine Or.inl (And.intro (by unfold in64; omega) ?_) | refine And.intro (by first | omega | (simp only [dlen, true_and, and_true, Nat.le_refl, List.length_map, List.length_append, List.length_cons, List.length_nil, List.length_take, List.length_drop, List.length_replicate, Int.toNat_natCast, List.append_nil] <;> omega) | fail) ?_ | refine And.intro (allU8_bytes _) ?_ | refine And.intro (show elemsP _ _ _ by repeat' (first | exact rfl | exact trivial | constructor)) ?_ | (refine (curLeft_con _ _ _ hb hn).mono fun rs bs hr => ?_; obtain ⟨rfl, rfl⟩ := hr) | (refine (curFail_con _ _ _ _).mono fun rs bs hr => ?_; obtain ⟨rfl, rfl⟩ := hr) | (refine (cloneB_con _ (by simp; omega)).mono fun rs bs hr => ?_; subst hr) | (refine fun x hx => ?_; (try simp (disch := omega) only [if_true, if_false, Bool.false_eq_true, min_nn, max_nn, min_ln, min_nl, max_ln, max_nl, getD_map, str_of_bytes, take_bytes, take_data, wrap_u64, wrap_u32, shr_i64, shr_u64, shr_u32, shl_i64, shl_u64, Int.reduceToNat, Int.reducePow, Int.pow_succ, Int.pow_zero, Int.one_mul, Int.reduceMul, wrap_id, wrap_u8_nat, wrap_i64_u8, byteD_mk, map_snoc, map_app, set_map, take_map', drop_map', Nat.sub_zero, List.length_map, List.length_append, List.length_cons, List.length_nil, Int.toNat_natCast, List.drop_zero, List.take_succ_cons, List.take_zero, List.take_length, List.nil_append, List.append_nil, Nat.zero_add, toNat_pred, toNat_succ, toNat_addn, toNat_subn] at hx); subst hx) | rw [List.take_length] | (rw [List.take_of_length_le]; rotate_left; (first | omega | (simp only [dlen, true_and, and_true, Nat.le_refl, List.length_map, List.length_append, List.length_cons, List.length_nil, List.length_take, List.length_drop, List.length_replicate, Int.toNat_natCast, List.append_nil] <;> omega) | fail)) | refine fun h => ?_ | fail); all_goals (try (conv => whnf))
  · rw [takeB_err (by assumption)]; exact ⟨rfl, rfl⟩
  · rw [takeB_neg (by assumption) (by assumption), if_pos (by assumption)]; exact ⟨rfl, rfl⟩
  · rw [takeB_cut (by assumption) hn (by assumption), if_pos (by assumption)]; exact ⟨rfl, rfl⟩
  · rw [takeB_ok (by assumption) hn (by assumption) (by assumption), takeB_slice (by assumption), takeB_place (by assumption)]; exact ⟨rfl, rfl⟩
def M31 : FuncId → List Mode := fun g => if g = 33 then [.own] else []
theorem curByte_con (b : List UInt8) (n : Nat) (e : Int) (hb : b.length ≤ 1000000000) (hn : n ≤ b.length) : Has Try.prog 31 [curC b n e] (fun rs bs => rs = [CV.d (D.int .i64 (byteOf1 (takeB b n e 1).1))] ∧ bs = [curC b (takeB b n e 1).2.1 (takeB b n e 1).2.2] ) := by
  refine Has_of_run (fn := Try.f31) (M := M31) fol (by kernel_rfl) 4 noPlan [] [true] (by kernel_rfl) (Nat.le_of_ble_eq_true rfl) ?_
  repeat' ((conv => whnf); first | (refine And.intro (fun h => ?_) (fun h => ?_) <;> (try simp only [toNat_pred, toNat_succ, toNat_addn, toNat_subn, decide_eq_true_eq, decide_eq_false_iff_not, Bool.not_eq_true', Bool.not_eq_false', List.length_map, Int.toNat_natCast, Int.not_lt, Int.not_le, Bool.not_eq_true, Bool.false_eq_true, Bool.true_eq_false, Bool.not_true, Bool.not_false, reduceCtorEq, beq_iff_eq, Bool.not_eq_eq_eq_not, bne_iff_ne, ne_eq, decide_not, Decidable.not_not, Classical.not_not] at h)) | refine And.intro rfl ?_ | refine And.intro (Or.inr rfl) ?_ | refine And.intro (Nat.le_of_ble_eq_true rfl) ?_ | refine And.intro ⟨rfl, rfl⟩ ?_ | refine And.intro ⟨rfl, rfl, trivial⟩ ?_ | refine And.intro (Int.natCast_nonneg _) ?_ | refine Or.inl (And.intro rfl (And.intro rfl (And.intro rfl (And.intro rfl ?_)))) | refine Or.inl (And.intro rfl (And.intro rfl ?_)) | refine Or.inr (And.intro (Nat.le_of_ble_eq_true rfl) ?_) | refine Or.inl (And.intro (by unfold in64; omega) ?_) | refine And.intro (by first | omega | (simp only [dlen, true_and, and_true, Nat.le_refl, List.length_map, List.length_append, List.length_cons, List.length_nil, List.length_take, List.length_drop, List.length_replicate, Int.toNat_natCast, List.append_nil] <;> omega) | fail) ?_ | refine And.intro (allU8_bytes _) ?_ | refine And.intro (show elemsP _ _ _ by repeat' (first | exact rfl | exact trivial | constructor)) ?_ | (refine (curBytes_con _ _ _ _ hb hn).mono fun rs bs hr => ?_; obtain ⟨rfl, rfl⟩ := hr) | (refine fun x hx => ?_; (try simp (disch := omega) only [if_true, if_false, Bool.false_eq_true, min_nn, max_nn, min_ln, min_nl, max_ln, max_nl, getD_map, str_of_bytes, take_bytes, take_data, wrap_u64, wrap_u32, shr_i64, shr_u64, shr_u32, shl_i64, shl_u64, Int.reduceToNat, Int.reducePow, Int.pow_succ, Int.pow_zero, Int.one_mul, Int.reduceMul, wrap_id, wrap_u8_nat, wrap_i64_u8, byteD_mk, map_snoc, map_app, set_map, take_map', drop_map', Nat.sub_zero, List.length_map, List.length_append, List.length_cons, List.length_nil, Int.toNat_natCast, List.drop_zero, List.take_succ_cons, List.take_zero, List.take_length, List.nil_append, List.append_nil, Nat.zero_add, toNat_pred, toNat_succ, toNat_addn, toNat_subn] at hx); subst hx) | rw [List.take_length] | (rw [List.take_of_length_le]; rotate_left; (first | omega | (simp only [dlen, true_and, and_true, Nat.le_refl, List.length_map, List.length_append, List.length_cons, List.length_nil, List.length_take, List.length_drop, List.length_replicate, Int.toNat_natCast, List.append_nil] <;> omega) | fail)) | refine fun h => ?_ | fail); all_goals (try (conv => whnf))
  · exact ⟨ri (byteOf1_one (by omega)), rfl⟩
  · exact ⟨ri (byteOf1_no (by omega)).symm, rfl⟩
def M22 : FuncId → List Mode := fun g => if g = 12 then [.ro] else if g = 31 then [.own] else if g = 32 then [.own] else if g = 33 then [.own] else []
theorem symGet_con (b : List UInt8) (n : Nat) (e : Int) (hb : b.length ≤ 1000000000) (hn : n ≤ b.length) : Has Try.prog 22 [curC b n e] (fun rs bs => rs = [CV.own 9 1 (((getS b n e).1).map D.str)] ∧ bs = [curC b (getS b n e).2.1 (getS b n e).2.2] ) := by
  have hb9 : Try.prog.bytesOf 9 = 16 := by kernel_rfl
  refine Has_of_run (fn := Try.f22) (M := M22) fol (by kernel_rfl) 6 noPlan [.own] [true] (by kernel_rfl) (Nat.le_of_ble_eq_true rfl) ?_
  repeat' ((conv => whnf); first | (refine And.intro (fun h => ?_) (fun h => ?_) <;> (try simp only [toNat_pred, toNat_succ, toNat_addn, toNat_subn, decide_eq_true_eq, decide_eq_false_iff_not, Bool.not_eq_true', Bool.not_eq_false', List.length_map, Int.toNat_natCast, Int.not_lt, Int.not_le, Bool.not_eq_true, Bool.false_eq_true, Bool.true_eq_false, Bool.not_true, Bool.not_false, reduceCtorEq, beq_iff_eq, Bool.not_eq_eq_eq_not, bne_iff_ne, ne_eq, decide_not, Decidable.not_not, Classical.not_not] at h)) | refine And.intro rfl ?_ | refine And.intro (Or.inr rfl) ?_ | refine And.intro (Nat.le_of_ble_eq_true rfl) ?_ | refine And.intro ⟨rfl, rfl⟩ ?_ | refine And.intro ⟨rfl, rfl, trivial⟩ ?_ | refine And.intro (Int.natCast_nonneg _) ?_ | refine Or.inl (And.intro rfl (And.intro rfl (And.intro rfl (And.intro rfl ?_)))) | refine Or.inl (And.intro rfl (And.intro rfl ?_)) | refine Or.inr (And.intro (Nat.le_of_ble_eq_true rfl) ?_) | refine Or.inl (And.intro (by unfold in64; omega) ?_) | refine And.intro (by first | omega | (simp only [dlen, true_and, and_true, Nat.le_refl, List.length_map, List.length_append, List.length_cons, List.length_nil, List.length_take, List.length_drop, List.length_replicate, Int.toNat_natCast, List.append_nil, hb9] <;> omega) | fail) ?_ | refine And.intro (allU8_bytes _) ?_ | refine And.intro (show elemsP _ _ _ by repeat' (first | exact rfl | exact trivial | constructor)) ?_ | (refine (curByte_con _ _ _ hb (by assumption)).mono fun rs bs hr => ?_; obtain ⟨rfl, rfl⟩ := hr) | (refine (curBytes_con _ _ _ _ hb (by first | assumption | exact takeB_le (by assumption) | fail)).mono fun rs bs hr => ?_; obtain ⟨rfl, rfl⟩ := hr) | (refine (curFail_con _ _ _ _).mono fun rs bs hr => ?_; obtain ⟨rfl, rfl⟩ := hr) | (refine (right_ro _).mono fun rs bs hr => ?_; obtain ⟨rfl, rfl⟩ := hr) | (refine Loops.by (M := M22) 6 noPlan fol (by kernel_rfl) (ι := Nat × List ByteArray × Nat × Int) (fun ⟨i, out, n', e'⟩ => ⟨[(0, AV.addr [0] 0 0), (3, AV.d (D.int .i64 (byteOf1 (takeB b n e 1).1))), (4, AV.ref [4] 16 1 0 (out.map D.str).length), (8, AV.d (D.int .i64 (byteOf1 (takeB b n e 1).1))), (9, AV.d (D.int .i64 i))], [([0], 0, AO.box 51 [AV.d (D.sl 1 (b.map byteD)), AV.d (D.int .i64 n'), AV.d (D.int .i64 e')]), ([4], 16, AO.row 9 1 (out.map D.str))], 17⟩) (fun ⟨i, out, n', e'⟩ => (i : Int) ≤ byteOf1 (takeB b n e 1).1 ∧ n' ≤ b.length ∧ out.length = i ∧ getGo b (byteOf1 (takeB b n e 1).1 - i).toNat out n' e' = getGo b (byteOf1 (takeB b n e 1).1).toNat [] (takeB b n e 1).2.1 (takeB b n e 1).2.2) (fun ⟨i, out, n', e'⟩ => (byteOf1 (takeB b n e 1).1 - i).toNat) (fun p hI => ?_) ((0, [], (takeB b n e 1).2.1, (takeB b n e 1).2.2)) ⟨(byteOf1_le _).1, takeB_le hn, rfl, by rw [Int.natCast_zero, Int.sub_zero]⟩ (Forget.mk' ⟨⟨rfl, rfl⟩, ⟨rfl, rfl⟩, ⟨rfl, rfl⟩, ⟨rfl, rfl⟩, ⟨rfl, rfl⟩, trivial⟩ ⟨⟨rfl, rfl, rfl⟩, ⟨rfl, rfl, rfl⟩, trivial⟩ rfl rfl); obtain ⟨i, out, n', e'⟩ := p; obtain ⟨hi, hn', hlo, hgo⟩ := hI; have hM := byteOf1_le (takeB b n e 1).1) | (refine fun x hx => ?_; (try simp (disch := omega) only [if_true, if_false, Bool.false_eq_true, min_nn, max_nn, min_ln, min_nl, max_ln, max_nl, getD_map, str_of_bytes, take_bytes, take_data, wrap_u64, wrap_u32, shr_i64, shr_u64, shr_u32, shl_i64, shl_u64, Int.reduceToNat, Int.reducePow, Int.pow_succ, Int.pow_zero, Int.one_mul, Int.reduceMul, wrap_id, wrap_u8_nat, wrap_i64_u8, byteD_mk, map_snoc, map_app, set_map, take_map', drop_map', Nat.sub_zero, List.length_map, List.length_append, List.length_cons, List.length_nil, Int.toNat_natCast, List.drop_zero, List.take_succ_cons, List.take_zero, List.take_length, List.nil_append, List.append_nil, Nat.zero_add, toNat_pred, toNat_succ, toNat_addn, toNat_subn] at hx); subst hx) | rw [List.take_length] | (rw [List.take_of_length_le]; rotate_left; (first | omega | (simp only [dlen, true_and, and_true, Nat.le_refl, List.length_map, List.length_append, List.length_cons, List.length_nil, List.length_take, List.length_drop, List.length_replicate, Int.toNat_natCast, List.append_nil, hb9] <;> omega) | fail)) | refine fun h => ?_ | fail); all_goals (try (conv => whnf))
  · exact ⟨(i + 1, _, _, _), ⟨⟨by omega, takeB_le (takeB_le hn'), by rw [List.length_append, hlo]; rfl, by rw [toNat_step (i := i) (by assumption), getGo_bad (by assumption)] at hgo; exact hgo⟩, by show (_ - ((i + 1 : Nat) : Int)).toNat < (_ - (i : Int)).toNat; omega⟩, (Forget.mk' ⟨⟨rfl, rfl⟩, ⟨rfl, rfl⟩, ⟨rfl, rfl⟩, ⟨rfl, rfl⟩, ⟨rfl, rfl⟩, trivial⟩ ⟨⟨rfl, rfl, rfl⟩, ⟨rfl, rfl, rfl⟩, trivial⟩ rfl rfl)⟩
  · exact ⟨(i + 1, _, _, _), ⟨⟨by omega, takeB_le (takeB_le hn'), by rw [List.length_append, hlo]; rfl, by rw [toNat_step (i := i) (by assumption), getGo_good (by assumption)] at hgo; exact hgo⟩, by show (_ - ((i + 1 : Nat) : Int)).toNat < (_ - (i : Int)).toNat; omega⟩, (Forget.mk' ⟨⟨rfl, rfl⟩, ⟨rfl, rfl⟩, ⟨rfl, rfl⟩, ⟨rfl, rfl⟩, ⟨rfl, rfl⟩, trivial⟩ ⟨⟨rfl, rfl, rfl⟩, ⟨rfl, rfl, rfl⟩, trivial⟩ rfl rfl)⟩
  · rw [getS_no (by assumption) hgo (by assumption)]; exact ⟨rfl, rfl⟩
  · exact absurd ‹rightS out = true› (by rw [‹rightS out = false›]; exact Bool.false_ne_true)
  · exfalso; omega
  · exact absurd ‹rightS out = true› (by rw [‹rightS out = false›]; exact Bool.false_ne_true)
  · rw [getS_yes (by assumption) hgo (by assumption)]; exact ⟨rfl, rfl⟩
  · exfalso; omega
end Go.Fw
namespace Go.Fw
open Go
set_option linter.unusedVariables false
set_option linter.unusedSimpArgs false
def Cand (o : List ByteArray) (s : ByteArray) : Prop := mayD s = true ∧ (o.length = 0 ∨ slt (o.getD (o.length - 1) default) s = true)
def emp : ByteArray := ⟨#[]⟩
def Best (l o : List ByteArray) (i : Nat) (b : ByteArray) : Prop :=
  (b = ⟨#[]⟩ ∧ ∀ j, j < i → ¬ Cand o (l.getD j default)) ∨ (Cand o b ∧ b ∈ l ∧ ∀ j, j < i → Cand o (l.getD j default) → slt (l.getD j default) b = false)
theorem mayD_iff {s : ByteArray} : mayD s = true ↔ 1 ≤ s.size ∧ s.size ≤ 8 := by simp [mayD]
theorem best_size {l o : List ByteArray} {i : Nat} {b : ByteArray} (h : Best l o i b) : b.size ≤ 8 := by
  rcases h with ⟨rfl, _⟩ | ⟨h, _⟩
  · decide
  · exact (mayD_iff.1 h.1).2
theorem best_skip {l o : List ByteArray} {i : Nat} {b : ByteArray} (h : Best l o i b) (hc : ¬ Cand o (l.getD i default)) : Best l o (i + 1) b := by
  rcases h with ⟨e, h⟩ | ⟨h1, h2, h3⟩
  · exact .inl ⟨e, upto_succ h hc⟩
  · exact .inr ⟨h1, h2, upto_succ h3 fun hc' => absurd hc' hc⟩
theorem best_keep {l o : List ByteArray} {i : Nat} {b : ByteArray} (h : Best l o i b) (hb : ¬ b = ⟨#[]⟩) (hs : slt (l.getD i default) b = false) : Best l o (i + 1) b := by
  rcases h with ⟨e, h⟩ | ⟨h1, h2, h3⟩
  · exact absurd e hb
  · exact .inr ⟨h1, h2, upto_succ h3 fun _ => hs⟩
theorem best_take {l o : List ByteArray} {i : Nat} {b : ByteArray} (h : Best l o i b) (hi : i < l.length) (hc : Cand o (l.getD i default)) (hb : b = ⟨#[]⟩ ∨ slt (l.getD i default) b = true) : Best l o (i + 1) (l.getD i default) := by
  refine .inr ⟨hc, getD_mem hi, upto_succ (fun j hj hcj => ?_) fun _ => slt_irrefl _⟩
  rcases h with ⟨e, h⟩ | ⟨h1, h2, h3⟩
  · exact absurd hcj (h j hj)
  · rcases hb with rfl | hb
    · have := (mayD_iff.1 h1.1).1
      exact absurd this (by decide)
    · refine Bool.eq_false_iff.2 fun hs => ?_
      have := slt_trans hs hb
      rw [h3 j hj hcj] at this
      cases this
theorem cmp_gt {a b : ByteArray} (h : 0 < cmpS a b) : slt b a = true := by
  refine (Bool.eq_false_or_eq_true _).resolve_right fun h1 => ?_
  simp only [cmpS, h1, Bool.false_eq_true, if_false] at h
  split at h <;> omega
theorem cmp_le {a b : ByteArray} (h : cmpS a b ≤ 0) : slt b a = false := by
  refine Bool.eq_false_iff.2 fun h1 => ?_
  simp only [cmpS, slt_asymm h1, h1, Bool.false_eq_true, if_false, if_true] at h
  omega
theorem cand_of {o : List ByteArray} {s : ByteArray} (h1 : 1 ≤ s.size) (h8 : s.size ≤ 8) (h : o.length = 0 ∨ 0 < cmpS s (o.getD (o.length - 1) default)) : Cand o s := ⟨mayD_iff.2 ⟨h1, h8⟩, h.imp id cmp_gt⟩
theorem cand_not {o : List ByteArray} {s : ByteArray} (h : s.size < 1 ∨ 8 < s.size ∨ (o.length ≠ 0 ∧ cmpS s (o.getD (o.length - 1) default) ≤ 0)) : ¬ Cand o s := fun hc => by
  have := mayD_iff.1 hc.1
  rcases h with h | h | ⟨h, h'⟩
  · omega
  · omega
  · rcases hc.2 with h0 | hs
    · exact h h0
    · rw [cmp_le h'] at hs
      cases hs
 
def Tab0 (l : List ByteArray) : List ByteArray := tidy (l.filter mayD)
theorem tab0_mem (l : List ByteArray) (s : ByteArray) : s ∈ Tab0 l ↔ s ∈ l ∧ mayD s = true := by
  rw [Tab0, (tidy_spec _).2, List.mem_filter]
theorem tab0_rises (l : List ByteArray) : Rises (Tab0 l) := (tidy_spec _).1
theorem orderS_eq (l : List ByteArray) : orderS l = (Tab0 l).take 255 := rfl
theorem take_last {T o : List ByteArray} (ho : o = T.take o.length) (hn : 0 < o.length) : o.length ≤ T.length ∧ o.getD (o.length - 1) default = T.getD (o.length - 1) default := by
  have hl : o.length ≤ T.length := by
    have := congrArg List.length ho
    simp at this
    omega
  refine ⟨hl, ?_⟩
  have : (T.take o.length).getD (o.length - 1) default = T.getD (o.length - 1) default := by
    simp only [List.getD_eq_getElem?_getD, List.getElem?_take]
    rw [if_pos (by omega)]
  rw [← ho] at this
  exact this
theorem take_len {T o : List ByteArray} (ho : o = T.take o.length) : o.length ≤ T.length := by
  have := congrArg List.length ho
  simp at this
  omega
theorem last_size {l o : List ByteArray} (ho : o = (Tab0 l).take o.length) : o.length = 0 ∨ (o.getD (o.length - 1) default).size ≤ 8 := by
  by_cases h0 : o.length = 0
  · exact .inl h0
  · right
    have hl := take_len ho
    rw [(take_last ho (by omega)).2]
    exact (mayD_iff.1 ((tab0_mem l _).1 (getD_mem (by omega))).2).2
theorem best_none {l o : List ByteArray} (ho : o = (Tab0 l).take o.length) (h : Best l o l.length ⟨#[]⟩) : o = Tab0 l := by
  have hl := take_len ho
  rcases Nat.lt_or_ge o.length (Tab0 l).length with hlt | hge
  · exfalso
    have hm := getD_mem hlt
    obtain ⟨h1, h2⟩ := (tab0_mem l _).1 hm
    have hc : Cand o ((Tab0 l).getD o.length default) := by
      refine ⟨h2, ?_⟩
      by_cases h0 : o.length = 0
      · exact .inl h0
      · right
        rw [(take_last ho (by omega)).2]
        exact tab0_rises l _ _ (by omega) hlt
    obtain ⟨j, hj, e⟩ := List.mem_iff_getElem.1 h1
    have ej : l.getD j default = (Tab0 l).getD o.length default := by
      rw [List.getD_eq_getElem?_getD, List.getElem?_eq_getElem hj]; exact e
    rcases h with ⟨_, h⟩ | ⟨h, _⟩
    · exact h j hj (by rw [ej]; exact hc)
    · exact absurd (mayD_iff.1 h.1).1 (by decide)
  · rw [List.take_of_length_le hge] at ho
    exact ho
theorem best_next {l o : List ByteArray} {b : ByteArray} (ho : o = (Tab0 l).take o.length) (hb : ¬ b = ⟨#[]⟩) (h : Best l o l.length b) : o ++ [b] = (Tab0 l).take (o ++ [b]).length := by
  have hl := take_len ho
  rcases h with ⟨e, _⟩ | ⟨hc, hm, hmin⟩
  · exact absurd e hb
  · have hbT := (tab0_mem l b).2 ⟨hm, hc.1⟩
    obtain ⟨k, hk, ek⟩ := List.mem_iff_getElem.1 hbT
    have ek' : (Tab0 l).getD k default = b := by rw [List.getD_eq_getElem?_getD, List.getElem?_eq_getElem hk]; exact ek
    have hkn : o.length ≤ k := by
      rcases hc.2 with h0 | hs
      · omega
      · by_cases h0 : o.length = 0
        · omega
        · refine Nat.le_of_not_lt fun hlt => ?_
          rw [(take_last ho (by omega)).2, ← ek'] at hs
          by_cases e : k = o.length - 1
          · rw [e, slt_irrefl] at hs; cases hs
          · have := tab0_rises l k (o.length - 1) (by omega) (by omega)
            rw [slt_asymm this] at hs
            cases hs
    have hlt : o.length < (Tab0 l).length := by omega
    have e : k = o.length := by
      refine Classical.byContradiction fun hne => ?_
      obtain ⟨h1, h2⟩ := (tab0_mem l _).1 (getD_mem hlt)
      have hc' : Cand o ((Tab0 l).getD o.length default) := by
        refine ⟨h2, ?_⟩
        by_cases h0 : o.length = 0
        · exact .inl h0
        · right
          rw [(take_last ho (by omega)).2]
          exact tab0_rises l _ _ (by omega) hlt
      obtain ⟨j, hj, ej⟩ := List.mem_iff_getElem.1 h1
      have ej' : l.getD j default = (Tab0 l).getD o.length default := by
        rw [List.getD_eq_getElem?_getD, List.getElem?_eq_getElem hj]; exact ej
      have h3 := hmin j hj (by rw [ej']; exact hc')
      rw [ej', ← ek', tab0_rises l _ _ (by omega) hk] at h3
      cases h3
    rw [List.length_append, List.length_singleton, take_snoc hlt, ← ho, ← e, ek']
theorem take_eq_255 {l o : List ByteArray} (ho : o = (Tab0 l).take o.length) (h : 255 ≤ o.length) (h2 : o.length ≤ 255) : o = orderS l := by
  rw [orderS_eq]
  have : o.length = 255 := by omega
  rw [this] at ho
  exact ho
theorem all_255 {l : List ByteArray} {o : List ByteArray} (ho : o = Tab0 l) (h : o.length ≤ 255) : o = orderS l := by
  rw [orderS_eq, ← ho, List.take_of_length_le h]
end Go.Fw
namespace Go.Fw
open Go
set_option linter.unusedVariables false
set_option linter.unusedSimpArgs false
theorem size_extract {x : ByteArray} {m : Nat} (h : m ≤ x.size) : (x.extract 0 m).size = m := by
  rw [ByteArray.size_extract]; omega
def LongUpTo (t : List ByteArray) (x : ByteArray) (i : Nat) (c : Int) (n : Nat) : Prop :=
  ((c = -1 ∧ n = 0) ∨ ∃ k : Nat, c = k ∧ k < t.length ∧ n = (t.getD k default).size ∧ 0 < n ∧ n ≤ x.size ∧ t.getD k default = x.extract 0 n) ∧
  ∀ j, j < i → (t.getD j default).size ≤ x.size → t.getD j default = x.extract 0 (t.getD j default).size → (t.getD j default).size ≤ n
theorem long_nil (t : List ByteArray) (x : ByteArray) : LongUpTo t x 0 (-1) 0 := ⟨.inl ⟨rfl, rfl⟩, fun j h => absurd h (Nat.not_lt_zero _)⟩
theorem long_hit {t : List ByteArray} {x : ByteArray} {i : Nat} {c : Int} {n : Nat} (h : LongUpTo t x i c n) (hi : i < t.length) (h1 : n < (t.getD i default).size) (h2 : (t.getD i default).size ≤ x.size) (he : x.extract 0 (t.getD i default).size = t.getD i default) :
    LongUpTo t x (i + 1) i (t.getD i default).size :=
  ⟨.inr ⟨i, rfl, hi, rfl, by omega, h2, he.symm⟩, upto_succ (fun j hj a b => by have := h.2 j hj a b; omega) fun _ _ => Nat.le_refl _⟩
theorem long_miss {t : List ByteArray} {x : ByteArray} {i : Nat} {c : Int} {n : Nat} (h : LongUpTo t x i c n) (hm : (t.getD i default).size ≤ n ∨ x.size < (t.getD i default).size ∨ ¬ x.extract 0 (t.getD i default).size = t.getD i default) : LongUpTo t x (i + 1) c n :=
  ⟨h.1, upto_succ h.2 fun a b => by
    rcases hm with hm | hm | hm
    · exact hm
    · omega
    · exact absurd b.symm hm⟩
theorem long_found {t : List ByteArray} {x : ByteArray} {c : Int} {n : Nat} (h8 : ∀ s ∈ t, s.size ≤ 8) (h : LongUpTo t x t.length c n) : Found t x [.d (.int .i64 c), .d (.int .i64 n)] := by
  have hno : ∀ m, n < m → m ≤ 8 → m ≤ x.size → NoBeg t x m := fun m h1 _ h3 k hk e => by
    have hs : (t.getD k default).size = m := by rw [e, size_extract h3]
    have := h.2 k hk (by omega) (by rw [hs]; exact e)
    omega
  rcases h.1 with ⟨rfl, rfl⟩ | ⟨k, rfl, hk, hn, h0, hx, e⟩
  · exact .inr ⟨rfl, hno⟩
  · exact .inl ⟨k, n, rfl, h0, by rw [hn]; exact h8 _ (getD_mem hk), hx, hk, e, hno⟩
theorem order_size (l : List ByteArray) : ∀ s ∈ orderS l, s.size ≤ 8 := fun s hs => by
  rw [orderS_eq] at hs
  exact (mayD_iff.1 ((tab0_mem l s).1 (List.mem_of_mem_take hs)).2).2
theorem order_len (l : List ByteArray) : (orderS l).length ≤ 255 := by rw [orderS_eq]; simp; omega
theorem order_right (l : List ByteArray) : rightS (orderS l) = true := by
  refine right_good (order_len l) fun j hj => ?_
  have hm := getD_mem hj
  have hT := tab0_mem l ((orderS l).getD j default)
  have hd := (hT.1 (by rw [orderS_eq] at hm; exact List.mem_of_mem_take hm)).2
  obtain ⟨h1, h8⟩ := mayD_iff.1 hd
  refine okAt_ok h1 h8 ?_
  by_cases h0 : j = 0
  · exact .inl h0
  · exact .inr (orderS_rises l _ _ (by omega) hj)
theorem order_self (l : List ByteArray) : orderS (orderS l) = orderS l := by
  have hf : (orderS l).filter mayD = orderS l := List.filter_eq_self.2 fun s hs => by
    rw [orderS_eq] at hs
    exact ((tab0_mem l s).1 (List.mem_of_mem_take hs)).2
  have ht : Tab0 (orderS l) = orderS l := rises_unique (tab0_rises _) (orderS_rises l) fun s => by
    rw [Tab0, hf, (tidy_spec _).2]
  rw [orderS_eq (orderS l), ht, List.take_of_length_le (order_len l)]
theorem rises_of_right {t : List ByteArray} (h : rightS t = true) : Rises t := by
  have hstep : ∀ j, 0 < j → j < t.length → slt (t.getD (j - 1) default) (t.getD j default) = true := fun j h0 hj => by
    have := (right_at h).2 j hj
    simp only [okAt, Bool.and_eq_true, Bool.or_eq_true, decide_eq_true_eq] at this
    rcases this.2 with h1 | h1
    · omega
    · exact h1
  intro a b hab hb
  induction b with
  | zero => omega
  | succ b ih =>
    have h1 := hstep (b + 1) (by omega) hb
    rw [Nat.add_sub_cancel] at h1
    by_cases e : a = b
    · subst e; exact h1
    · exact slt_trans (ih (by omega) (by omega)) h1
theorem few_len {l : List ByteArray} (h : fewS l = true) : l.length ≤ 1000000000 := by
  simp only [fewS, Bool.and_eq_true, decide_eq_true_eq] at h
  omega
end Go.Fw
namespace Go.Fw
open Go
set_option linter.unusedVariables false
set_option linter.unusedSimpArgs false
theorem takeB_run (pre mid post : List UInt8) {k : Int} (hk : k = mid.length) : takeB (pre ++ (mid ++ post)) pre.length 0 k = (mid, pre.length + mid.length, 0) := by
  subst hk
  rw [takeB_ok rfl (by simp) (by omega) (by simp; omega)]
  simp
theorem takeB_short (pre mid : List UInt8) {k : Int} (hk : (mid.length : Int) < k) : takeB (pre ++ mid) pre.length 0 k = ([], pre.length, 2) :=
  takeB_cut rfl (by simp) (by simp; omega)
theorem takeB_one (pre post : List UInt8) (x : UInt8) : takeB (pre ++ x :: post) pre.length 0 1 = ([x], pre.length + 1, 0) := takeB_run pre [x] post rfl
theorem takeB_none (pre : List UInt8) : takeB pre pre.length 0 1 = ([], pre.length, 2) := by
  have := takeB_short pre [] (k := 1) (by simp)
  simpa using this
theorem replicate_snoc {α : Type} (m : Nat) (x : α) : List.replicate (m + 1) x = List.replicate m x ++ [x] := by
  induction m with
  | zero => rfl
  | succ m ih => rw [List.replicate_succ, ih, ← List.cons_append, ← List.replicate_succ, ih]
theorem go_err (b : List UInt8) {e : Int} (he : ¬ e = 0) : ∀ (m : Nat) (out : List ByteArray) (n : Nat), getGo b m out n e = (out ++ List.replicate m (strB []), n, e)
  | 0, out, n => by simp [getGo]
  | m + 1, out, n => by
    have h8 : byteOf1 (takeB b n e 1).1 ≤ 8 := by rw [takeB_err he]; simp [byteOf1]
    rw [getGo_good h8, takeB_err he]
    simp only [byteOf1]
    rw [takeB_err he]
    simp only
    rw [go_err b he m, List.append_assoc, List.replicate_succ, List.singleton_append]
theorem go_err_last (b : List UInt8) {e : Int} (he : ¬ e = 0) (m : Nat) (out : List ByteArray) (n : Nat) : ∃ w, getGo b m (out ++ [strB []]) n e = (w ++ [strB []], n, e) := by
  rw [go_err b he]
  refine ⟨out ++ List.replicate m (strB []), ?_⟩
  rw [List.append_assoc, List.append_assoc, List.singleton_append, ← List.replicate_succ, replicate_snoc]
theorem not_right_last (w : List ByteArray) : rightS (w ++ [strB []]) = false := by
  refine right_bad (i := w.length) (by simp) (okAt_no (.inl ?_))
  have : (w ++ [strB []]).getD w.length default = strB [] := by simp [List.getD_eq_getElem?_getD]
  rw [this]
  decide
theorem byteOf1_x (x : UInt8) : byteOf1 [x] = x.toNat := rfl
 
theorem go_ok : ∀ (m : Nat) (out : List ByteArray) (pre rest : List UInt8),
    (∃ u post n', getGo (pre ++ rest) m out pre.length 0 = (out ++ u, n', 0) ∧ u.length = m ∧ rest = u.flatMap putF ++ post ∧ n' = pre.length + (u.flatMap putF).length) ∨
    (∃ w n' e', getGo (pre ++ rest) m out pre.length 0 = (w ++ [strB []], n', e') ∧ ¬ e' = 0)
  | 0, out, pre, rest => .inl ⟨[], rest, pre.length, by simp [getGo], rfl, by simp, by simp⟩
  | m + 1, out, pre, [] => by
    right
    rw [List.append_nil]
    have h8 : byteOf1 (takeB pre pre.length 0 1).1 ≤ 8 := by rw [takeB_none]; simp [byteOf1]
    rw [getGo_good h8, takeB_none]
    simp only [byteOf1]
    rw [takeB_err (by decide)]
    simp only
    obtain ⟨w, hw⟩ := go_err_last pre (e := 2) (by decide) m out pre.length
    exact ⟨w, _, _, hw, by decide⟩
  | m + 1, out, pre, x :: rest => by
    by_cases h8 : byteOf1 [x] ≤ 8
    · have h8' : byteOf1 (takeB (pre ++ x :: rest) pre.length 0 1).1 ≤ 8 := by rw [takeB_one]; exact h8
      rw [getGo_good h8', takeB_one]
      simp only
      rcases Nat.lt_or_ge rest.length x.toNat with hlt | hge
      · have hs : takeB (pre ++ x :: rest) (pre.length + 1) 0 (byteOf1 [x]) = ([], pre.length + 1, 2) := by
          have := takeB_short (pre ++ [x]) rest (k := byteOf1 [x]) (by rw [byteOf1_x]; omega)
          simpa using this
        rw [hs]
        simp only
        obtain ⟨w, hw⟩ := go_err_last (pre ++ x :: rest) (e := 2) (by decide) m out (pre.length + 1)
        exact .inr ⟨w, _, _, hw, by decide⟩
      · have hlen : (rest.take x.toNat).length = x.toNat := by simp; omega
        have hs : takeB (pre ++ x :: rest) (pre.length + 1) 0 (byteOf1 [x]) = (rest.take x.toNat, pre.length + 1 + x.toNat, 0) := by
          have := takeB_run (pre ++ [x]) (rest.take x.toNat) (rest.drop x.toNat) (k := byteOf1 [x]) (by rw [byteOf1_x, hlen])
          rw [List.take_append_drop, hlen] at this
          simpa using this
        rw [hs]
        simp only
        have hput : putF (strB (rest.take x.toNat)) = x :: rest.take x.toNat := by
          have hz : (strB (rest.take x.toNat)).size = x.toNat := by
            show (rest.take x.toNat).toArray.size = _
            simp; omega
          simp only [putF, hz, UInt8.ofNat_toNat]
          simp [strB]
        have hb : pre ++ x :: rest = (pre ++ putF (strB (rest.take x.toNat))) ++ rest.drop x.toNat := by
          rw [hput]; simp
        have hp : pre.length + 1 + x.toNat = (pre ++ putF (strB (rest.take x.toNat))).length := by
          rw [hput]; simp; omega
        rw [hb, hp]
        rcases go_ok m (out ++ [strB (rest.take x.toNat)]) (pre ++ putF (strB (rest.take x.toNat))) (rest.drop x.toNat) with ⟨u, post, n', h1, h2, h3, h4⟩ | ⟨w, n', e', h1, h2⟩
        · left
          refine ⟨strB (rest.take x.toNat) :: u, post, n', by rw [h1]; simp, by simp [h2], ?_, ?_⟩
          · rw [List.flatMap_cons, hput, List.append_assoc, ← h3]; simp
          · rw [h4, List.flatMap_cons]; simp; omega
        · exact .inr ⟨w, n', e', h1, h2⟩
    · have h8' : 8 < byteOf1 (takeB (pre ++ x :: rest) pre.length 0 1).1 := by rw [takeB_one]; show 8 < byteOf1 [x]; omega
      rw [getGo_bad h8', takeB_one]
      simp only
      rw [takeB_err (e := failE 0 3) (by decide)]
      simp only
      obtain ⟨w, hw⟩ := go_err_last (pre ++ x :: rest) (e := failE 0 3) (by decide) m out (pre.length + 1)
      exact .inr ⟨w, _, _, hw, by decide⟩
 
theorem gets_sound (b : List UInt8) : (rightS (getS b 0 0).1 = true ∧ (getS b 0 0).1 ≠ [] ∧ (getS b 0 0).2.2 = 0 ∧ (getS b 0 0).2.1 ≤ b.length ∧ putB (getS b 0 0).1 = b.take (getS b 0 0).2.1) ∨
    ((getS b 0 0).1 = [] ∧ (getS b 0 0).2.1 ≤ b.length ∧ (¬ (getS b 0 0).2.2 = 0 ∨ ((getS b 0 0).2.1 = 1 ∧ b.head? = some 0))) := by
  cases b with
  | nil =>
    right
    have : getS [] 0 0 = ([], 0, 2) := by decide +kernel
    rw [this]
    exact ⟨rfl, Nat.le_refl _, .inl (by decide)⟩
  | cons x rest =>
    have h1 : takeB (x :: rest) 0 0 1 = ([x], 1, 0) := takeB_one [] rest x
    have hS : getS (x :: rest) 0 0 = if rightS (getGo (x :: rest) x.toNat [] 1 0).1 then getGo (x :: rest) x.toNat [] 1 0 else ([], (getGo (x :: rest) x.toNat [] 1 0).2.1, failE (getGo (x :: rest) x.toNat [] 1 0).2.2 3) := by
      simp only [getS, h1, byteOf1, Int.toNat_natCast]
    rcases go_ok x.toNat [] [x] rest with ⟨u, post, n', g1, g2, g3, g4⟩ | ⟨w, n', e', g1, g2⟩
    · have g1' : getGo (x :: rest) x.toNat [] 1 0 = (u, n', 0) := by simpa using g1
      have hn : n' ≤ (x :: rest).length := by rw [g4, g3]; simp; omega
      rw [hS, g1']
      by_cases hr : rightS u = true
      · simp only [hr, if_true]
        by_cases hu : u = []
        · right
          subst hu
          refine ⟨rfl, hn, .inr ⟨by simpa using g4, ?_⟩⟩
          have hx : x.toNat = 0 := by simpa using g2.symm
          have : x = 0 := UInt8.toNat_inj.1 (by simpa using hx)
          rw [this]; rfl
        · left
          refine ⟨trivial, hu, trivial, hn, ?_⟩
          rw [g4, g3, putB, g2, UInt8.ofNat_toNat, List.length_singleton, Nat.add_comm 1, List.take_succ_cons, List.take_left']
          rfl
      · right
        simp only [hr, Bool.false_eq_true, if_false]
        exact ⟨trivial, hn, .inl (by decide)⟩
    · have g1' : getGo (x :: rest) x.toNat [] 1 0 = (w ++ [strB []], n', e') := by simpa using g1
      right
      rw [hS, g1']
      simp only [not_right_last, Bool.false_eq_true, if_false]
      refine ⟨trivial, ?_, .inl ?_⟩
      · have := getGo_le (x :: rest) x.toNat [] 1 0 (by simp)
        rw [g1'] at this
        exact this
      · rw [failE, if_neg g2]; exact g2
theorem gets_le (b : List UInt8) : (getS b 0 0).2.1 ≤ b.length := by
  rcases gets_sound b with h | h
  · exact h.2.2.2.1
  · exact h.2.1
def endE (b : List UInt8) (r : List ByteArray × Nat × Int) : Int := if r.2.2 = 0 ∧ r.2.1 < b.length then 2 else r.2.2
theorem gets_z1 {b : List UInt8} (h0 : ((getS b 0 0).1.length : Int) = 0) (he : (if (getS b 0 0).2.2 = 0 ∧ (getS b 0 0).2.1 < b.length then 2 else (getS b 0 0).2.2) = 0) : b.length = 1 ∧ (b.getD 0 default).toNat = 0 := by
  rcases gets_sound b with ⟨_, h, _⟩ | ⟨_, hn, h⟩
  · exact absurd (List.eq_nil_of_length_eq_zero (by omega)) h
  · split at he
    · cases he
    · rename_i hc
      rcases h with h | ⟨h1, h2⟩
      · exact absurd he h
      · have hl : b.length = 1 := by
          refine Classical.byContradiction fun hne => hc ⟨he, by omega⟩
        refine ⟨hl, ?_⟩
        cases b with
        | nil => cases h2
        | cons x r =>
          simp only [List.head?_cons, Option.some.injEq] at h2
          rw [h2]; rfl
theorem gets_z2 {b : List UInt8} (h0 : ¬ ((getS b 0 0).1.length : Int) = 0) : rightS (getS b 0 0).1 = true ∧ (getS b 0 0).2.2 = 0 ∧ putB (getS b 0 0).1 = b.take (getS b 0 0).2.1 ∧ (getS b 0 0).2.1 ≤ b.length := by
  rcases gets_sound b with ⟨h1, _, h3, h4, h5⟩ | ⟨h, _⟩
  · exact ⟨h1, h3, h5, h4⟩
  · rw [h] at h0; exact absurd rfl h0
theorem gets_z3 {b : List UInt8} (h0 : ¬ ((getS b 0 0).1.length : Int) = 0) : ((if (getS b 0 0).2.2 = 0 ∧ (getS b 0 0).2.1 < b.length then 2 else (getS b 0 0).2.2) = 0 ∧ (getS b 0 0).2.1 = b.length) ∨ ((if (getS b 0 0).2.2 = 0 ∧ (getS b 0 0).2.1 < b.length then 2 else (getS b 0 0).2.2) = 2 ∧ (getS b 0 0).2.1 < b.length) := by
  obtain ⟨_, h3, _, h4⟩ := gets_z2 h0
  by_cases hlt : (getS b 0 0).2.1 < b.length
  · exact .inr ⟨if_pos ⟨h3, hlt⟩, hlt⟩
  · exact .inl ⟨by rw [if_neg (fun hc => hlt hc.2), h3], by omega⟩
theorem putF_len' (s : ByteArray) : (putF s).length = s.size + 1 := by simp [putF, dlen]
theorem byteOf1_size {s : ByteArray} (h : s.size ≤ 8) : byteOf1 [UInt8.ofNat s.size] = s.size := by
  simp only [byteOf1]
  rw [UInt8.toNat_ofNat_of_lt' (by simp [UInt8.size]; omega)]
 
theorem go_full : ∀ (u : List ByteArray) (out : List ByteArray) (pre post : List UInt8), (∀ s ∈ u, s.size ≤ 8) →
    getGo (pre ++ (u.flatMap putF ++ post)) u.length out pre.length 0 = (out ++ u, pre.length + (u.flatMap putF).length, 0)
  | [], out, pre, post, _ => by simp [getGo]
  | s :: u, out, pre, post, h8 => by
    have hs := h8 s (by simp)
    have hb : pre ++ ((s :: u).flatMap putF ++ post) = pre ++ UInt8.ofNat s.size :: (s.data.toList ++ (u.flatMap putF ++ post)) := by
      rw [List.flatMap_cons, putF]; simp
    have h1 := takeB_one pre (s.data.toList ++ (u.flatMap putF ++ post)) (UInt8.ofNat s.size)
    rw [hb, List.length_cons, getGo_good (by rw [h1]; simp only; rw [byteOf1_size hs]; omega), h1]
    simp only
    have h2 : takeB (pre ++ UInt8.ofNat s.size :: (s.data.toList ++ (u.flatMap putF ++ post))) (pre.length + 1) 0 (byteOf1 [UInt8.ofNat s.size]) = (s.data.toList, pre.length + 1 + s.data.toList.length, 0) := by
      have := takeB_run (pre ++ [UInt8.ofNat s.size]) s.data.toList (u.flatMap putF ++ post) (k := byteOf1 [UInt8.ofNat s.size]) (by rw [byteOf1_size hs, dlen])
      simpa using this
    rw [h2]
    simp only
    have hstr : strB s.data.toList = s := by cases s; simp [strB]
    have hp : pre.length + 1 + s.data.toList.length = (pre ++ putF s).length := by rw [List.length_append, putF_len', dlen]; omega
    have hb2 : pre ++ UInt8.ofNat s.size :: (s.data.toList ++ (u.flatMap putF ++ post)) = (pre ++ putF s) ++ (u.flatMap putF ++ post) := by rw [putF]; simp
    rw [hstr, hp, hb2, go_full u (out ++ [s]) (pre ++ putF s) post (fun x hx => h8 x (by simp [hx]))]
    simp [List.flatMap_cons, Nat.add_assoc]
 
theorem go_cut : ∀ (u : List ByteArray) (out : List ByteArray) (pre : List UInt8) (c : Nat), (∀ s ∈ u, s.size ≤ 8) → c < (u.flatMap putF).length →
    ∃ w n', getGo (pre ++ (u.flatMap putF).take c) u.length out pre.length 0 = (w ++ [strB []], n', 2)
  | [], out, pre, c, _, hc => by simp at hc
  | s :: u, out, pre, 0, h8, hc => by
    rw [List.take_zero, List.append_nil, List.length_cons, getGo_good (by rw [takeB_none]; simp [byteOf1]), takeB_none]
    simp only [byteOf1]
    rw [takeB_err (by decide)]
    simp only
    obtain ⟨w, hw⟩ := go_err_last pre (e := 2) (by decide) u.length out pre.length
    exact ⟨w, _, hw⟩
  | s :: u, out, pre, c + 1, h8, hc => by
    have hs := h8 s (by simp)
    have hb : pre ++ ((s :: u).flatMap putF).take (c + 1) = pre ++ UInt8.ofNat s.size :: (s.data.toList ++ u.flatMap putF).take c := by
      rw [List.flatMap_cons, putF, List.cons_append, List.take_succ_cons]
    have h1 := takeB_one pre ((s.data.toList ++ u.flatMap putF).take c) (UInt8.ofNat s.size)
    rw [hb, List.length_cons, getGo_good (by rw [h1]; simp only; rw [byteOf1_size hs]; omega), h1]
    simp only
    rcases Nat.lt_or_ge c s.size with hlt | hge
    · have hl : ((s.data.toList ++ u.flatMap putF).take c).length = c := by
        have := dlen s
        simp; omega
      have h2 : takeB (pre ++ UInt8.ofNat s.size :: (s.data.toList ++ u.flatMap putF).take c) (pre.length + 1) 0 (byteOf1 [UInt8.ofNat s.size]) = ([], pre.length + 1, 2) := by
        have := takeB_short (pre ++ [UInt8.ofNat s.size]) ((s.data.toList ++ u.flatMap putF).take c) (k := byteOf1 [UInt8.ofNat s.size]) (by rw [byteOf1_size hs, hl]; omega)
        simpa using this
      rw [h2]
      simp only
      obtain ⟨w, hw⟩ := go_err_last (pre ++ UInt8.ofNat s.size :: (s.data.toList ++ u.flatMap putF).take c) (e := 2) (by decide) u.length out (pre.length + 1)
      exact ⟨w, _, hw⟩
    · have htk : (s.data.toList ++ u.flatMap putF).take c = s.data.toList ++ (u.flatMap putF).take (c - s.size) := by
        rw [List.take_append, dlen, List.take_of_length_le (by rw [dlen]; omega)]
      rw [htk]
      have h2 : takeB (pre ++ UInt8.ofNat s.size :: (s.data.toList ++ (u.flatMap putF).take (c - s.size))) (pre.length + 1) 0 (byteOf1 [UInt8.ofNat s.size]) = (s.data.toList, pre.length + 1 + s.data.toList.length, 0) := by
        have := takeB_run (pre ++ [UInt8.ofNat s.size]) s.data.toList ((u.flatMap putF).take (c - s.size)) (k := byteOf1 [UInt8.ofNat s.size]) (by rw [byteOf1_size hs, dlen])
        simpa using this
      rw [h2]
      simp only
      have hp : pre.length + 1 + s.data.toList.length = (pre ++ putF s).length := by rw [List.length_append, putF_len', dlen]; omega
      have hb2 : pre ++ UInt8.ofNat s.size :: (s.data.toList ++ (u.flatMap putF).take (c - s.size)) = (pre ++ putF s) ++ (u.flatMap putF).take (c - s.size) := by rw [putF]; simp
      rw [hp, hb2]
      refine go_cut u _ (pre ++ putF s) (c - s.size) (fun x hx => h8 x (by simp [hx])) ?_
      rw [List.flatMap_cons, List.length_append, putF_len'] at hc
      omega
theorem len_u8 {t : List ByteArray} (h : rightS t = true) : (UInt8.ofNat t.length).toNat = t.length := by
  have := (right_at h).1
  rw [UInt8.toNat_ofNat_of_lt' (by simp [UInt8.size]; omega)]
theorem gets_put {t : List ByteArray} (h : rightS t = true) : getS (putB t) 0 0 = (t, (putB t).length, 0) := by
  have h1 : takeB (putB t) 0 0 1 = ([UInt8.ofNat t.length], 1, 0) := takeB_one [] _ _
  have h2 := go_full t [] [UInt8.ofNat t.length] [] (right_size h)
  rw [List.append_nil] at h2
  have h2' : getGo (putB t) t.length [] 1 0 = (t, (putB t).length, 0) := by
    simpa [putB, Nat.add_comm] using h2
  simp only [getS, h1, byteOf1, Int.toNat_natCast, len_u8 h, h2', h, if_true]
theorem gets_cut {t : List ByteArray} (h : rightS t = true) {c : Nat} (hc : c < (putB t).length) : (getS ((putB t).take c) 0 0).1 = [] ∧ (getS ((putB t).take c) 0 0).2.2 = 2 := by
  cases c with
  | zero =>
    rw [List.take_zero]
    have : getS [] 0 0 = ([], 0, 2) := by decide +kernel
    rw [this]
    exact ⟨rfl, rfl⟩
  | succ c =>
    have hb : (putB t).take (c + 1) = [UInt8.ofNat t.length] ++ (t.flatMap putF).take c := by rw [putB, List.take_succ_cons]; rfl
    have h1 : takeB ([UInt8.ofNat t.length] ++ (t.flatMap putF).take c) 0 0 1 = ([UInt8.ofNat t.length], 1, 0) := takeB_one [] _ _
    obtain ⟨w, n', g⟩ := go_cut t [] [UInt8.ofNat t.length] c (right_size h) (by simp only [putB, List.length_cons] at hc; omega)
    have g' : getGo ([UInt8.ofNat t.length] ++ (t.flatMap putF).take c) t.length [] 1 0 = (w ++ [strB []], n', 2) := by simpa using g
    rw [hb]
    simp only [getS, h1, byteOf1, Int.toNat_natCast, len_u8 h, g', not_right_last, Bool.false_eq_true, if_false]
    exact ⟨trivial, rfl⟩
theorem put_small (l : List ByteArray) : (putB (orderS l)).length ≤ 1000000000 := by
  have := putB_len (order_right l)
  simp only [List.length_map] at this
  omega
theorem put_small_take (l : List ByteArray) (c : Nat) : ((putB (orderS l)).take c).length ≤ 1000000000 := by
  have := put_small l
  simp only [List.length_take]
  omega
theorem tmod_nn (a b : Nat) : (a : Int).tmod (b : Int) = ((a % b : Nat) : Int) := (Int.ofNat_tmod a b).symm
theorem put_pos (t : List ByteArray) : 0 < (putB t).length := by simp [putB]
theorem put_ne (l : List ByteArray) : ((putB (orderS l)).length : Int) ≠ 0 := by have := put_pos (orderS l); omega
theorem back_end (l : List ByteArray) : (if (getS (putB (orderS l)) 0 0).2.2 = 0 ∧ (getS (putB (orderS l)) 0 0).2.1 < (putB (orderS l)).length then 2 else (getS (putB (orderS l)) 0 0).2.2) = 0 := by
  rw [gets_put (order_right l)]
  rw [if_neg (fun h => absurd h.2 (Nat.lt_irrefl _))]
theorem back_same (l : List ByteArray) : (getS (putB (orderS l)) 0 0).1 = orderS l := by rw [gets_put (order_right l)]
theorem back_cut (l : List ByteArray) (c : Nat) : (getS ((putB (orderS l)).take (c % (putB (orderS l)).length)) 0 0).1 = [] ∧ (getS ((putB (orderS l)).take (c % (putB (orderS l)).length)) 0 0).2.2 = 2 :=
  gets_cut (order_right l) (Nat.mod_lt _ (put_pos _))
theorem mod_le (c : Nat) (t : List ByteArray) : c % (putB t).length ≤ (putB t).length := Nat.le_of_lt (Nat.mod_lt _ (put_pos _))
theorem back_cutE (l : List ByteArray) (c m : Nat) : (if (getS ((putB (orderS l)).take (c % (putB (orderS l)).length)) 0 0).2.2 = 0 ∧ (getS ((putB (orderS l)).take (c % (putB (orderS l)).length)) 0 0).2.1 < m then 2 else (getS ((putB (orderS l)).take (c % (putB (orderS l)).length)) 0 0).2.2) = 2 := by
  rw [(back_cut l c).2]
  exact if_neg (fun h => absurd h.1 (by decide))
theorem back_cut0 (l : List ByteArray) (c : Nat) : ((getS ((putB (orderS l)).take (c % (putB (orderS l)).length)) 0 0).1.length : Int) = 0 := by
  rw [(back_cut l c).1]; rfl
theorem wf_u16 {n : Int} (h : (Lit.int .u16 n).wf = true) : 0 ≤ n ∧ n < 65536 := by
  simp [Lit.wf, IntKind.min, IntKind.max, IntKind.bits, IntKind.signed] at h
  omega
end Go.Fw
namespace Go.Fw
open Go Go.Proofs
set_option maxHeartbeats 10000000
set_option maxRecDepth 100000
set_option linter.constructorNameAsVariable false
set_option linter.unusedVariables false
set_option linter.unusedSimpArgs false
def M7 : FuncId → List Mode := fun g => if g = 22 then [.own] else if g = 23 then [.own] else if g = 24 then [.own] else []
def pl7 : Nat → Plan
  | 9 => tks 0 [0, 0, 0, 0, 0, 0, 0] (.one 7 (tks 8 [0, 0, 0, 0, 0] (.one 13 (tks 14 [0, 0, 0] (tks 18 [0, 0, 0] (.one 17 (.one 21 (tks 22 [0] (.one 23 (.done))))))))))
  | _ => .done
theorem symbolGets_con (b : List UInt8) : Has Try.prog 7 [CV.d (D.sl 1 (b.map byteD))] (fun rs _ => rs = [CV.d (D.bool true)]) := by
  refine Has_of_run (fn := Try.f7) (M := M7) fol (by kernel_rfl) 7 pl7 [] [] (by kernel_rfl) (Nat.le_of_ble_eq_true rfl) ?_
  repeat' ((conv => whnf); first | (refine And.intro (fun h => ?_) (fun h => ?_) <;> (try simp only [toNat_pred, toNat_succ, toNat_addn, toNat_subn, decide_eq_true_eq, decide_eq_false_iff_not, Bool.not_eq_true', Bool.not_eq_false', List.length_map, Int.toNat_natCast, Int.not_lt, Int.not_le, Bool.not_eq_true, Bool.false_eq_true, Bool.true_eq_false, Bool.not_true, Bool.not_false, reduceCtorEq, beq_iff_eq, Bool.not_eq_eq_eq_not, bne_iff_ne, ne_eq, decide_not, Decidable.not_not, Classical.not_not] at h)) | refine And.intro rfl ?_ | refine And.intro (Or.inr rfl) ?_ | refine And.intro (Nat.le_of_ble_eq_true rfl) ?_ | refine And.intro ⟨rfl, rfl⟩ ?_ | refine And.intro ⟨rfl, rfl, trivial⟩ ?_ | refine And.intro (Int.natCast_nonneg _) ?_ | refine Or.inl (And.intro rfl (And.intro rfl (And.intro rfl (And.intro rfl ?_)))) | refine Or.inl (And.intro rfl (And.intro rfl ?_)) | refine Or.inr (And.intro (Nat.le_of_ble_eq_true rfl) ?_) | refine Or.inl (And.intro (by unfold in64; omega) ?_) | refine And.intro (by first | omega | (simp only [dlen, true_and, and_true, Nat.le_refl, List.length_map, List.length_append, List.length_cons, List.length_nil, List.length_take, List.length_drop, List.length_replicate, Int.toNat_natCast, List.append_nil] <;> omega) | fail) ?_ | refine And.intro (allU8_bytes _) ?_ | refine And.intro (show elemsP _ _ _ by repeat' (first | exact rfl | exact trivial | constructor)) ?_ | (refine awake_con.mono fun rs bs hr => ?_; subst hr) | (refine (curNew_con _ (by omega)).mono fun rs bs hr => ?_; subst hr) | (refine (symGet_con _ _ _ (by omega) (Nat.zero_le _)).mono fun rs bs hr => ?_; obtain ⟨rfl, rfl⟩ := hr) | (refine (curEnd_con _ _ _ (by omega) (gets_le _)).mono fun rs bs hr => ?_; obtain ⟨rfl, rfl⟩ := hr) | (refine (curLeft_con _ _ _ (by omega) (gets_le _)).mono fun rs bs hr => ?_; obtain ⟨rfl, rfl⟩ := hr) | (refine (rightRef_con _).mono fun rs bs hr => ?_; subst hr) | (refine (putRef_con _ (right_at ‹_›).1 (right_size ‹_›)).mono fun rs bs hr => ?_; subst hr) | (refine (same01_con _ _).mono fun rs bs hr => ?_; subst hr) | (refine fun x hx => ?_; (try simp (disch := omega) only [if_true, if_false, Bool.false_eq_true, min_nn, max_nn, min_ln, min_nl, max_ln, max_nl, getD_map, str_of_bytes, take_bytes, take_data, wrap_u64, wrap_u32, shr_i64, shr_u64, shr_u32, shl_i64, shl_u64, Int.reduceToNat, Int.reducePow, Int.pow_succ, Int.pow_zero, Int.one_mul, Int.reduceMul, wrap_id, wrap_u8_nat, wrap_i64_u8, byteD_mk, map_snoc, map_app, set_map, take_map', drop_map', Nat.sub_zero, List.length_map, List.length_append, List.length_cons, List.length_nil, Int.toNat_natCast, List.drop_zero, List.take_succ_cons, List.take_zero, List.take_length, List.nil_append, List.append_nil, Nat.zero_add, toNat_pred, toNat_succ, toNat_addn, toNat_subn] at hx); subst hx) | rw [List.take_length] | (rw [List.take_of_length_le]; rotate_left; (first | omega | (simp only [dlen, true_and, and_true, Nat.le_refl, List.length_map, List.length_append, List.length_cons, List.length_nil, List.length_take, List.length_drop, List.length_replicate, Int.toNat_natCast, List.append_nil] <;> omega) | fail)) | refine fun h => ?_ | fail); all_goals (try (conv => whnf))
  · exact rb (decide_eq_true (by have := (gets_z1 ‹_› ‹_›).2; omega))
  · have := (gets_z1 (b := b) (by assumption) (by assumption)).1
    exfalso; omega
  · have hz := gets_z2 (b := b) (by assumption)
    exact rb (decide_eq_true (by rw [hz.2.2.1, show b.length - (b.length - (getS b 0 0).2.1) = (getS b 0 0).2.1 by omega]))
  · exact absurd (gets_z2 (b := b) (by assumption)).1 (by simp_all)
  · have := gets_z3 (b := b) (by assumption)
    exfalso; omega
  · have := gets_z3 (b := b) (by assumption)
    exfalso; omega
  · have hz := gets_z2 (b := b) (by assumption)
    have h3 := gets_z3 (b := b) (by assumption)
    have hn : (getS b 0 0).2.1 = b.length := by omega
    exact rb (decide_eq_true (by rw [hz.2.2.1, hn, List.take_length]))
  · exact absurd (gets_z2 (b := b) (by assumption)).1 (by simp_all)
theorem symbolGets_law (xs : List D) (h : HasTs Try.prog Try.f7.params.toList xs) : Has Try.prog 7 (xs.map CV.d) (fun rs _ => rs = [.d (.bool true)]) := by
  obtain ⟨x, rfl, h1⟩ := one_arg h
  obtain ⟨l, rfl, _⟩ := h1.asBytes (e := 5) (by kernel_rfl) (by kernel_rfl) (by kernel_rfl)
  exact symbolGets_con l
end Go.Fw
namespace Go.Fw
open Go Go.Proofs
set_option maxHeartbeats 10000000
set_option maxRecDepth 100000
set_option linter.constructorNameAsVariable false
set_option linter.unusedVariables false
set_option linter.unusedSimpArgs false
def M8 : FuncId → List Mode := fun g => if g = 22 then [.own] else if g = 23 then [.own] else []
theorem symbolBack_con (l : List ByteArray) (c : Nat) (hc : c < 65536) : Has Try.prog 8 [CV.d (D.sl 1 (l.map D.str)), CV.d (D.int .u16 (c : Int))] (fun rs _ => rs = [CV.d (D.bool true)]) := by
  refine Has_of_run (fn := Try.f8) (M := M8) fol (by kernel_rfl) 11 noPlan [] [] (by kernel_rfl) (Nat.le_of_ble_eq_true rfl) ?_
  repeat' ((conv => whnf); first | (refine And.intro (fun h => ?_) (fun h => ?_) <;> (try simp only [toNat_pred, toNat_succ, toNat_addn, toNat_subn, decide_eq_true_eq, decide_eq_false_iff_not, Bool.not_eq_true', Bool.not_eq_false', List.length_map, Int.toNat_natCast, Int.not_lt, Int.not_le, Bool.not_eq_true, Bool.false_eq_true, Bool.true_eq_false, Bool.not_true, Bool.not_false, reduceCtorEq, beq_iff_eq, Bool.not_eq_eq_eq_not, bne_iff_ne, ne_eq, decide_not, Decidable.not_not, Classical.not_not] at h)) | refine And.intro rfl ?_ | refine And.intro (Or.inr rfl) ?_ | refine And.intro (Nat.le_of_ble_eq_true rfl) ?_ | refine And.intro ⟨rfl, rfl⟩ ?_ | refine And.intro ⟨rfl, rfl, trivial⟩ ?_ | refine And.intro (Int.natCast_nonneg _) ?_ | refine Or.inl (And.intro rfl (And.intro rfl (And.intro rfl (And.intro rfl ?_)))) | refine Or.inl (And.intro rfl (And.intro rfl ?_)) | refine Or.inr (And.intro (Nat.le_of_ble_eq_true rfl) ?_) | refine Or.inl (And.intro (by unfold in64; omega) ?_) | refine And.intro (by first | omega | (simp only [dlen, true_and, and_true, Nat.le_refl, List.length_map, List.length_append, List.length_cons, List.length_nil, List.length_take, List.length_drop, List.length_replicate, Int.toNat_natCast, List.append_nil] <;> omega) | fail) ?_ | refine And.intro (allU8_bytes _) ?_ | refine And.intro (show elemsP _ _ _ by repeat' (first | exact rfl | exact trivial | constructor)) ?_ | (refine And.intro (put_ne l) ?_) | (refine And.intro (by simp only [Int.toNat_natCast, List.drop_zero, List.length_map]; exact mod_le c _) ?_) | (refine awake_con.mono fun rs bs hr => ?_; subst hr) | (refine (few_con _).mono fun rs bs hr => ?_; subst hr) | (refine (order_con _ (few_len ‹_›)).mono fun rs bs hr => ?_; subst hr) | (refine (put_con _).mono fun rs bs hr => ?_; rw [if_pos (order_right l)] at hr; subst hr) | (refine (curNew_con _ (by first | exact put_small l | exact put_small_take l _ | fail)).mono fun rs bs hr => ?_; subst hr) | (refine (symGet_con _ _ _ (by first | exact put_small l | exact put_small_take l _ | fail) (Nat.zero_le _)).mono fun rs bs hr => ?_; obtain ⟨rfl, rfl⟩ := hr) | (refine (curEnd_con _ _ _ (by first | exact put_small l | exact put_small_take l _ | fail) (gets_le _)).mono fun rs bs hr => ?_; obtain ⟨rfl, rfl⟩ := hr) | (rw [tmod_nn]) | (refine (same07_con _ _).mono fun rs bs hr => ?_; subst hr) | (refine fun x hx => ?_; (try simp (disch := omega) only [if_true, if_false, Bool.false_eq_true, min_nn, max_nn, min_ln, min_nl, max_ln, max_nl, getD_map, str_of_bytes, take_bytes, take_data, wrap_u64, wrap_u32, shr_i64, shr_u64, shr_u32, shl_i64, shl_u64, Int.reduceToNat, Int.reducePow, Int.pow_succ, Int.pow_zero, Int.one_mul, Int.reduceMul, wrap_id, wrap_u8_nat, wrap_i64_u8, byteD_mk, map_snoc, map_app, set_map, take_map', drop_map', Nat.sub_zero, List.length_map, List.length_append, List.length_cons, List.length_nil, Int.toNat_natCast, List.drop_zero, List.take_succ_cons, List.take_zero, List.take_length, List.nil_append, List.append_nil, Nat.zero_add, toNat_pred, toNat_succ, toNat_addn, toNat_subn] at hx); subst hx) | rw [List.take_length] | (rw [List.take_of_length_le]; rotate_left; (first | omega | (simp only [dlen, true_and, and_true, Nat.le_refl, List.length_map, List.length_append, List.length_cons, List.length_nil, List.length_take, List.length_drop, List.length_replicate, Int.toNat_natCast, List.append_nil] <;> omega) | fail)) | refine fun h => ?_ | fail); all_goals (try (conv => whnf))
  all_goals try (exact absurd (back_end l) ‹_›)
  all_goals try (exact absurd (back_same l) ‹_›)
  · exact rb (decide_eq_true (back_cutE l c _))
  · exact absurd (back_cut0 l c) ‹_›
  · exact absurd trivial ‹¬True›
theorem symbolBack_law (xs : List D) (h : HasTs Try.prog Try.f8.params.toList xs) : Has Try.prog 8 (xs.map CV.d) (fun rs _ => rs = [.d (.bool true)]) := by
  obtain ⟨x, y, rfl, h1, h2⟩ := two_args h
  obtain ⟨l, rfl, _, _⟩ := h1.asStrs (e := 9) (by kernel_rfl) (by kernel_rfl) (by kernel_rfl)
  obtain ⟨n, rfl, hw⟩ := h2.asInt (k := .u16) (by kernel_rfl)
  obtain ⟨h0, h1⟩ := wf_u16 hw
  obtain ⟨c, rfl⟩ : ∃ c : Nat, n = c := ⟨n.toNat, by omega⟩
  exact symbolBack_con l c (by omega)
end Go.Fw
