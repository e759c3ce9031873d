/- What the proofs of this seat lean on, part 16: a symbolic machine that is shown sound, walks through functions, plain laws. -/
import Derived.Shelf.Small.Bits
import Derived.Shelf.Strconv.Itoa0
import Derived.Shelf.Sort.Plain
import Derived.Shelf.Slices.CompactS
import Derived.Shelf.Slices.Cells
import Derived.Shelf.Slices.In.SortNone
import Derived.Test.YtcnlanaahhkhfabProg
import Derived.Test.YtcnlanaahhkhfabZ13
import Derived.Test.YtcnlanaahhkhfabZ15
import Derived.Test.YtcnlanaahhkhfabZ12
namespace Go.Proofs
open Go.Shelf
def Try.lays128_ren : Go.Shelf.Ren := ⟨fun | 128 => 46 | n => n, fun | 51 => 66 | 3 => 3 | 4 => 4 | 46 => 56 | 5 => 5 | 9 => 9 | n => n, fun | n => n⟩
theorem Try.lays128 : Go.Proofs.Lays.n128 Try.prog Try.lays128_ren := {
  mixed := by kernel_rfl
  f128 := Try.func46.trans (congrArg some (by kernel_rfl))
  t3 := Try.underlying3
  a3 := Try.isAgg3
  z3 := Try.sizeOf3
  v3 := Try.zeroValue3
  t4 := Try.underlying4
  a4 := Try.isAgg4
  z4 := Try.sizeOf4
  v4 := Try.zeroValue4
  t5 := Try.underlying5
  a5 := Try.isAgg5
  z5 := Try.sizeOf5
  v5 := Try.zeroValue5
  t9 := Try.underlying9
  a9 := Try.isAgg9
  z9 := Try.sizeOf9
  v9 := Try.zeroValue9
  t46 := Try.underlying56
  a46 := Try.isAgg56
  z46 := Try.sizeOf56
  v46 := Try.zeroValue56
  t51 := Try.underlying66
  a51 := Try.isAgg66
  z51 := Try.sizeOf66
  v51 := Try.zeroValue66 }
 
theorem Try.bits_Len32 (x : Int) (w : World) (h0 : 0 ≤ x) (h1 : x ≤ 4294967295) :
    Calls Try.prog 46 #[.int .u32 x] w fun e w' => e = .returned (.int .i64 (Lib.bitLen x.toNat)) ∧ w' = w := Any.bits_Len32 Try.lays128 x w h0 h1
def Try.lays125_ren : Go.Shelf.Ren := ⟨fun | 125 => 35 | 128 => 46 | 129 => 47 | n => n, fun | 46 => 56 | 3 => 3 | 51 => 66 | 53 => 68 | 4 => 4 | 5 => 5 | 9 => 9 | n => n, fun | n => n⟩
theorem Try.lays125 : Go.Proofs.Lays.n125 Try.prog Try.lays125_ren := {
  mixed := by kernel_rfl
  f125 := Try.func35.trans (congrArg some (by kernel_rfl))
  f128 := Try.func46.trans (congrArg some (by kernel_rfl))
  f129 := Try.func47.trans (congrArg some (by kernel_rfl))
  t3 := Try.underlying3
  a3 := Try.isAgg3
  z3 := Try.sizeOf3
  v3 := Try.zeroValue3
  t4 := Try.underlying4
  a4 := Try.isAgg4
  z4 := Try.sizeOf4
  v4 := Try.zeroValue4
  t5 := Try.underlying5
  a5 := Try.isAgg5
  z5 := Try.sizeOf5
  v5 := Try.zeroValue5
  t9 := Try.underlying9
  a9 := Try.isAgg9
  z9 := Try.sizeOf9
  v9 := Try.zeroValue9
  t46 := Try.underlying56
  a46 := Try.isAgg56
  z46 := Try.sizeOf56
  v46 := Try.zeroValue56
  t51 := Try.underlying66
  a51 := Try.isAgg66
  z51 := Try.sizeOf66
  v51 := Try.zeroValue66
  t53 := Try.underlying68
  a53 := Try.isAgg68
  z53 := Try.sizeOf68
  v53 := Try.zeroValue68 }
 
theorem Try.bits_Len (x : Int) (w : World) (h0 : 0 ≤ x) (h1 : x ≤ 18446744073709551615) :
    Calls Try.prog 35 #[.int .u64 x] w fun e w' => e = .returned (.int .i64 (Lib.bitLen x.toNat)) ∧ w' = w := Any.bits_Len Try.lays125 x w h0 h1
def Try.lays129_ren : Go.Shelf.Ren := ⟨fun | 129 => 47 | n => n, fun | 53 => 68 | 3 => 3 | 4 => 4 | 46 => 56 | 5 => 5 | 9 => 9 | n => n, fun | n => n⟩
theorem Try.lays129 : Go.Proofs.Lays.n129 Try.prog Try.lays129_ren := {
  mixed := by kernel_rfl
  f129 := Try.func47.trans (congrArg some (by kernel_rfl))
  t3 := Try.underlying3
  a3 := Try.isAgg3
  z3 := Try.sizeOf3
  v3 := Try.zeroValue3
  t4 := Try.underlying4
  a4 := Try.isAgg4
  z4 := Try.sizeOf4
  v4 := Try.zeroValue4
  t5 := Try.underlying5
  a5 := Try.isAgg5
  z5 := Try.sizeOf5
  v5 := Try.zeroValue5
  t9 := Try.underlying9
  a9 := Try.isAgg9
  z9 := Try.sizeOf9
  v9 := Try.zeroValue9
  t46 := Try.underlying56
  a46 := Try.isAgg56
  z46 := Try.sizeOf56
  v46 := Try.zeroValue56
  t53 := Try.underlying68
  a53 := Try.isAgg68
  z53 := Try.sizeOf68
  v53 := Try.zeroValue68 }
 
theorem Try.bits_Len64 (x : Int) (w : World) (h0 : 0 ≤ x) (h1 : x ≤ 18446744073709551615) :
    Calls Try.prog 47 #[.int .u64 x] w fun e w' => e = .returned (.int .i64 (Lib.bitLen x.toNat)) ∧ w' = w := Any.bits_Len64 Try.lays129 x w h0 h1
def Try.lays190_ren : Go.Shelf.Ren := ⟨fun | 190 => 27 | 125 => 35 | 258 => 34 | 128 => 46 | 129 => 47 | 302 => 38 | 303 => 39 | 304 => 40 | 305 => 41 | 306 => 42 | 307 => 43 | 308 => 36 | 309 => 44 | 310 => 45 | 333 => 49 | 329 => 50 | 330 => 51 | 334 => 52 | 335 => 53 | 336 => 48 | 344 => 54 | n => n, fun | 31 => 22 | 9 => 9 | 3 => 3 | 46 => 56 | 0 => 0 | 51 => 66 | 53 => 68 | 4 => 4 | 183 => 60 | 182 => 59 | 131 => 47 | 5 => 5 | 218 => 69 | 222 => 73 | 228 => 75 | 229 => 33 | n => n, fun | n => n⟩
theorem Try.lays190 : Go.Proofs.Lays.n190 Try.prog Try.lays190_ren := {
  mixed := by kernel_rfl
  f125 := Try.func35.trans (congrArg some (by kernel_rfl))
  f128 := Try.func46.trans (congrArg some (by kernel_rfl))
  f129 := Try.func47.trans (congrArg some (by kernel_rfl))
  f190 := Try.func27.trans (congrArg some (by kernel_rfl))
  f258 := Try.func34.trans (congrArg some (by kernel_rfl))
  f302 := Try.func38.trans (congrArg some (by kernel_rfl))
  f303 := Try.func39.trans (congrArg some (by kernel_rfl))
  f304 := Try.func40.trans (congrArg some (by kernel_rfl))
  f305 := Try.func41.trans (congrArg some (by kernel_rfl))
  f306 := Try.func42.trans (congrArg some (by kernel_rfl))
  f307 := Try.func43.trans (congrArg some (by kernel_rfl))
  f308 := Try.func36.trans (congrArg some (by kernel_rfl))
  f309 := Try.func44.trans (congrArg some (by kernel_rfl))
  f310 := Try.func45.trans (congrArg some (by kernel_rfl))
  f329 := Try.func50.trans (congrArg some (by kernel_rfl))
  f330 := Try.func51.trans (congrArg some (by kernel_rfl))
  f333 := Try.func49.trans (congrArg some (by kernel_rfl))
  f334 := Try.func52.trans (congrArg some (by kernel_rfl))
  f335 := Try.func53.trans (congrArg some (by kernel_rfl))
  f336 := Try.func48.trans (congrArg some (by kernel_rfl))
  f344 := Try.func54.trans (congrArg some (by kernel_rfl))
  t0 := Try.underlying0
  a0 := Try.isAgg0
  z0 := Try.sizeOf0
  v0 := Try.zeroValue0
  t3 := Try.underlying3
  a3 := Try.isAgg3
  z3 := Try.sizeOf3
  v3 := Try.zeroValue3
  t4 := Try.underlying4
  a4 := Try.isAgg4
  z4 := Try.sizeOf4
  v4 := Try.zeroValue4
  t5 := Try.underlying5
  a5 := Try.isAgg5
  z5 := Try.sizeOf5
  v5 := Try.zeroValue5
  t9 := Try.underlying9
  a9 := Try.isAgg9
  z9 := Try.sizeOf9
  v9 := Try.zeroValue9
  t31 := Try.underlying22
  a31 := Try.isAgg22
  z31 := Try.sizeOf22
  v31 := Try.zeroValue22
  t46 := Try.underlying56
  a46 := Try.isAgg56
  z46 := Try.sizeOf56
  v46 := Try.zeroValue56
  t51 := Try.underlying66
  a51 := Try.isAgg66
  z51 := Try.sizeOf66
  v51 := Try.zeroValue66
  t53 := Try.underlying68
  a53 := Try.isAgg68
  z53 := Try.sizeOf68
  v53 := Try.zeroValue68
  t131 := Try.underlying47
  a131 := Try.isAgg47
  z131 := Try.sizeOf47
  v131 := Try.zeroValue47
  t182 := Try.underlying59
  a182 := Try.isAgg59
  z182 := Try.sizeOf59
  v182 := Try.zeroValue59
  t183 := Try.underlying60
  a183 := Try.isAgg60
  z183 := Try.sizeOf60
  v183 := Try.zeroValue60
  t218 := Try.underlying69
  a218 := Try.isAgg69
  z218 := Try.sizeOf69
  v218 := Try.zeroValue69
  t222 := Try.underlying73
  a222 := Try.isAgg73
  z222 := Try.sizeOf73
  v222 := Try.zeroValue73
  t228 := Try.underlying75
  a228 := Try.isAgg75
  z228 := Try.sizeOf75
  v228 := Try.zeroValue75
  t229 := Try.underlying33
  a229 := Try.isAgg33
  z229 := Try.sizeOf33
  v229 := Try.zeroValue33 }
open Go.Sort Go.RowKit in
theorem Try.slices_Sort_string (blk off cap : Nat) (ss : List (List UInt8)) (w : World) (hH : Holds encStr w blk off ss.toArray) (hblk : blk < w.heap.size) (hsz : ss.length < 4611686018427387904) :
    Calls Try.prog 27 #[.slice (some ⟨blk, off, none⟩) ss.length cap] w fun e w' =>
      e = .returned (.tuple #[]) ∧ ∃ n os, w' = grow (putRow encStr (Sort.ahead w n) blk off (ss.mergeSort fun x y => decide (x ≤ y)).toArray) os := Any.slices_Sort_string Try.lays190 blk off cap ss w hH hblk hsz
def Try.lays194_ren : Go.Shelf.Ren := ⟨fun | 194 => 28 | n => n, fun | 31 => 22 | 9 => 9 | 3 => 3 | 4 => 4 | 0 => 0 | n => n, fun | n => n⟩
theorem Try.lays194 : Go.Proofs.Lays.n194 Try.prog Try.lays194_ren := {
  mixed := by kernel_rfl
  f194 := Try.func28.trans (congrArg some (by kernel_rfl))
  t0 := Try.underlying0
  a0 := Try.isAgg0
  z0 := Try.sizeOf0
  v0 := Try.zeroValue0
  t3 := Try.underlying3
  a3 := Try.isAgg3
  z3 := Try.sizeOf3
  v3 := Try.zeroValue3
  t4 := Try.underlying4
  a4 := Try.isAgg4
  z4 := Try.sizeOf4
  v4 := Try.zeroValue4
  t9 := Try.underlying9
  a9 := Try.isAgg9
  z9 := Try.sizeOf9
  v9 := Try.zeroValue9
  t31 := Try.underlying22
  a31 := Try.isAgg22
  z31 := Try.sizeOf22
  v31 := Try.zeroValue22 }
open Go.RowKit Go.Lib Go.Sort in
 
theorem Try.slices_Compact_string_arr (blk off cap : Nat) (d : Array (List UInt8)) (w : World) (hH : Holds encStr w blk off d) (hsz : d.size ≤ 9223372036854775807) (hcap : d.size ≤ cap) :
    Calls Try.prog 28 #[.slice (some ⟨blk, off, none⟩) d.size cap] w fun e w' => e = .returned (.slice (some ⟨blk, off, none⟩) (compactUpTo d d.size).length cap) ∧ ∃ q, w' = putRow encStr (Sort.ahead w q) blk off (compactUpTo d d.size ++ List.replicate (d.size - (compactUpTo d d.size).length) []).toArray := Any.slices_Compact_string_arr Try.lays194 blk off cap d w hH hsz hcap
open Go.RowKit Go.Lib Go.Sort in
 
theorem Try.slices_Compact_string (blk off cap : Nat) (zs : List (List UInt8)) (w : World) (hH : Holds encStr w blk off zs.toArray) (hsz : zs.length ≤ 9223372036854775807) (hcap : zs.length ≤ cap) :
    Calls Try.prog 28 #[.slice (some ⟨blk, off, none⟩) zs.length cap] w fun e w' => e = .returned (.slice (some ⟨blk, off, none⟩) (Lib.compact zs).length cap) ∧ ∃ q, w' = putRow encStr (Sort.ahead w q) blk off (Lib.compact zs ++ List.replicate (zs.length - (Lib.compact zs).length) []).toArray := Any.slices_Compact_string Try.lays194 blk off cap zs w hH hsz hcap
open Go.RowKit Go.Lib Go.Sort in
 
theorem Try.slices_Compact_string_empty (a : Option Addr) (cap : Nat) (w : World) :
    Calls Try.prog 28 #[.slice a 0 cap] w fun e w' => e = .returned (.slice a 0 cap) ∧ w' = w := Any.slices_Compact_string_empty Try.lays194 a cap w
open Go.RowKit Go.Lib Go.Sort in
 
theorem Try.slices_Compact_string_cells (b off n c : Nat) (Sx : Nat → ByteArray) (w : World) (hbig : n ≤ 9223372036854775807) (hcap : n ≤ c) (hc : ∀ i, i < n → w.cell? ⟨b, off + i, none⟩ = some (.string (Sx i))) (hf : ∀ j, j < n → w.frozen? ⟨b, off + j, none⟩ = false) :
    Calls Try.prog 28 #[.slice (some ⟨b, off, none⟩) n c] w fun e w' => e = .returned (.slice (some ⟨b, off, none⟩) (Lib.compact (Lib.strsOf Sx n)).length c) ∧ ∃ q, w' = (w.drewN q).setCells b off ((Lib.compact (Lib.strsOf Sx n) ++ List.replicate (n - (Lib.compact (Lib.strsOf Sx n)).length) []).map encStr) := Any.slices_Compact_string_cells Try.lays194 b off n c Sx w hbig hcap hc hf
open Go.RowKit Go.Sort in
 
theorem Try.slices_Sort_string_none (p : Option Addr) (cap : Nat) (w : World) :
    Calls Try.prog 27 #[.slice p 0 cap] w fun e w' => e = .returned (.tuple #[]) ∧ w' = w := Any.slices_Sort_string_none Try.lays190 p cap w
end Go.Proofs
namespace Go.Fw
open Go Go.Proofs
set_option maxHeartbeats 10000000
set_option maxRecDepth 100000
set_option linter.constructorNameAsVariable false
set_option linter.unusedVariables false
set_option linter.unusedSimpArgs false
theorem sort_con (e : Nat) (ss : List ByteArray) (hlen : ss.length < 4611686018427387904) :
    Has Try.prog 27 [.own e 1 (ss.map D.str)] (fun rs bs => rs = [] ∧ bs = [.own e 1 ((sortS ss).map D.str)]) :=
  sort_has (fn := Try.f27) (by kernel_rfl) (by kernel_rfl) (by kernel_rfl) Try.slices_Sort_string Try.slices_Sort_string_none e ss hlen
theorem compact_con (e : Nat) (ss : List ByteArray) :
    Has Try.prog 28 [.own e 1 (ss.map D.str)] (fun rs bs => rs = [.own e 1 ((compactS ss).map D.str)] ∧ bs = [.gone]) :=
  compact_has (fn := Try.f28) (by kernel_rfl) (by kernel_rfl) (by kernel_rfl) Try.slices_Compact_string Try.slices_Compact_string_empty e ss
def M16 : FuncId → List Mode := fun g => if g = 27 then [.own] else if g = 28 then [.own] else []
theorem order_con (l : List ByteArray) (hl : l.length ≤ 1000000000) : Has Try.prog 16 [CV.d (D.sl 1 (l.map D.str))] (fun rs _ => rs = [CV.own 9 1 ((orderS l).map D.str)] ) := by
  have hb9 : Try.prog.bytesOf 9 = 16 := by kernel_rfl
  refine Has_of_run (fn := Try.f16) (M := M16) fol (by kernel_rfl) 6 noPlan [.own] [] (by kernel_rfl) (Nat.le_of_ble_eq_true rfl) ?_
  repeat' ((conv => whnf); first | (refine And.intro (fun h => ?_) (fun h => ?_) <;> (try simp only [toNat_pred, toNat_succ, toNat_addn, toNat_subn, decide_eq_true_eq, decide_eq_false_iff_not, Bool.not_eq_true', Bool.not_eq_false', List.length_map, Int.toNat_natCast, Int.not_lt, Int.not_le, Bool.not_eq_true, Bool.false_eq_true, Bool.true_eq_false, Bool.not_true, Bool.not_false, reduceCtorEq, beq_iff_eq, Bool.not_eq_eq_eq_not, bne_iff_ne, ne_eq, decide_not, Decidable.not_not, Classical.not_not, sortS_len] at h)) | refine And.intro rfl ?_ | refine And.intro (Or.inr rfl) ?_ | refine And.intro (Nat.le_of_ble_eq_true rfl) ?_ | refine And.intro ⟨rfl, rfl⟩ ?_ | refine And.intro ⟨rfl, rfl, trivial⟩ ?_ | refine And.intro (Int.natCast_nonneg _) ?_ | refine Or.inl (And.intro rfl (And.intro rfl (And.intro rfl (And.intro rfl ?_)))) | refine Or.inl (And.intro rfl (And.intro rfl ?_)) | refine Or.inr (And.intro (Nat.le_of_ble_eq_true rfl) ?_) | refine Or.inl (And.intro (by unfold in64; omega) ?_) | refine And.intro (by first | omega | (simp only [dlen, true_and, and_true, Nat.le_refl, List.length_map, List.length_append, List.length_cons, List.length_nil, List.length_take, List.length_drop, List.length_replicate, Int.toNat_natCast, List.append_nil, hb9, sortS_len] <;> omega) | fail) ?_ | refine And.intro (show elemsP _ _ _ by repeat' (first | exact rfl | exact trivial | constructor)) ?_ | (refine (may_con _).mono fun rs bs hr => ?_; subst hr) | (refine (sort_con _ _ (by omega)).mono fun rs bs hr => ?_; obtain ⟨rfl, rfl⟩ := hr) | (refine (compact_con _ _).mono fun rs bs hr => ?_; obtain ⟨rfl, rfl⟩ := hr) | (refine Loops.by (M := M16) 6 noPlan fol (by kernel_rfl) (ι := Nat) (fun i => ⟨[(3, AV.ref [3] 16 1 0 (((l.take i).filter mayD).map D.str).length), (6, AV.d (D.sl 1 (l.map D.str))), (7, AV.d (D.int .i64 l.length)), (8, AV.d (D.int .i64 i))], [([3], 16, AO.row 9 1 (((l.take i).filter mayD).map D.str))], 17⟩) (fun i => i ≤ l.length) (fun i => l.length - i) (fun i hI => ?_) (0) (Nat.zero_le _) (Forget.mk' ⟨⟨rfl, rfl⟩, ⟨rfl, rfl⟩, ⟨rfl, rfl⟩, ⟨rfl, rfl⟩, trivial⟩ ⟨⟨rfl, rfl, rfl⟩, trivial⟩ rfl rfl); have hf := filter_upto mayD l i) | (refine fun x hx => ?_; (try simp (disch := omega) only [if_true, if_false, Bool.false_eq_true, min_nn, max_nn, min_ln, min_nl, max_ln, max_nl, getD_map, take_bytes, wrap_u64, wrap_u32, shr_i64, shr_u64, shr_u32, shl_i64, shl_u64, Int.reduceToNat, Int.reducePow, Int.pow_succ, Int.pow_zero, Int.one_mul, Int.reduceMul, wrap_id, wrap_u8_nat, wrap_i64_u8, byteD_mk, map_snoc, map_app, set_map, List.length_map, List.length_append, List.length_cons, List.length_nil, Int.toNat_natCast, List.drop_zero, List.take_succ_cons, List.take_zero, List.take_length, List.nil_append, List.append_nil, Nat.zero_add, toNat_pred, toNat_succ, toNat_addn, toNat_subn, sortS_len] at hx); subst hx) | rw [List.take_length] | (rw [List.take_of_length_le]; rotate_left; (first | omega | (simp only [dlen, true_and, and_true, Nat.le_refl, List.length_map, List.length_append, List.length_cons, List.length_nil, List.length_take, List.length_drop, List.length_replicate, Int.toNat_natCast, List.append_nil, hb9, sortS_len] <;> omega) | fail)) | refine fun h => ?_ | fail); all_goals (try (conv => whnf))
  · refine ⟨i + 1, ⟨by omega, by omega⟩, ?_⟩
    rw [filter_yes (by omega) (by assumption)]
    exact (Forget.mk' ⟨⟨rfl, rfl⟩, ⟨rfl, rfl⟩, ⟨rfl, rfl⟩, ⟨rfl, rfl⟩, trivial⟩ ⟨⟨rfl, rfl, rfl⟩, trivial⟩ rfl rfl)
  · refine ⟨i + 1, ⟨by omega, by omega⟩, ?_⟩
    rw [filter_no (by omega) (by assumption)]
    exact (Forget.mk' ⟨⟨rfl, rfl⟩, ⟨rfl, rfl⟩, ⟨rfl, rfl⟩, ⟨rfl, rfl⟩, trivial⟩ ⟨⟨rfl, rfl, rfl⟩, trivial⟩ rfl rfl)
  · rw [List.take_of_length_le (i := i) (l := l) (by omega), order_eq]
theorem awake_con : Has Try.prog 9 [] (fun rs _ => rs = [CV.d (D.bool true)]) := by
  refine Has_of_run (fn := Try.f9) (M := M0) fol (by kernel_rfl) 6 noPlan [] [] (by kernel_rfl) (Nat.le_of_ble_eq_true rfl) ?_
  repeat' ((conv => whnf); first | (refine And.intro (fun h => ?_) (fun h => ?_) <;> (try simp only [toNat_pred, toNat_succ, toNat_addn, toNat_subn, decide_eq_true_eq, decide_eq_false_iff_not, Bool.not_eq_true', Bool.not_eq_false', List.length_map, Int.toNat_natCast, Int.not_lt, Int.not_le, Bool.not_eq_true, Bool.false_eq_true, Bool.true_eq_false, Bool.not_true, Bool.not_false, reduceCtorEq, beq_iff_eq, Bool.not_eq_eq_eq_not, bne_iff_ne, ne_eq, decide_not, Decidable.not_not, Classical.not_not] at h)) | refine And.intro rfl ?_ | refine And.intro (Or.inr rfl) ?_ | refine And.intro (Nat.le_of_ble_eq_true rfl) ?_ | refine And.intro ⟨rfl, rfl⟩ ?_ | refine And.intro ⟨rfl, rfl, trivial⟩ ?_ | refine And.intro (Int.natCast_nonneg _) ?_ | refine Or.inl (And.intro rfl (And.intro rfl (And.intro rfl (And.intro rfl ?_)))) | refine Or.inl (And.intro rfl (And.intro rfl ?_)) | refine Or.inr (And.intro (Nat.le_of_ble_eq_true rfl) ?_) | refine Or.inl (And.intro (by unfold in64; omega) ?_) | refine And.intro (by first | omega | (simp only [dlen, true_and, and_true, Nat.le_refl, List.length_map, List.length_append, List.length_cons, List.length_nil, List.length_take, List.length_drop, List.length_replicate, Int.toNat_natCast, List.append_nil] <;> omega) | fail) ?_ | refine And.intro (show elemsP _ _ _ by repeat' (first | exact rfl | exact trivial | constructor)) ?_ | (refine (put_con [_, _]).mono fun rs bs hr => ?_; rw [if_pos (by decide +kernel)] at hr; subst hr) | (refine (right_con [_, _]).mono fun rs bs hr => ?_; subst hr) | (refine (order_con [_, _, _] (by decide)).mono fun rs bs hr => ?_; rw [order_bab] at hr; subst hr) | (refine (longest_con [_, _] _ (by decide) rises_ab).mono fun rs bs hr => ?_; replace hr := found_unique rises_ab hr found_ab; subst hr) | (refine And.intro (by decide +kernel) ?_) | (refine fun x hx => ?_; (try simp (disch := omega) only [if_true, if_false, Bool.false_eq_true, min_nn, max_nn, min_ln, min_nl, max_ln, max_nl, getD_map, take_bytes, wrap_u64, wrap_u32, shr_i64, shr_u64, shr_u32, shl_i64, shl_u64, Int.reduceToNat, Int.reducePow, Int.pow_succ, Int.pow_zero, Int.one_mul, Int.reduceMul, wrap_id, wrap_u8_nat, wrap_i64_u8, byteD_mk, map_snoc, map_app, set_map, List.length_map, List.length_append, List.length_cons, List.length_nil, Int.toNat_natCast, List.drop_zero, List.take_succ_cons, List.take_zero, List.take_length, List.nil_append, List.append_nil, Nat.zero_add, toNat_pred, toNat_succ, toNat_addn, toNat_subn] at hx); subst hx) | rw [List.take_length] | (rw [List.take_of_length_le]; rotate_left; (first | omega | (simp only [dlen, true_and, and_true, Nat.le_refl, List.length_map, List.length_append, List.length_cons, List.length_nil, List.length_take, List.length_drop, List.length_replicate, Int.toNat_natCast, List.append_nil] <;> omega) | fail)) | refine fun h => ?_ | fail); all_goals (try (conv => whnf))
  all_goals first | exact rb rfl | exact absurd ‹rightS _ = false› (by decide +kernel) | exact absurd trivial ‹¬True› | exact absurd awake_str ‹_›
theorem symbolPuts_con (t : List ByteArray) : Has Try.prog 3 [CV.d (D.sl 1 (t.map D.str))] (fun rs _ => rs = [CV.d (D.bool true)]) := by
  refine Has_of_run (fn := Try.f3) (M := M0) fol (by kernel_rfl) 5 noPlan [] [] (by kernel_rfl) (Nat.le_of_ble_eq_true rfl) ?_
  repeat' ((conv => whnf); first | (refine And.intro (fun h => ?_) (fun h => ?_) <;> (try simp only [toNat_pred, toNat_succ, toNat_addn, toNat_subn, decide_eq_true_eq, decide_eq_false_iff_not, Bool.not_eq_true', Bool.not_eq_false', List.length_map, Int.toNat_natCast, Int.not_lt, Int.not_le, Bool.not_eq_true, Bool.false_eq_true, Bool.true_eq_false, Bool.not_true, Bool.not_false, reduceCtorEq, beq_iff_eq, Bool.not_eq_eq_eq_not, bne_iff_ne, ne_eq, decide_not, Decidable.not_not, Classical.not_not] at h)) | refine And.intro rfl ?_ | refine And.intro (Or.inr rfl) ?_ | refine And.intro (Nat.le_of_ble_eq_true rfl) ?_ | refine And.intro ⟨rfl, rfl⟩ ?_ | refine And.intro ⟨rfl, rfl, trivial⟩ ?_ | refine And.intro (Int.natCast_nonneg _) ?_ | refine Or.inl (And.intro rfl (And.intro rfl (And.intro rfl (And.intro rfl ?_)))) | refine Or.inl (And.intro rfl (And.intro rfl ?_)) | refine Or.inr (And.intro (Nat.le_of_ble_eq_true rfl) ?_) | refine Or.inl (And.intro (by unfold in64; omega) ?_) | refine And.intro (by first | omega | (simp only [dlen, true_and, and_true, Nat.le_refl, List.length_map, List.length_append, List.length_cons, List.length_nil, List.length_take, List.length_drop, List.length_replicate, Int.toNat_natCast, List.append_nil] <;> omega) | fail) ?_ | refine And.intro (show elemsP _ _ _ by repeat' (first | exact rfl | exact trivial | constructor)) ?_ | (refine awake_con.mono fun rs bs hr => ?_; subst hr) | (refine (few_con _).mono fun rs bs hr => ?_; subst hr) | (refine (right_con _).mono fun rs bs hr => ?_; subst hr) | (refine (rightRef_con _).mono fun rs bs hr => ?_; subst hr) | (refine (putRef_con _ (right_at ‹_›).1 (right_size ‹_›)).mono fun rs bs hr => ?_; subst hr) | (refine (put_con _).mono fun rs bs hr => ?_; have hcs := Bool.eq_false_or_eq_true (rightS t); rcases hcs with hR | hR <;> first | (rw [if_pos hR] at hr; subst hr) | (rw [if_neg (by simp [hR])] at hr; subst hr) | fail) | (refine (same01_con _ _).mono fun rs bs hr => ?_; subst hr) | (refine fun x hx => ?_; (try simp (disch := omega) only [if_true, if_false, Bool.false_eq_true, min_nn, max_nn, min_ln, min_nl, max_ln, max_nl, getD_map, take_bytes, wrap_u64, wrap_u32, shr_i64, shr_u64, shr_u32, shl_i64, shl_u64, Int.reduceToNat, Int.reducePow, Int.pow_succ, Int.pow_zero, Int.one_mul, Int.reduceMul, wrap_id, wrap_u8_nat, wrap_i64_u8, byteD_mk, map_snoc, map_app, set_map, List.length_map, List.length_append, List.length_cons, List.length_nil, Int.toNat_natCast, List.drop_zero, List.take_succ_cons, List.take_zero, List.take_length, List.nil_append, List.append_nil, Nat.zero_add, toNat_pred, toNat_succ, toNat_addn, toNat_subn] at hx); subst hx) | rw [List.take_length] | (rw [List.take_of_length_le]; rotate_left; (first | omega | (simp only [dlen, true_and, and_true, Nat.le_refl, List.length_map, List.length_append, List.length_cons, List.length_nil, List.length_take, List.length_drop, List.length_replicate, Int.toNat_natCast, List.append_nil] <;> omega) | fail)) | refine fun h => ?_ | fail); all_goals (try (conv => whnf))
  all_goals first | exact rb rfl | (exfalso; simp_all; done) | (exact rb (decide_eq_true (putB_len ‹_›))) | fail
theorem symbolPuts_law (xs : List D) (h : HasTs Try.prog Try.f3.params.toList xs) : Has Try.prog 3 (xs.map CV.d) (fun rs _ => rs = [.d (.bool true)]) := by
  obtain ⟨x, rfl, h1⟩ := one_arg h
  obtain ⟨l, rfl, _, _⟩ := h1.asStrs (e := 9) (by kernel_rfl) (by kernel_rfl) (by kernel_rfl)
  exact symbolPuts_con l
end Go.Fw
namespace Go.Fw
open Go
set_option linter.unusedVariables false
set_option linter.unusedSimpArgs false
def Cand (o : List ByteArray) (s : ByteArray) : Prop := mayD s = true ∧ (o.length = 0 ∨ slt (o.getD (o.length - 1) default) s = true)
def emp : ByteArray := ⟨#[]⟩
def Best (l o : List ByteArray) (i : Nat) (b : ByteArray) : Prop :=
  (b = ⟨#[]⟩ ∧ ∀ j, j < i → ¬ Cand o (l.getD j default)) ∨ (Cand o b ∧ b ∈ l ∧ ∀ j, j < i → Cand o (l.getD j default) → slt (l.getD j default) b = false)
theorem mayD_iff {s : ByteArray} : mayD s = true ↔ 1 ≤ s.size ∧ s.size ≤ 8 := by simp [mayD]
theorem best_size {l o : List ByteArray} {i : Nat} {b : ByteArray} (h : Best l o i b) : b.size ≤ 8 := by
  rcases h with ⟨rfl, _⟩ | ⟨h, _⟩
  · decide
  · exact (mayD_iff.1 h.1).2
theorem best_skip {l o : List ByteArray} {i : Nat} {b : ByteArray} (h : Best l o i b) (hc : ¬ Cand o (l.getD i default)) : Best l o (i + 1) b := by
  rcases h with ⟨e, h⟩ | ⟨h1, h2, h3⟩
  · exact .inl ⟨e, upto_succ h hc⟩
  · exact .inr ⟨h1, h2, upto_succ h3 fun hc' => absurd hc' hc⟩
theorem best_keep {l o : List ByteArray} {i : Nat} {b : ByteArray} (h : Best l o i b) (hb : ¬ b = ⟨#[]⟩) (hs : slt (l.getD i default) b = false) : Best l o (i + 1) b := by
  rcases h with ⟨e, h⟩ | ⟨h1, h2, h3⟩
  · exact absurd e hb
  · exact .inr ⟨h1, h2, upto_succ h3 fun _ => hs⟩
theorem best_take {l o : List ByteArray} {i : Nat} {b : ByteArray} (h : Best l o i b) (hi : i < l.length) (hc : Cand o (l.getD i default)) (hb : b = ⟨#[]⟩ ∨ slt (l.getD i default) b = true) : Best l o (i + 1) (l.getD i default) := by
  refine .inr ⟨hc, getD_mem hi, upto_succ (fun j hj hcj => ?_) fun _ => slt_irrefl _⟩
  rcases h with ⟨e, h⟩ | ⟨h1, h2, h3⟩
  · exact absurd hcj (h j hj)
  · rcases hb with rfl | hb
    · have := (mayD_iff.1 h1.1).1
      exact absurd this (by decide)
    · refine Bool.eq_false_iff.2 fun hs => ?_
      have := slt_trans hs hb
      rw [h3 j hj hcj] at this
      cases this
theorem cmp_gt {a b : ByteArray} (h : 0 < cmpS a b) : slt b a = true := by
  refine (Bool.eq_false_or_eq_true _).resolve_right fun h1 => ?_
  simp only [cmpS, h1, Bool.false_eq_true, if_false] at h
  split at h <;> omega
theorem cmp_le {a b : ByteArray} (h : cmpS a b ≤ 0) : slt b a = false := by
  refine Bool.eq_false_iff.2 fun h1 => ?_
  simp only [cmpS, slt_asymm h1, h1, Bool.false_eq_true, if_false, if_true] at h
  omega
theorem cand_of {o : List ByteArray} {s : ByteArray} (h1 : 1 ≤ s.size) (h8 : s.size ≤ 8) (h : o.length = 0 ∨ 0 < cmpS s (o.getD (o.length - 1) default)) : Cand o s := ⟨mayD_iff.2 ⟨h1, h8⟩, h.imp id cmp_gt⟩
theorem cand_not {o : List ByteArray} {s : ByteArray} (h : s.size < 1 ∨ 8 < s.size ∨ (o.length ≠ 0 ∧ cmpS s (o.getD (o.length - 1) default) ≤ 0)) : ¬ Cand o s := fun hc => by
  have := mayD_iff.1 hc.1
  rcases h with h | h | ⟨h, h'⟩
  · omega
  · omega
  · rcases hc.2 with h0 | hs
    · exact h h0
    · rw [cmp_le h'] at hs
      cases hs
 
def Tab0 (l : List ByteArray) : List ByteArray := tidy (l.filter mayD)
theorem tab0_mem (l : List ByteArray) (s : ByteArray) : s ∈ Tab0 l ↔ s ∈ l ∧ mayD s = true := by
  rw [Tab0, (tidy_spec _).2, List.mem_filter]
theorem tab0_rises (l : List ByteArray) : Rises (Tab0 l) := (tidy_spec _).1
theorem orderS_eq (l : List ByteArray) : orderS l = (Tab0 l).take 255 := rfl
theorem take_last {T o : List ByteArray} (ho : o = T.take o.length) (hn : 0 < o.length) : o.length ≤ T.length ∧ o.getD (o.length - 1) default = T.getD (o.length - 1) default := by
  have hl : o.length ≤ T.length := by
    have := congrArg List.length ho
    simp at this
    omega
  refine ⟨hl, ?_⟩
  have : (T.take o.length).getD (o.length - 1) default = T.getD (o.length - 1) default := by
    simp only [List.getD_eq_getElem?_getD, List.getElem?_take]
    rw [if_pos (by omega)]
  rw [← ho] at this
  exact this
theorem take_len {T o : List ByteArray} (ho : o = T.take o.length) : o.length ≤ T.length := by
  have := congrArg List.length ho
  simp at this
  omega
theorem last_size {l o : List ByteArray} (ho : o = (Tab0 l).take o.length) : o.length = 0 ∨ (o.getD (o.length - 1) default).size ≤ 8 := by
  by_cases h0 : o.length = 0
  · exact .inl h0
  · right
    have hl := take_len ho
    rw [(take_last ho (by omega)).2]
    exact (mayD_iff.1 ((tab0_mem l _).1 (getD_mem (by omega))).2).2
theorem best_none {l o : List ByteArray} (ho : o = (Tab0 l).take o.length) (h : Best l o l.length ⟨#[]⟩) : o = Tab0 l := by
  have hl := take_len ho
  rcases Nat.lt_or_ge o.length (Tab0 l).length with hlt | hge
  · exfalso
    have hm := getD_mem hlt
    obtain ⟨h1, h2⟩ := (tab0_mem l _).1 hm
    have hc : Cand o ((Tab0 l).getD o.length default) := by
      refine ⟨h2, ?_⟩
      by_cases h0 : o.length = 0
      · exact .inl h0
      · right
        rw [(take_last ho (by omega)).2]
        exact tab0_rises l _ _ (by omega) hlt
    obtain ⟨j, hj, e⟩ := List.mem_iff_getElem.1 h1
    have ej : l.getD j default = (Tab0 l).getD o.length default := by
      rw [List.getD_eq_getElem?_getD, List.getElem?_eq_getElem hj]; exact e
    rcases h with ⟨_, h⟩ | ⟨h, _⟩
    · exact h j hj (by rw [ej]; exact hc)
    · exact absurd (mayD_iff.1 h.1).1 (by decide)
  · rw [List.take_of_length_le hge] at ho
    exact ho
theorem best_next {l o : List ByteArray} {b : ByteArray} (ho : o = (Tab0 l).take o.length) (hb : ¬ b = ⟨#[]⟩) (h : Best l o l.length b) : o ++ [b] = (Tab0 l).take (o ++ [b]).length := by
  have hl := take_len ho
  rcases h with ⟨e, _⟩ | ⟨hc, hm, hmin⟩
  · exact absurd e hb
  · have hbT := (tab0_mem l b).2 ⟨hm, hc.1⟩
    obtain ⟨k, hk, ek⟩ := List.mem_iff_getElem.1 hbT
    have ek' : (Tab0 l).getD k default = b := by rw [List.getD_eq_getElem?_getD, List.getElem?_eq_getElem hk]; exact ek
    have hkn : o.length ≤ k := by
      rcases hc.2 with h0 | hs
      · omega
      · by_cases h0 : o.length = 0
        · omega
        · refine Nat.le_of_not_lt fun hlt => ?_
          rw [(take_last ho (by omega)).2, ← ek'] at hs
          by_cases e : k = o.length - 1
          · rw [e, slt_irrefl] at hs; cases hs
          · have := tab0_rises l k (o.length - 1) (by omega) (by omega)
            rw [slt_asymm this] at hs
            cases hs
    have hlt : o.length < (Tab0 l).length := by omega
    have e : k = o.length := by
      refine Classical.byContradiction fun hne => ?_
      obtain ⟨h1, h2⟩ := (tab0_mem l _).1 (getD_mem hlt)
      have hc' : Cand o ((Tab0 l).getD o.length default) := by
        refine ⟨h2, ?_⟩
        by_cases h0 : o.length = 0
        · exact .inl h0
        · right
          rw [(take_last ho (by omega)).2]
          exact tab0_rises l _ _ (by omega) hlt
      obtain ⟨j, hj, ej⟩ := List.mem_iff_getElem.1 h1
      have ej' : l.getD j default = (Tab0 l).getD o.length default := by
        rw [List.getD_eq_getElem?_getD, List.getElem?_eq_getElem hj]; exact ej
      have h3 := hmin j hj (by rw [ej']; exact hc')
      rw [ej', ← ek', tab0_rises l _ _ (by omega) hk] at h3
      cases h3
    rw [List.length_append, List.length_singleton, take_snoc hlt, ← ho, ← e, ek']
theorem take_eq_255 {l o : List ByteArray} (ho : o = (Tab0 l).take o.length) (h : 255 ≤ o.length) (h2 : o.length ≤ 255) : o = orderS l := by
  rw [orderS_eq]
  have : o.length = 255 := by omega
  rw [this] at ho
  exact ho
theorem all_255 {l : List ByteArray} {o : List ByteArray} (ho : o = Tab0 l) (h : o.length ≤ 255) : o = orderS l := by
  rw [orderS_eq, ← ho, List.take_of_length_le h]
end Go.Fw
namespace Go.Fw
open Go Go.Proofs
set_option maxHeartbeats 10000000
set_option maxRecDepth 100000
set_option linter.constructorNameAsVariable false
set_option linter.unusedVariables false
set_option linter.unusedSimpArgs false
theorem orderRef_con (l : List ByteArray) : Has Try.prog 18 [CV.d (D.sl 1 (l.map D.str))] (fun rs _ => rs = [CV.own 9 1 ((orderS l).map D.str)] ) := by
  have hb9 : Try.prog.bytesOf 9 = 16 := by kernel_rfl
  refine Has_of_run (fn := Try.f18) (M := M0) fol (by kernel_rfl) 7 noPlan [.own] [] (by kernel_rfl) (Nat.le_of_ble_eq_true rfl) ?_
  repeat' ((conv => whnf); first | (refine And.intro (fun h => ?_) (fun h => ?_) <;> (try simp only [toNat_pred, toNat_succ, toNat_addn, toNat_subn, decide_eq_true_eq, decide_eq_false_iff_not, Bool.not_eq_true', Bool.not_eq_false', List.length_map, Int.toNat_natCast, Int.not_lt, Int.not_le, Bool.not_eq_true, Bool.false_eq_true, Bool.true_eq_false, Bool.not_true, Bool.not_false, reduceCtorEq, beq_iff_eq, Bool.not_eq_eq_eq_not, bne_iff_ne, ne_eq, decide_not, Decidable.not_not, Classical.not_not] at h)) | refine And.intro rfl ?_ | refine And.intro (Or.inr rfl) ?_ | refine And.intro (Nat.le_of_ble_eq_true rfl) ?_ | refine And.intro ⟨rfl, rfl⟩ ?_ | refine And.intro ⟨rfl, rfl, trivial⟩ ?_ | refine And.intro (Int.natCast_nonneg _) ?_ | refine Or.inl (And.intro rfl (And.intro rfl (And.intro rfl (And.intro rfl ?_)))) | refine Or.inl (And.intro rfl (And.intro rfl ?_)) | refine Or.inr (And.intro (Nat.le_of_ble_eq_true rfl) ?_) | refine Or.inl (And.intro (by unfold in64; omega) ?_) | refine And.intro (by first | omega | (simp only [dlen, true_and, and_true, Nat.le_refl, List.length_map, List.length_append, List.length_cons, List.length_nil, List.length_take, List.length_drop, List.length_replicate, Int.toNat_natCast, List.append_nil, hb9] <;> omega) | fail) ?_ | refine And.intro (show elemsP _ _ _ by repeat' (first | exact rfl | exact trivial | constructor)) ?_ | (refine (compare_con _ _ (by omega) (by omega)).mono fun rs bs hr => ?_; subst hr) | (refine Loops.by (M := M0) 7 noPlan fol (by kernel_rfl) (ι := List ByteArray) (fun o => ⟨[(0, AV.d (D.sl 1 (l.map D.str))), (3, AV.ref [3] 16 1 0 (o.map D.str).length)], [([3], 16, AO.row 9 1 (o.map D.str))], 17⟩) (fun o => o = (Tab0 l).take o.length ∧ o.length ≤ 255) (fun o => 255 - o.length) (fun o hI => ?_) ([]) ⟨rfl, Nat.zero_le _⟩ (Forget.mk' ⟨⟨rfl, rfl⟩, ⟨rfl, rfl⟩, trivial⟩ ⟨⟨rfl, rfl, rfl⟩, trivial⟩ rfl rfl); obtain ⟨ho, h255⟩ := hI; have hoz := last_size ho) | (refine Loops.by (M := M0) 7 noPlan fol (by kernel_rfl) (ι := Nat × ByteArray) (fun ⟨i, b⟩ => ⟨[(0, AV.d (D.sl 1 (l.map D.str))), (3, AV.ref [3] 16 1 0 (o.map D.str).length), (4, AV.d (D.str b)), (5, AV.d (D.int .i64 i))], [([3], 16, AO.row 9 1 (o.map D.str))], 17⟩) (fun ⟨i, b⟩ => i ≤ l.length ∧ Best l o i b) (fun ⟨i, b⟩ => l.length - i) (fun p hI => ?_) ((0, ⟨#[]⟩)) ⟨Nat.zero_le _, .inl ⟨rfl, fun j h => absurd h (Nat.not_lt_zero _)⟩⟩ (Forget.mk' ⟨⟨rfl, rfl⟩, ⟨rfl, rfl⟩, ⟨rfl, rfl⟩, ⟨rfl, rfl⟩, trivial⟩ ⟨⟨rfl, rfl, rfl⟩, trivial⟩ rfl rfl); obtain ⟨i, b⟩ := p; obtain ⟨hi, hb⟩ := hI; have hbz := best_size hb) | (refine fun x hx => ?_; (try simp (disch := omega) only [if_true, if_false, Bool.false_eq_true, min_nn, max_nn, min_ln, min_nl, max_ln, max_nl, getD_map, take_bytes, wrap_u64, wrap_u32, shr_i64, shr_u64, shr_u32, shl_i64, shl_u64, Int.reduceToNat, Int.reducePow, Int.pow_succ, Int.pow_zero, Int.one_mul, Int.reduceMul, wrap_id, wrap_u8_nat, wrap_i64_u8, byteD_mk, map_snoc, map_app, set_map, List.length_map, List.length_append, List.length_cons, List.length_nil, Int.toNat_natCast, List.drop_zero, List.take_succ_cons, List.take_zero, List.take_length, List.nil_append, List.append_nil, Nat.zero_add, toNat_pred, toNat_succ, toNat_addn, toNat_subn] at hx); subst hx) | rw [List.take_length] | (rw [List.take_of_length_le]; rotate_left; (first | omega | (simp only [dlen, true_and, and_true, Nat.le_refl, List.length_map, List.length_append, List.length_cons, List.length_nil, List.length_take, List.length_drop, List.length_replicate, Int.toNat_natCast, List.append_nil, hb9] <;> omega) | fail)) | refine fun h => ?_ | fail); all_goals (try (conv => whnf))
  · exact ⟨(i + 1, _), ⟨⟨by omega, best_take hb (by omega) (cand_of (by omega) (by omega) (.inr (by assumption))) (.inr (cmp_lt (by assumption)))⟩, by show l.length - (i + 1) < l.length - i; omega⟩, (Forget.mk' ⟨⟨rfl, rfl⟩, ⟨rfl, rfl⟩, ⟨rfl, rfl⟩, ⟨rfl, rfl⟩, trivial⟩ ⟨⟨rfl, rfl, rfl⟩, trivial⟩ rfl rfl)⟩
  · exact ⟨(i + 1, _), ⟨⟨by omega, best_keep hb (by assumption) (cmp_ge (by assumption))⟩, by show l.length - (i + 1) < l.length - i; omega⟩, (Forget.mk' ⟨⟨rfl, rfl⟩, ⟨rfl, rfl⟩, ⟨rfl, rfl⟩, ⟨rfl, rfl⟩, trivial⟩ ⟨⟨rfl, rfl, rfl⟩, trivial⟩ rfl rfl)⟩
  · exact ⟨(i + 1, _), ⟨⟨by omega, best_take hb (by omega) (cand_of (by omega) (by omega) (.inr (by assumption))) (.inl (by assumption))⟩, by show l.length - (i + 1) < l.length - i; omega⟩, (Forget.mk' ⟨⟨rfl, rfl⟩, ⟨rfl, rfl⟩, ⟨rfl, rfl⟩, ⟨rfl, rfl⟩, trivial⟩ ⟨⟨rfl, rfl, rfl⟩, trivial⟩ rfl rfl)⟩
  · exact ⟨(i + 1, _), ⟨⟨by omega, best_skip hb (cand_not (.inr (.inr ⟨by omega, by assumption⟩)))⟩, by show l.length - (i + 1) < l.length - i; omega⟩, (Forget.mk' ⟨⟨rfl, rfl⟩, ⟨rfl, rfl⟩, ⟨rfl, rfl⟩, ⟨rfl, rfl⟩, trivial⟩ ⟨⟨rfl, rfl, rfl⟩, trivial⟩ rfl rfl)⟩
  · exact ⟨(i + 1, _), ⟨⟨by omega, best_take hb (by omega) (cand_of (by omega) (by omega) (.inl (by omega))) (.inr (cmp_lt (by assumption)))⟩, by show l.length - (i + 1) < l.length - i; omega⟩, (Forget.mk' ⟨⟨rfl, rfl⟩, ⟨rfl, rfl⟩, ⟨rfl, rfl⟩, ⟨rfl, rfl⟩, trivial⟩ ⟨⟨rfl, rfl, rfl⟩, trivial⟩ rfl rfl)⟩
  · exact ⟨(i + 1, _), ⟨⟨by omega, best_keep hb (by assumption) (cmp_ge (by assumption))⟩, by show l.length - (i + 1) < l.length - i; omega⟩, (Forget.mk' ⟨⟨rfl, rfl⟩, ⟨rfl, rfl⟩, ⟨rfl, rfl⟩, ⟨rfl, rfl⟩, trivial⟩ ⟨⟨rfl, rfl, rfl⟩, trivial⟩ rfl rfl)⟩
  · exact ⟨(i + 1, _), ⟨⟨by omega, best_take hb (by omega) (cand_of (by omega) (by omega) (.inl (by omega))) (.inl (by assumption))⟩, by show l.length - (i + 1) < l.length - i; omega⟩, (Forget.mk' ⟨⟨rfl, rfl⟩, ⟨rfl, rfl⟩, ⟨rfl, rfl⟩, ⟨rfl, rfl⟩, trivial⟩ ⟨⟨rfl, rfl, rfl⟩, trivial⟩ rfl rfl)⟩
  · exact ⟨(i + 1, _), ⟨⟨by omega, best_skip hb (cand_not (.inr (.inl (by omega))))⟩, by show l.length - (i + 1) < l.length - i; omega⟩, (Forget.mk' ⟨⟨rfl, rfl⟩, ⟨rfl, rfl⟩, ⟨rfl, rfl⟩, ⟨rfl, rfl⟩, trivial⟩ ⟨⟨rfl, rfl, rfl⟩, trivial⟩ rfl rfl)⟩
  · exact ⟨(i + 1, _), ⟨⟨by omega, best_skip hb (cand_not (.inl (by omega)))⟩, by show l.length - (i + 1) < l.length - i; omega⟩, (Forget.mk' ⟨⟨rfl, rfl⟩, ⟨rfl, rfl⟩, ⟨rfl, rfl⟩, ⟨rfl, rfl⟩, trivial⟩ ⟨⟨rfl, rfl, rfl⟩, trivial⟩ rfl rfl)⟩
  · subst h
    rw [all_255 (best_none ho (by rwa [show i = l.length by omega] at hb)) h255]
  · exact ⟨o ++ [b], ⟨⟨best_next ho (by assumption) (by rwa [show i = l.length by omega] at hb), by simp; omega⟩, by simp; omega⟩, (Forget.mk' ⟨⟨rfl, rfl⟩, ⟨rfl, rfl⟩, trivial⟩ ⟨⟨rfl, rfl, rfl⟩, trivial⟩ rfl rfl)⟩
  · rw [take_eq_255 ho (by omega) h255]
end Go.Fw
namespace Go.Fw
open Go
set_option linter.unusedVariables false
set_option linter.unusedSimpArgs false
theorem size_extract {x : ByteArray} {m : Nat} (h : m ≤ x.size) : (x.extract 0 m).size = m := by
  rw [ByteArray.size_extract]; omega
def LongUpTo (t : List ByteArray) (x : ByteArray) (i : Nat) (c : Int) (n : Nat) : Prop :=
  ((c = -1 ∧ n = 0) ∨ ∃ k : Nat, c = k ∧ k < t.length ∧ n = (t.getD k default).size ∧ 0 < n ∧ n ≤ x.size ∧ t.getD k default = x.extract 0 n) ∧
  ∀ j, j < i → (t.getD j default).size ≤ x.size → t.getD j default = x.extract 0 (t.getD j default).size → (t.getD j default).size ≤ n
theorem long_nil (t : List ByteArray) (x : ByteArray) : LongUpTo t x 0 (-1) 0 := ⟨.inl ⟨rfl, rfl⟩, fun j h => absurd h (Nat.not_lt_zero _)⟩
theorem long_hit {t : List ByteArray} {x : ByteArray} {i : Nat} {c : Int} {n : Nat} (h : LongUpTo t x i c n) (hi : i < t.length) (h1 : n < (t.getD i default).size) (h2 : (t.getD i default).size ≤ x.size) (he : x.extract 0 (t.getD i default).size = t.getD i default) :
    LongUpTo t x (i + 1) i (t.getD i default).size :=
  ⟨.inr ⟨i, rfl, hi, rfl, by omega, h2, he.symm⟩, upto_succ (fun j hj a b => by have := h.2 j hj a b; omega) fun _ _ => Nat.le_refl _⟩
theorem long_miss {t : List ByteArray} {x : ByteArray} {i : Nat} {c : Int} {n : Nat} (h : LongUpTo t x i c n) (hm : (t.getD i default).size ≤ n ∨ x.size < (t.getD i default).size ∨ ¬ x.extract 0 (t.getD i default).size = t.getD i default) : LongUpTo t x (i + 1) c n :=
  ⟨h.1, upto_succ h.2 fun a b => by
    rcases hm with hm | hm | hm
    · exact hm
    · omega
    · exact absurd b.symm hm⟩
theorem long_found {t : List ByteArray} {x : ByteArray} {c : Int} {n : Nat} (h8 : ∀ s ∈ t, s.size ≤ 8) (h : LongUpTo t x t.length c n) : Found t x [.d (.int .i64 c), .d (.int .i64 n)] := by
  have hno : ∀ m, n < m → m ≤ 8 → m ≤ x.size → NoBeg t x m := fun m h1 _ h3 k hk e => by
    have hs : (t.getD k default).size = m := by rw [e, size_extract h3]
    have := h.2 k hk (by omega) (by rw [hs]; exact e)
    omega
  rcases h.1 with ⟨rfl, rfl⟩ | ⟨k, rfl, hk, hn, h0, hx, e⟩
  · exact .inr ⟨rfl, hno⟩
  · exact .inl ⟨k, n, rfl, h0, by rw [hn]; exact h8 _ (getD_mem hk), hx, hk, e, hno⟩
theorem order_size (l : List ByteArray) : ∀ s ∈ orderS l, s.size ≤ 8 := fun s hs => by
  rw [orderS_eq] at hs
  exact (mayD_iff.1 ((tab0_mem l s).1 (List.mem_of_mem_take hs)).2).2
theorem order_len (l : List ByteArray) : (orderS l).length ≤ 255 := by rw [orderS_eq]; simp; omega
theorem order_right (l : List ByteArray) : rightS (orderS l) = true := by
  refine right_good (order_len l) fun j hj => ?_
  have hm := getD_mem hj
  have hT := tab0_mem l ((orderS l).getD j default)
  have hd := (hT.1 (by rw [orderS_eq] at hm; exact List.mem_of_mem_take hm)).2
  obtain ⟨h1, h8⟩ := mayD_iff.1 hd
  refine okAt_ok h1 h8 ?_
  by_cases h0 : j = 0
  · exact .inl h0
  · exact .inr (orderS_rises l _ _ (by omega) hj)
theorem order_self (l : List ByteArray) : orderS (orderS l) = orderS l := by
  have hf : (orderS l).filter mayD = orderS l := List.filter_eq_self.2 fun s hs => by
    rw [orderS_eq] at hs
    exact ((tab0_mem l s).1 (List.mem_of_mem_take hs)).2
  have ht : Tab0 (orderS l) = orderS l := rises_unique (tab0_rises _) (orderS_rises l) fun s => by
    rw [Tab0, hf, (tidy_spec _).2]
  rw [orderS_eq (orderS l), ht, List.take_of_length_le (order_len l)]
theorem rises_of_right {t : List ByteArray} (h : rightS t = true) : Rises t := by
  have hstep : ∀ j, 0 < j → j < t.length → slt (t.getD (j - 1) default) (t.getD j default) = true := fun j h0 hj => by
    have := (right_at h).2 j hj
    simp only [okAt, Bool.and_eq_true, Bool.or_eq_true, decide_eq_true_eq] at this
    rcases this.2 with h1 | h1
    · omega
    · exact h1
  intro a b hab hb
  induction b with
  | zero => omega
  | succ b ih =>
    have h1 := hstep (b + 1) (by omega) hb
    rw [Nat.add_sub_cancel] at h1
    by_cases e : a = b
    · subst e; exact h1
    · exact slt_trans (ih (by omega) (by omega)) h1
theorem few_len {l : List ByteArray} (h : fewS l = true) : l.length ≤ 1000000000 := by
  simp only [fewS, Bool.and_eq_true, decide_eq_true_eq] at h
  omega
end Go.Fw
namespace Go.Fw
open Go Go.Proofs
set_option maxHeartbeats 10000000
set_option maxRecDepth 100000
set_option linter.constructorNameAsVariable false
set_option linter.unusedVariables false
set_option linter.unusedSimpArgs false
def pl20 : Nat → Plan
  | 6 => .take 0 .pu (.take 1 .pu (.take 2 .pu (.take 3 .rd (.take 4 .pu (.take 5 .pu (.take 6 .pu (.take 7 .pu (.take 8 .pu (.take 9 .pu (.take 10 .pu (.take 11 .rd (.take 12 .pu (.take 13 .pu (.take 14 .pu (.take 15 .pu (.take 16 .pu (.take 17 .pu (.take 18 .pu (.take 19 .pu (.take 20 .pu (.take 21 .pu (.take 22 .rd (.take 23 .pu (.take 24 .pu (.take 25 .pu (.take 26 .pu (.take 27 .pu (.take 28 .rd (.take 29 .pu (.take 30 .pu (.done)))))))))))))))))))))))))))))))
  | _ => .done
theorem longestRef_con (t : List ByteArray) (x : ByteArray) (h8 : ∀ s ∈ t, s.size ≤ 8) : Has Try.prog 20 [CV.d (D.sl 1 (t.map D.str)), CV.d (D.str x)] (fun rs _ => Found t x rs) := by
  refine Has_of_run (fn := Try.f20) (M := M0) fol (by kernel_rfl) 9 pl20 [] [] (by kernel_rfl) (Nat.le_of_ble_eq_true rfl) ?_
  repeat' ((conv => whnf); first | (refine And.intro (fun h => ?_) (fun h => ?_) <;> (try simp only [toNat_pred, toNat_succ, toNat_addn, toNat_subn, decide_eq_true_eq, decide_eq_false_iff_not, Bool.not_eq_true', Bool.not_eq_false', List.length_map, Int.toNat_natCast, Int.not_lt, Int.not_le, Bool.not_eq_true, Bool.false_eq_true, Bool.true_eq_false, Bool.not_true, Bool.not_false, reduceCtorEq, beq_iff_eq, Bool.not_eq_eq_eq_not, bne_iff_ne, ne_eq, decide_not, Decidable.not_not, Classical.not_not] at h)) | refine And.intro rfl ?_ | refine And.intro (Or.inr rfl) ?_ | refine And.intro (Nat.le_of_ble_eq_true rfl) ?_ | refine And.intro ⟨rfl, rfl⟩ ?_ | refine And.intro ⟨rfl, rfl, trivial⟩ ?_ | refine And.intro (Int.natCast_nonneg _) ?_ | refine Or.inl (And.intro rfl (And.intro rfl (And.intro rfl (And.intro rfl ?_)))) | refine Or.inl (And.intro rfl (And.intro rfl ?_)) | refine Or.inr (And.intro (Nat.le_of_ble_eq_true rfl) ?_) | refine Or.inl (And.intro (by unfold in64; omega) ?_) | refine And.intro (by first | omega | (simp only [dlen, true_and, and_true, Nat.le_refl, List.length_map, List.length_append, List.length_cons, List.length_nil, List.length_take, List.length_drop, List.length_replicate, Int.toNat_natCast, List.append_nil] <;> omega) | fail) ?_ | refine And.intro (show elemsP _ _ _ by repeat' (first | exact rfl | exact trivial | constructor)) ?_ | (refine Loops.by (M := M0) 9 pl20 fol (by kernel_rfl) (ι := Nat × Int × Nat) (fun ⟨i, c, n⟩ => ⟨[(0, AV.d (D.sl 1 (t.map D.str))), (1, AV.d (D.str x)), (6, AV.d (D.int .i64 c)), (7, AV.d (D.int .i64 n)), (8, AV.d (D.int .i64 i))], [], 16⟩) (fun ⟨i, c, n⟩ => i ≤ t.length ∧ LongUpTo t x i c n) (fun ⟨i, c, n⟩ => t.length - i) (fun p hI => ?_) ((0, -1, 0)) ⟨Nat.zero_le _, long_nil t x⟩ (Forget.mk' ⟨⟨rfl, rfl⟩, ⟨rfl, rfl⟩, ⟨rfl, rfl⟩, ⟨rfl, rfl⟩, ⟨rfl, rfl⟩, trivial⟩ trivial rfl rfl); obtain ⟨i, c, n⟩ := p; obtain ⟨hi, hb⟩ := hI) | (refine fun x hx => ?_; (try simp (disch := omega) only [if_true, if_false, Bool.false_eq_true, min_nn, max_nn, min_ln, min_nl, max_ln, max_nl, getD_map, take_bytes, wrap_u64, wrap_u32, shr_i64, shr_u64, shr_u32, shl_i64, shl_u64, Int.reduceToNat, Int.reducePow, Int.pow_succ, Int.pow_zero, Int.one_mul, Int.reduceMul, wrap_id, wrap_u8_nat, wrap_i64_u8, byteD_mk, map_snoc, map_app, set_map, List.length_map, List.length_append, List.length_cons, List.length_nil, Int.toNat_natCast, List.drop_zero, List.take_succ_cons, List.take_zero, List.take_length, List.nil_append, List.append_nil, Nat.zero_add, toNat_pred, toNat_succ, toNat_addn, toNat_subn] at hx); subst hx) | rw [List.take_length] | (rw [List.take_of_length_le]; rotate_left; (first | omega | (simp only [dlen, true_and, and_true, Nat.le_refl, List.length_map, List.length_append, List.length_cons, List.length_nil, List.length_take, List.length_drop, List.length_replicate, Int.toNat_natCast, List.append_nil] <;> omega) | fail)) | refine fun h => ?_ | fail); all_goals (try (conv => whnf))
  · exact ⟨(i + 1, i, _), ⟨⟨by omega, long_hit hb (by omega) (by omega) (by omega) (by assumption)⟩, by show t.length - (i + 1) < t.length - i; omega⟩, (Forget.mk' ⟨⟨rfl, rfl⟩, ⟨rfl, rfl⟩, ⟨rfl, rfl⟩, ⟨rfl, rfl⟩, ⟨rfl, rfl⟩, trivial⟩ trivial rfl rfl)⟩
  · exact ⟨(i + 1, c, n), ⟨⟨by omega, long_miss hb (.inr (.inr (by assumption)))⟩, by show t.length - (i + 1) < t.length - i; omega⟩, (Forget.mk' ⟨⟨rfl, rfl⟩, ⟨rfl, rfl⟩, ⟨rfl, rfl⟩, ⟨rfl, rfl⟩, ⟨rfl, rfl⟩, trivial⟩ trivial rfl rfl)⟩
  · exact ⟨(i + 1, c, n), ⟨⟨by omega, long_miss hb (.inr (.inl (by omega)))⟩, by show t.length - (i + 1) < t.length - i; omega⟩, (Forget.mk' ⟨⟨rfl, rfl⟩, ⟨rfl, rfl⟩, ⟨rfl, rfl⟩, ⟨rfl, rfl⟩, ⟨rfl, rfl⟩, trivial⟩ trivial rfl rfl)⟩
  · exact ⟨(i + 1, c, n), ⟨⟨by omega, long_miss hb (.inl (by omega))⟩, by show t.length - (i + 1) < t.length - i; omega⟩, (Forget.mk' ⟨⟨rfl, rfl⟩, ⟨rfl, rfl⟩, ⟨rfl, rfl⟩, ⟨rfl, rfl⟩, ⟨rfl, rfl⟩, trivial⟩ trivial rfl rfl)⟩
  · exact long_found h8 (by rwa [show i = t.length by omega] at hb)
theorem symbolOrders_con (l : List ByteArray) : Has Try.prog 4 [CV.d (D.sl 1 (l.map D.str))] (fun rs _ => rs = [CV.d (D.bool true)]) := by
  refine Has_of_run (fn := Try.f4) (M := M0) fol (by kernel_rfl) 4 noPlan [] [] (by kernel_rfl) (Nat.le_of_ble_eq_true rfl) ?_
  repeat' ((conv => whnf); first | (refine And.intro (fun h => ?_) (fun h => ?_) <;> (try simp only [toNat_pred, toNat_succ, toNat_addn, toNat_subn, decide_eq_true_eq, decide_eq_false_iff_not, Bool.not_eq_true', Bool.not_eq_false', List.length_map, Int.toNat_natCast, Int.not_lt, Int.not_le, Bool.not_eq_true, Bool.false_eq_true, Bool.true_eq_false, Bool.not_true, Bool.not_false, reduceCtorEq, beq_iff_eq, Bool.not_eq_eq_eq_not, bne_iff_ne, ne_eq, decide_not, Decidable.not_not, Classical.not_not] at h)) | refine And.intro rfl ?_ | refine And.intro (Or.inr rfl) ?_ | refine And.intro (Nat.le_of_ble_eq_true rfl) ?_ | refine And.intro ⟨rfl, rfl⟩ ?_ | refine And.intro ⟨rfl, rfl, trivial⟩ ?_ | refine And.intro (Int.natCast_nonneg _) ?_ | refine Or.inl (And.intro rfl (And.intro rfl (And.intro rfl (And.intro rfl ?_)))) | refine Or.inl (And.intro rfl (And.intro rfl ?_)) | refine Or.inr (And.intro (Nat.le_of_ble_eq_true rfl) ?_) | refine Or.inl (And.intro (by unfold in64; omega) ?_) | refine And.intro (by first | omega | (simp only [dlen, true_and, and_true, Nat.le_refl, List.length_map, List.length_append, List.length_cons, List.length_nil, List.length_take, List.length_drop, List.length_replicate, Int.toNat_natCast, List.append_nil] <;> omega) | fail) ?_ | refine And.intro (show elemsP _ _ _ by repeat' (first | exact rfl | exact trivial | constructor)) ?_ | (refine awake_con.mono fun rs bs hr => ?_; subst hr) | (refine (few_con _).mono fun rs bs hr => ?_; subst hr) | (refine (order_con _ (few_len ‹_›)).mono fun rs bs hr => ?_; subst hr) | (refine (order_con (orderS _) (Nat.le_trans (order_len _) (by decide))).mono fun rs bs hr => ?_; subst hr) | (refine (orderRef_con _).mono fun rs bs hr => ?_; subst hr) | (refine (same07_con _ _).mono fun rs bs hr => ?_; subst hr) | (refine (rightRef_con _).mono fun rs bs hr => ?_; subst hr) | (refine fun x hx => ?_; (try simp (disch := omega) only [if_true, if_false, Bool.false_eq_true, min_nn, max_nn, min_ln, min_nl, max_ln, max_nl, getD_map, take_bytes, wrap_u64, wrap_u32, shr_i64, shr_u64, shr_u32, shl_i64, shl_u64, Int.reduceToNat, Int.reducePow, Int.pow_succ, Int.pow_zero, Int.one_mul, Int.reduceMul, wrap_id, wrap_u8_nat, wrap_i64_u8, byteD_mk, map_snoc, map_app, set_map, List.length_map, List.length_append, List.length_cons, List.length_nil, Int.toNat_natCast, List.drop_zero, List.take_succ_cons, List.take_zero, List.take_length, List.nil_append, List.append_nil, Nat.zero_add, toNat_pred, toNat_succ, toNat_addn, toNat_subn] at hx); subst hx) | rw [List.take_length] | (rw [List.take_of_length_le]; rotate_left; (first | omega | (simp only [dlen, true_and, and_true, Nat.le_refl, List.length_map, List.length_append, List.length_cons, List.length_nil, List.length_take, List.length_drop, List.length_replicate, Int.toNat_natCast, List.append_nil] <;> omega) | fail)) | refine fun h => ?_ | fail); all_goals (try (conv => whnf))
  · exact rb (decide_eq_true (order_self l))
  · exact absurd (order_right l) (by simp_all)
  · exact absurd trivial ‹¬True›
theorem symbolOrders_law (xs : List D) (h : HasTs Try.prog Try.f4.params.toList xs) : Has Try.prog 4 (xs.map CV.d) (fun rs _ => rs = [.d (.bool true)]) := by
  obtain ⟨x, rfl, h1⟩ := one_arg h
  obtain ⟨l, rfl, _, _⟩ := h1.asStrs (e := 9) (by kernel_rfl) (by kernel_rfl) (by kernel_rfl)
  exact symbolOrders_con l
theorem symbolLongest_con (l : List ByteArray) (x : ByteArray) : Has Try.prog 5 [CV.d (D.sl 1 (l.map D.str)), CV.d (D.str x)] (fun rs _ => rs = [CV.d (D.bool true)]) := by
  refine Has_of_run (fn := Try.f5) (M := M0) fol (by kernel_rfl) 10 noPlan [] [] (by kernel_rfl) (Nat.le_of_ble_eq_true rfl) ?_
  repeat' ((conv => whnf); first | (refine And.intro (fun h => ?_) (fun h => ?_) <;> (try simp only [toNat_pred, toNat_succ, toNat_addn, toNat_subn, decide_eq_true_eq, decide_eq_false_iff_not, Bool.not_eq_true', Bool.not_eq_false', List.length_map, Int.toNat_natCast, Int.not_lt, Int.not_le, Bool.not_eq_true, Bool.false_eq_true, Bool.true_eq_false, Bool.not_true, Bool.not_false, reduceCtorEq, beq_iff_eq, Bool.not_eq_eq_eq_not, bne_iff_ne, ne_eq, decide_not, Decidable.not_not, Classical.not_not] at h)) | refine And.intro rfl ?_ | refine And.intro (Or.inr rfl) ?_ | refine And.intro (Nat.le_of_ble_eq_true rfl) ?_ | refine And.intro ⟨rfl, rfl⟩ ?_ | refine And.intro ⟨rfl, rfl, trivial⟩ ?_ | refine And.intro (Int.natCast_nonneg _) ?_ | refine Or.inl (And.intro rfl (And.intro rfl (And.intro rfl (And.intro rfl ?_)))) | refine Or.inl (And.intro rfl (And.intro rfl ?_)) | refine Or.inr (And.intro (Nat.le_of_ble_eq_true rfl) ?_) | refine Or.inl (And.intro (by unfold in64; omega) ?_) | refine And.intro (by first | omega | (simp only [dlen, true_and, and_true, Nat.le_refl, List.length_map, List.length_append, List.length_cons, List.length_nil, List.length_take, List.length_drop, List.length_replicate, Int.toNat_natCast, List.append_nil] <;> omega) | fail) ?_ | refine And.intro (show elemsP _ _ _ by repeat' (first | exact rfl | exact trivial | constructor)) ?_ | (refine awake_con.mono fun rs bs hr => ?_; subst hr) | (refine (few_con _).mono fun rs bs hr => ?_; subst hr) | (refine (orderRef_con _).mono fun rs bs hr => ?_; subst hr) | (refine (longest_con _ _ (Nat.le_trans (order_len _) (by decide)) (orderS_rises _)).mono fun rs bs hF => ?_; rcases hF with ⟨k, n, rfl, f0, f8, fx, fk, fe, fn⟩ | ⟨rfl, fn⟩) | (refine (longestRef_con _ _ (order_size _)).mono fun rs bs hr => ?_; first | (replace hr := found_unique (orderS_rises _) hr (.inl ⟨_, _, rfl, ‹_›, ‹_›, ‹_›, ‹_›, ‹_›, ‹_›⟩); subst hr) | (replace hr := found_unique (orderS_rises _) hr (.inr ⟨rfl, ‹_›⟩); subst hr) | fail) | (refine fun x hx => ?_; (try simp (disch := omega) only [if_true, if_false, Bool.false_eq_true, min_nn, max_nn, min_ln, min_nl, max_ln, max_nl, getD_map, take_bytes, wrap_u64, wrap_u32, shr_i64, shr_u64, shr_u32, shl_i64, shl_u64, Int.reduceToNat, Int.reducePow, Int.pow_succ, Int.pow_zero, Int.one_mul, Int.reduceMul, wrap_id, wrap_u8_nat, wrap_i64_u8, byteD_mk, map_snoc, map_app, set_map, List.length_map, List.length_append, List.length_cons, List.length_nil, Int.toNat_natCast, List.drop_zero, List.take_succ_cons, List.take_zero, List.take_length, List.nil_append, List.append_nil, Nat.zero_add, toNat_pred, toNat_succ, toNat_addn, toNat_subn] at hx); subst hx) | rw [List.take_length] | (rw [List.take_of_length_le]; rotate_left; (first | omega | (simp only [dlen, true_and, and_true, Nat.le_refl, List.length_map, List.length_append, List.length_cons, List.length_nil, List.length_take, List.length_drop, List.length_replicate, Int.toNat_natCast, List.append_nil] <;> omega) | fail)) | refine fun h => ?_ | fail); all_goals (try (conv => whnf))
  · exact rb (decide_eq_true (by rw [fe, size_extract fx]))
  all_goals first | (exfalso; omega) | exact absurd trivial ‹¬True›
theorem symbolLongest_law (xs : List D) (h : HasTs Try.prog Try.f5.params.toList xs) : Has Try.prog 5 (xs.map CV.d) (fun rs _ => rs = [.d (.bool true)]) := by
  obtain ⟨x, y, rfl, h1, h2⟩ := two_args h
  obtain ⟨l, rfl, _, _⟩ := h1.asStrs (e := 9) (by kernel_rfl) (by kernel_rfl) (by kernel_rfl)
  obtain ⟨s, rfl, _⟩ := h2.asStr (by kernel_rfl)
  exact symbolLongest_con l s
end Go.Fw
namespace Go.Fw
open Go Go.Proofs
set_option maxHeartbeats 10000000
set_option maxRecDepth 100000
set_option linter.constructorNameAsVariable false
set_option linter.unusedVariables false
set_option linter.unusedSimpArgs false
theorem symbolKeeps_con (l : List ByteArray) : Has Try.prog 6 [CV.d (D.sl 1 (l.map D.str))] (fun rs _ => rs = [CV.d (D.bool true)]) := by
  have hb9 : Try.prog.bytesOf 9 = 16 := by kernel_rfl
  refine Has_of_run (fn := Try.f6) (M := M0) fol (by kernel_rfl) 6 noPlan [] [] (by kernel_rfl) (Nat.le_of_ble_eq_true rfl) ?_
  repeat' ((conv => whnf); first | (refine And.intro (fun h => ?_) (fun h => ?_) <;> (try simp only [toNat_pred, toNat_succ, toNat_addn, toNat_subn, decide_eq_true_eq, decide_eq_false_iff_not, Bool.not_eq_true', Bool.not_eq_false', List.length_map, Int.toNat_natCast, Int.not_lt, Int.not_le, Bool.not_eq_true, Bool.false_eq_true, Bool.true_eq_false, Bool.not_true, Bool.not_false, reduceCtorEq, beq_iff_eq, Bool.not_eq_eq_eq_not, bne_iff_ne, ne_eq, decide_not, Decidable.not_not, Classical.not_not] at h)) | refine And.intro rfl ?_ | refine And.intro (Or.inr rfl) ?_ | refine And.intro (Nat.le_of_ble_eq_true rfl) ?_ | refine And.intro ⟨rfl, rfl⟩ ?_ | refine And.intro ⟨rfl, rfl, trivial⟩ ?_ | refine And.intro (Int.natCast_nonneg _) ?_ | refine Or.inl (And.intro rfl (And.intro rfl (And.intro rfl (And.intro rfl ?_)))) | refine Or.inl (And.intro rfl (And.intro rfl ?_)) | refine Or.inr (And.intro (Nat.le_of_ble_eq_true rfl) ?_) | refine Or.inl (And.intro (by unfold in64; omega) ?_) | refine And.intro (by first | omega | (simp only [dlen, true_and, and_true, Nat.le_refl, List.length_map, List.length_append, List.length_cons, List.length_nil, List.length_take, List.length_drop, List.length_replicate, Int.toNat_natCast, List.append_nil, hb9] <;> omega) | fail) ?_ | refine And.intro (show elemsP _ _ _ by repeat' (first | exact rfl | exact trivial | constructor)) ?_ | (refine And.intro (by have hfl := few_len ‹_›; simp only [dlen, true_and, and_true, Nat.le_refl, List.length_map, List.length_append, List.length_cons, List.length_nil, List.length_take, List.length_drop, List.length_replicate, Int.toNat_natCast, List.append_nil, hb9]; omega) ?_) | (refine awake_con.mono fun rs bs hr => ?_; subst hr) | (refine (few_con _).mono fun rs bs hr => ?_; subst hr) | (refine (order_con _ (few_len ‹_›)).mono fun rs bs hr => ?_; subst hr) | (refine (orderRef_con _).mono fun rs bs hr => ?_; subst hr) | (refine (same07_con _ _).mono fun rs bs hr => ?_; subst hr) | (refine Loops.by (M := M0) 6 noPlan fol (by kernel_rfl) (ι := Nat × List ByteArray) (fun ⟨i, u⟩ => ⟨[(0, AV.d (D.sl 1 (l.map D.str))), (3, AV.ref [3] 16 1 0 (l.map D.str).length), (4, AV.ref [4] 17 1 0 (((orderS l).map D.str).length)), (5, AV.d (D.int .i64 i))], [([3], 16, AO.row 9 1 (l.map D.str)), ([4], 17, AO.row 9 1 (u.map D.str))], 18⟩) (fun ⟨i, u⟩ => i ≤ u.length ∧ u.length = (orderS l).length) (fun ⟨i, u⟩ => u.length - i) (fun p hI => ?_) ((0, orderS l)) ⟨Nat.zero_le _, rfl⟩ (Forget.mk' ⟨⟨rfl, rfl⟩, ⟨rfl, rfl⟩, ⟨rfl, rfl⟩, ⟨rfl, rfl⟩, trivial⟩ ⟨⟨rfl, rfl, rfl⟩, ⟨rfl, rfl, rfl⟩, trivial⟩ rfl rfl); have hol := order_len l; obtain ⟨i, u⟩ := p; obtain ⟨hi, hu⟩ := hI) | (refine fun x hx => ?_; (try simp (disch := omega) only [if_true, if_false, Bool.false_eq_true, min_nn, max_nn, min_ln, min_nl, max_ln, max_nl, getD_map, take_bytes, wrap_u64, wrap_u32, shr_i64, shr_u64, shr_u32, shl_i64, shl_u64, Int.reduceToNat, Int.reducePow, Int.pow_succ, Int.pow_zero, Int.one_mul, Int.reduceMul, wrap_id, wrap_u8_nat, wrap_i64_u8, byteD_mk, map_snoc, map_app, set_map, List.length_map, List.length_append, List.length_cons, List.length_nil, Int.toNat_natCast, List.drop_zero, List.take_succ_cons, List.take_zero, List.take_length, List.nil_append, List.append_nil, Nat.zero_add, toNat_pred, toNat_succ, toNat_addn, toNat_subn] at hx); subst hx) | rw [List.take_length] | (rw [List.take_of_length_le]; rotate_left; (first | omega | (simp only [dlen, true_and, and_true, Nat.le_refl, List.length_map, List.length_append, List.length_cons, List.length_nil, List.length_take, List.length_drop, List.length_replicate, Int.toNat_natCast, List.append_nil, hb9] <;> omega) | fail)) | refine fun h => ?_ | fail); all_goals (try (conv => whnf))
  · exact ⟨(i + 1, u.set i ⟨#[63]⟩), ⟨⟨by simp; omega, by simp; omega⟩, by show (u.set i _).length - (i + 1) < u.length - i; simp; omega⟩, (Forget.mk' ⟨⟨rfl, rfl⟩, ⟨rfl, rfl⟩, ⟨rfl, rfl⟩, ⟨rfl, rfl⟩, trivial⟩ ⟨⟨rfl, rfl, rfl⟩, ⟨rfl, rfl, rfl⟩, trivial⟩ rfl rfl)⟩
  · exact rb (decide_eq_true rfl)
  · exact absurd trivial ‹¬True›
theorem symbolKeeps_law (xs : List D) (h : HasTs Try.prog Try.f6.params.toList xs) : Has Try.prog 6 (xs.map CV.d) (fun rs _ => rs = [.d (.bool true)]) := by
  obtain ⟨x, rfl, h1⟩ := one_arg h
  obtain ⟨l, rfl, _, _⟩ := h1.asStrs (e := 9) (by kernel_rfl) (by kernel_rfl) (by kernel_rfl)
  exact symbolKeeps_con l
end Go.Fw
