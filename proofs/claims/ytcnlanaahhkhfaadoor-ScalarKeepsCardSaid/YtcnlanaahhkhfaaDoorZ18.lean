/- What the proofs of this seat lean on, part 18: a symbolic machine that is shown sound, walks through functions, plain laws. -/
import Derived.Shelf.Strconv.Itoa0
import Derived.Shelf.Strconv.Itoa1
import Derived.Shelf.LaysM
import Derived.Shelf.Strconv.Itoa2
import Derived.Shelf.Strconv.Itoa3
import Derived.Test.YtcnlanaahhkhfaaDoorProg
import Derived.Test.YtcnlanaahhkhfaaDoorZ15
import Derived.Test.YtcnlanaahhkhfaaDoorZ17
import Derived.Test.YtcnlanaahhkhfaaDoorZ14
import Derived.Test.YtcnlanaahhkhfaaDoorZ13
import Derived.KernelRfl
namespace Go.Proofs
open Go.Shelf
def Tryd.lays129_ren : Go.Shelf.Ren := ⟨fun | 129 => 46 | n => n, fun | 53 => 69 | 3 => 3 | 4 => 4 | 46 => 80 | 5 => 5 | 9 => 9 | n => n, fun | n => n⟩
theorem Tryd.lays129 : Go.Proofs.Lays.n129 Tryd.prog Tryd.lays129_ren := {
  mixed := by kernel_rfl
  f129 := Tryd.func46.trans (congrArg some (by kernel_rfl))
  t3 := Tryd.underlying3
  a3 := Tryd.isAgg3
  z3 := Tryd.sizeOf3
  v3 := Tryd.zeroValue3
  t4 := Tryd.underlying4
  a4 := Tryd.isAgg4
  z4 := Tryd.sizeOf4
  v4 := Tryd.zeroValue4
  t5 := Tryd.underlying5
  a5 := Tryd.isAgg5
  z5 := Tryd.sizeOf5
  v5 := Tryd.zeroValue5
  t9 := Tryd.underlying9
  a9 := Tryd.isAgg9
  z9 := Tryd.sizeOf9
  v9 := Tryd.zeroValue9
  t46 := Tryd.underlying80
  a46 := Tryd.isAgg80
  z46 := Tryd.sizeOf80
  v46 := Tryd.zeroValue80
  t53 := Tryd.underlying69
  a53 := Tryd.isAgg69
  z53 := Tryd.sizeOf69
  v53 := Tryd.zeroValue69 }
 
theorem Tryd.bits_Len64 (x : Int) (w : World) (h0 : 0 ≤ x) (h1 : x ≤ 18446744073709551615) :
    Calls Tryd.prog 46 #[.int .u64 x] w fun e w' => e = .returned (.int .i64 (Lib.bitLen x.toNat)) ∧ w' = w := Any.bits_Len64 Tryd.lays129 x w h0 h1
def Tryd.lays317_ren : Go.Shelf.Ren := ⟨fun | 317 => 45 | n => n, fun | 3 => 3 | 46 => 80 | n => n, fun | n => n⟩
theorem Tryd.lays317 : Go.Proofs.Lays.n317 Tryd.prog Tryd.lays317_ren := {
  mixed := by kernel_rfl
  f317 := Tryd.func45.trans (congrArg some (by kernel_rfl))
  t3 := Tryd.underlying3
  a3 := Tryd.isAgg3
  z3 := Tryd.sizeOf3
  v3 := Tryd.zeroValue3
  t46 := Tryd.underlying80
  a46 := Tryd.isAgg80
  z46 := Tryd.sizeOf80
  v46 := Tryd.zeroValue80 }
open Go.Lib in
 
theorem Tryd.internal_strconv_log10Pow2 (x : Nat) (h : x ≤ 64) (w : World) :
    Calls Tryd.prog 45 #[.int .i64 x] w fun e w' => e = .returned (.int .i64 (Lib.l10 x)) ∧ w' = w := Any.internal_strconv_log10Pow2 Tryd.lays317 x h w
def Tryd.lays318_ren : Go.Shelf.Ren := ⟨fun | 318 => 47 | n => n, fun | 3 => 3 | 4 => 4 | n => n, fun | n => n⟩
theorem Tryd.lays318 : Go.Proofs.Lays.n318 Tryd.prog Tryd.lays318_ren := {
  mixed := by kernel_rfl
  f318 := Tryd.func47.trans (congrArg some (by kernel_rfl))
  t3 := Tryd.underlying3
  a3 := Tryd.isAgg3
  z3 := Tryd.sizeOf3
  v3 := Tryd.zeroValue3
  t4 := Tryd.underlying4
  a4 := Tryd.isAgg4
  z4 := Tryd.sizeOf4
  v4 := Tryd.zeroValue4 }
open Go.Lib in
 
theorem Tryd.internal_strconv_bool2_int (b : Bool) (w : World) :
    Calls Tryd.prog 47 #[.bool b] w fun e w' => e = .returned (.int .i64 (if b then 1 else 0)) ∧ w' = w := Any.internal_strconv_bool2_int Tryd.lays318 b w
def Tryd.lays283_ren : Go.Shelf.Ren := ⟨fun | 283 => 41 | n => n, fun | 3 => 3 | 9 => 9 | 4 => 4 | n => n, fun | n => n⟩
theorem Tryd.lays283 : Go.Proofs.Lays.n283 Tryd.prog Tryd.lays283_ren := {
  mixed := by kernel_rfl
  f283 := Tryd.func41.trans (congrArg some (by kernel_rfl))
  t3 := Tryd.underlying3
  a3 := Tryd.isAgg3
  z3 := Tryd.sizeOf3
  v3 := Tryd.zeroValue3
  t4 := Tryd.underlying4
  a4 := Tryd.isAgg4
  z4 := Tryd.sizeOf4
  v4 := Tryd.zeroValue4
  t9 := Tryd.underlying9
  a9 := Tryd.isAgg9
  z9 := Tryd.sizeOf9
  v9 := Tryd.zeroValue9 }
open Go.Lib in
 
theorem Tryd.internal_strconv_small (i : Nat) (h : i < 100) (w : World) :
    Calls Tryd.prog 41 #[.int .i64 i] w fun e w' => e = .returned (.string ⟨(Lib.decDigits i).toArray⟩) ∧ w' = w := Any.internal_strconv_small Tryd.lays283 i h w
def Tryd.laysM284_ren : Go.Shelf.Ren := ⟨fun | 284 => 42 | 129 => 46 | 317 => 45 | 318 => 47 | n => n, fun | 53 => 69 | 3 => 3 | 212 => 76 | 0 => 0 | 4 => 4 | 46 => 80 | 5 => 5 | 9 => 9 | n => n, fun | 17 => 0 | n => n⟩
theorem Tryd.laysM284 : Go.Proofs.LaysM.n284 Tryd.prog Tryd.laysM284_ren := {
  mixed := by kernel_rfl
  f129 := Tryd.func46.trans (congrArg some (by kernel_rfl))
  f284 := Tryd.func42.trans (congrArg some (by kernel_rfl))
  f317 := Tryd.func45.trans (congrArg some (by kernel_rfl))
  f318 := Tryd.func47.trans (congrArg some (by kernel_rfl))
  t0 := Tryd.underlying0
  a0 := Tryd.isAgg0
  z0 := Tryd.sizeOf0
  v0 := Tryd.zeroValue0
  t3 := Tryd.underlying3
  a3 := Tryd.isAgg3
  z3 := Tryd.sizeOf3
  v3 := Tryd.zeroValue3
  t4 := Tryd.underlying4
  a4 := Tryd.isAgg4
  z4 := Tryd.sizeOf4
  v4 := Tryd.zeroValue4
  t5 := Tryd.underlying5
  a5 := Tryd.isAgg5
  z5 := Tryd.sizeOf5
  v5 := Tryd.zeroValue5
  t9 := Tryd.underlying9
  a9 := Tryd.isAgg9
  z9 := Tryd.sizeOf9
  v9 := Tryd.zeroValue9
  t46 := Tryd.underlying80
  a46 := Tryd.isAgg80
  z46 := Tryd.sizeOf80
  v46 := Tryd.zeroValue80
  t53 := Tryd.underlying69
  a53 := Tryd.isAgg69
  z53 := Tryd.sizeOf69
  v53 := Tryd.zeroValue69
  t212 := Tryd.underlying76
  a212 := Tryd.isAgg76
  z212 := Tryd.sizeOf76
  v212 := Tryd.zeroValue76
  g17 := by kernel_rfl
  i0 := by kernel_rfl
  i3 := by kernel_rfl
  i4 := by kernel_rfl
  i5 := by kernel_rfl
  i9 := by kernel_rfl
  i46 := by kernel_rfl
  i53 := by kernel_rfl
  i212 := by kernel_rfl
  m17 := by kernel_rfl }
open Go.Lib in
 
theorem Tryd.internal_strconv_numDigits (u : Nat) (h1 : 1 ≤ u) (h2 : u < 18446744073709551616) (w : World) (htab : Lib.TabIs Tryd.prog w "internal/strconv.uint64pow10" .u64 Lib.pow10Tab) :
    Calls Tryd.prog 42 #[.int .u64 u] w fun e w' => e = .returned (.int .i64 (Lib.nDigits u)) ∧ w' = w := Any.internal_strconv_numDigits Tryd.laysM284 u h1 h2 w htab
def Tryd.lays285_ren : Go.Shelf.Ren := ⟨fun | 285 => 43 | n => n, fun | 37 => 44 | 53 => 69 | 3 => 3 | 4 => 4 | 51 => 77 | 9 => 9 | 5 => 5 | 0 => 0 | n => n, fun | n => n⟩
theorem Tryd.lays285 : Go.Proofs.Lays.n285 Tryd.prog Tryd.lays285_ren := {
  mixed := by kernel_rfl
  f285 := Tryd.func43.trans (congrArg some (by kernel_rfl))
  t0 := Tryd.underlying0
  a0 := Tryd.isAgg0
  z0 := Tryd.sizeOf0
  v0 := Tryd.zeroValue0
  t3 := Tryd.underlying3
  a3 := Tryd.isAgg3
  z3 := Tryd.sizeOf3
  v3 := Tryd.zeroValue3
  t4 := Tryd.underlying4
  a4 := Tryd.isAgg4
  z4 := Tryd.sizeOf4
  v4 := Tryd.zeroValue4
  t5 := Tryd.underlying5
  a5 := Tryd.isAgg5
  z5 := Tryd.sizeOf5
  v5 := Tryd.zeroValue5
  t9 := Tryd.underlying9
  a9 := Tryd.isAgg9
  z9 := Tryd.sizeOf9
  v9 := Tryd.zeroValue9
  t37 := Tryd.underlying44
  a37 := Tryd.isAgg44
  z37 := Tryd.sizeOf44
  v37 := Tryd.zeroValue44
  t51 := Tryd.underlying77
  a51 := Tryd.isAgg77
  z51 := Tryd.sizeOf77
  v51 := Tryd.zeroValue77
  t53 := Tryd.underlying69
  a53 := Tryd.isAgg69
  z53 := Tryd.sizeOf69
  v53 := Tryd.zeroValue69 }
open Go.RowKit Go.Sort Go.Lib in
 
theorem Tryd.internal_strconv_formatBase10 (blk off cap : Nat) (u : Nat) (d : Array UInt8) (w : World) (hH : Holds (fun (b : UInt8) => Value.int .u8 (b.toNat : Int)) w blk off d) (hu : u < 10 ^ d.size) (hu64 : u < 18446744073709551616) (hsz : d.size < 4611686018427387904) :
    Calls Tryd.prog 43 #[.slice (some ⟨blk, off, none⟩) d.size cap, .int .u64 u] w fun e w' =>
      e = .returned (.tuple #[]) ∧ ∃ (n v' : Nat) (dk : Array UInt8), w' = (putRow (fun (b : UInt8) => Value.int .u8 (b.toNat : Int)) w blk off dk).drewN n ∧ FmtInv d.size u 0 v' dk := Any.internal_strconv_formatBase10 Tryd.lays285 blk off cap u d w hH hu hu64 hsz
def Tryd.laysM246_ren : Go.Shelf.Ren := ⟨fun | 246 => 40 | 283 => 41 | 284 => 42 | 285 => 43 | 286 => 44 | 129 => 46 | 317 => 45 | 318 => 47 | 319 => 48 | 320 => 49 | 337 => 50 | 338 => 51 | n => n, fun | 2 => 2 | 3 => 3 | 9 => 9 | 4 => 4 | 171 => 68 | 0 => 0 | 53 => 69 | 37 => 44 | 5 => 5 | 173 => 72 | 212 => 76 | 51 => 77 | 20 => 20 | 213 => 78 | 46 => 80 | 232 => 83 | 233 => 84 | n => n, fun | 17 => 0 | 18 => 1 | 19 => 2 | n => n⟩
theorem Tryd.laysM246 : Go.Proofs.LaysM.n246 Tryd.prog Tryd.laysM246_ren := {
  mixed := by kernel_rfl
  f129 := Tryd.func46.trans (congrArg some (by kernel_rfl))
  f246 := Tryd.func40.trans (congrArg some (by kernel_rfl))
  f283 := Tryd.func41.trans (congrArg some (by kernel_rfl))
  f284 := Tryd.func42.trans (congrArg some (by kernel_rfl))
  f285 := Tryd.func43.trans (congrArg some (by kernel_rfl))
  f286 := Tryd.func44.trans (congrArg some (by kernel_rfl))
  f317 := Tryd.func45.trans (congrArg some (by kernel_rfl))
  f318 := Tryd.func47.trans (congrArg some (by kernel_rfl))
  f319 := Tryd.func48.trans (congrArg some (by kernel_rfl))
  f320 := Tryd.func49.trans (congrArg some (by kernel_rfl))
  f337 := Tryd.func50.trans (congrArg some (by kernel_rfl))
  f338 := Tryd.func51.trans (congrArg some (by kernel_rfl))
  t0 := Tryd.underlying0
  a0 := Tryd.isAgg0
  z0 := Tryd.sizeOf0
  v0 := Tryd.zeroValue0
  t2 := Tryd.underlying2
  a2 := Tryd.isAgg2
  z2 := Tryd.sizeOf2
  v2 := Tryd.zeroValue2
  t3 := Tryd.underlying3
  a3 := Tryd.isAgg3
  z3 := Tryd.sizeOf3
  v3 := Tryd.zeroValue3
  t4 := Tryd.underlying4
  a4 := Tryd.isAgg4
  z4 := Tryd.sizeOf4
  v4 := Tryd.zeroValue4
  t5 := Tryd.underlying5
  a5 := Tryd.isAgg5
  z5 := Tryd.sizeOf5
  v5 := Tryd.zeroValue5
  t9 := Tryd.underlying9
  a9 := Tryd.isAgg9
  z9 := Tryd.sizeOf9
  v9 := Tryd.zeroValue9
  t20 := Tryd.underlying20
  a20 := Tryd.isAgg20
  z20 := Tryd.sizeOf20
  v20 := Tryd.zeroValue20
  t37 := Tryd.underlying44
  a37 := Tryd.isAgg44
  z37 := Tryd.sizeOf44
  v37 := Tryd.zeroValue44
  t46 := Tryd.underlying80
  a46 := Tryd.isAgg80
  z46 := Tryd.sizeOf80
  v46 := Tryd.zeroValue80
  t51 := Tryd.underlying77
  a51 := Tryd.isAgg77
  z51 := Tryd.sizeOf77
  v51 := Tryd.zeroValue77
  t53 := Tryd.underlying69
  a53 := Tryd.isAgg69
  z53 := Tryd.sizeOf69
  v53 := Tryd.zeroValue69
  t171 := Tryd.underlying68
  a171 := Tryd.isAgg68
  z171 := Tryd.sizeOf68
  v171 := Tryd.zeroValue68
  t173 := Tryd.underlying72
  a173 := Tryd.isAgg72
  z173 := Tryd.sizeOf72
  v173 := Tryd.zeroValue72
  t212 := Tryd.underlying76
  a212 := Tryd.isAgg76
  z212 := Tryd.sizeOf76
  v212 := Tryd.zeroValue76
  t213 := Tryd.underlying78
  a213 := Tryd.isAgg78
  z213 := Tryd.sizeOf78
  t232 := Tryd.underlying83
  a232 := Tryd.isAgg83
  z232 := Tryd.sizeOf83
  v232 := Tryd.zeroValue83
  t233 := Tryd.underlying84
  a233 := Tryd.isAgg84
  z233 := Tryd.sizeOf84
  v233 := Tryd.zeroValue84
  g17 := by kernel_rfl
  g18 := by kernel_rfl
  g19 := by kernel_rfl
  i0 := by kernel_rfl
  i2 := by kernel_rfl
  i3 := by kernel_rfl
  i4 := by kernel_rfl
  i5 := by kernel_rfl
  i9 := by kernel_rfl
  i20 := by kernel_rfl
  i37 := by kernel_rfl
  i46 := by kernel_rfl
  i51 := by kernel_rfl
  i53 := by kernel_rfl
  i171 := by kernel_rfl
  i173 := by kernel_rfl
  i212 := by kernel_rfl
  i232 := by kernel_rfl
  i233 := by kernel_rfl
  m17 := by kernel_rfl
  m18 := by kernel_rfl
  m19 := by kernel_rfl }
open Go.RowKit Go.Sort Go.Lib in
 
theorem Tryd.internal_strconv_FormatInt_10 (n : Int) (h0 : -9223372036854775808 ≤ n) (h1 : n ≤ 9223372036854775807) (w : World) (htab : Lib.TabIs Tryd.prog w "internal/strconv.uint64pow10" .u64 Lib.pow10Tab) :
    Calls Tryd.prog 40 #[.int .i64 n, .int .i64 10] w fun e w' => e = .returned (.string ⟨(Lib.itoa n).toArray⟩) ∧ ∃ k os, w' = grow (w.drewN k) os := Any.internal_strconv_FormatInt_10 Tryd.laysM246 n h0 h1 w htab
def Tryd.lays246_ren : Go.Shelf.Ren := ⟨fun | 246 => 40 | 283 => 41 | 284 => 42 | 285 => 43 | 286 => 44 | 129 => 46 | 317 => 45 | 318 => 47 | 319 => 48 | 320 => 49 | 337 => 50 | 338 => 51 | n => n, fun | 2 => 2 | 3 => 3 | 9 => 9 | 4 => 4 | 171 => 68 | 0 => 0 | 53 => 69 | 37 => 44 | 5 => 5 | 173 => 72 | 212 => 76 | 51 => 77 | 20 => 20 | 213 => 78 | 46 => 80 | 232 => 83 | 233 => 84 | n => n, fun | 17 => 0 | 18 => 1 | 19 => 2 | n => n⟩
theorem Tryd.lays246 : Go.Proofs.Lays.n246 Tryd.prog Tryd.lays246_ren := {
  mixed := by kernel_rfl
  f129 := Tryd.func46.trans (congrArg some (by kernel_rfl))
  f246 := Tryd.func40.trans (congrArg some (by kernel_rfl))
  f283 := Tryd.func41.trans (congrArg some (by kernel_rfl))
  f284 := Tryd.func42.trans (congrArg some (by kernel_rfl))
  f285 := Tryd.func43.trans (congrArg some (by kernel_rfl))
  f286 := Tryd.func44.trans (congrArg some (by kernel_rfl))
  f317 := Tryd.func45.trans (congrArg some (by kernel_rfl))
  f318 := Tryd.func47.trans (congrArg some (by kernel_rfl))
  f319 := Tryd.func48.trans (congrArg some (by kernel_rfl))
  f320 := Tryd.func49.trans (congrArg some (by kernel_rfl))
  f337 := Tryd.func50.trans (congrArg some (by kernel_rfl))
  f338 := Tryd.func51.trans (congrArg some (by kernel_rfl))
  t0 := Tryd.underlying0
  a0 := Tryd.isAgg0
  z0 := Tryd.sizeOf0
  v0 := Tryd.zeroValue0
  t2 := Tryd.underlying2
  a2 := Tryd.isAgg2
  z2 := Tryd.sizeOf2
  v2 := Tryd.zeroValue2
  t3 := Tryd.underlying3
  a3 := Tryd.isAgg3
  z3 := Tryd.sizeOf3
  v3 := Tryd.zeroValue3
  t4 := Tryd.underlying4
  a4 := Tryd.isAgg4
  z4 := Tryd.sizeOf4
  v4 := Tryd.zeroValue4
  t5 := Tryd.underlying5
  a5 := Tryd.isAgg5
  z5 := Tryd.sizeOf5
  v5 := Tryd.zeroValue5
  t9 := Tryd.underlying9
  a9 := Tryd.isAgg9
  z9 := Tryd.sizeOf9
  v9 := Tryd.zeroValue9
  t20 := Tryd.underlying20
  a20 := Tryd.isAgg20
  z20 := Tryd.sizeOf20
  v20 := Tryd.zeroValue20
  t37 := Tryd.underlying44
  a37 := Tryd.isAgg44
  z37 := Tryd.sizeOf44
  v37 := Tryd.zeroValue44
  t46 := Tryd.underlying80
  a46 := Tryd.isAgg80
  z46 := Tryd.sizeOf80
  v46 := Tryd.zeroValue80
  t51 := Tryd.underlying77
  a51 := Tryd.isAgg77
  z51 := Tryd.sizeOf77
  v51 := Tryd.zeroValue77
  t53 := Tryd.underlying69
  a53 := Tryd.isAgg69
  z53 := Tryd.sizeOf69
  v53 := Tryd.zeroValue69
  t171 := Tryd.underlying68
  a171 := Tryd.isAgg68
  z171 := Tryd.sizeOf68
  v171 := Tryd.zeroValue68
  t173 := Tryd.underlying72
  a173 := Tryd.isAgg72
  z173 := Tryd.sizeOf72
  v173 := Tryd.zeroValue72
  t212 := Tryd.underlying76
  a212 := Tryd.isAgg76
  z212 := Tryd.sizeOf76
  v212 := Tryd.zeroValue76
  t213 := Tryd.underlying78
  a213 := Tryd.isAgg78
  z213 := Tryd.sizeOf78
  t232 := Tryd.underlying83
  a232 := Tryd.isAgg83
  z232 := Tryd.sizeOf83
  v232 := Tryd.zeroValue83
  t233 := Tryd.underlying84
  a233 := Tryd.isAgg84
  z233 := Tryd.sizeOf84
  v233 := Tryd.zeroValue84
  g17 := by kernel_rfl
  g18 := by kernel_rfl
  g19 := by kernel_rfl }
open Go.RowKit Go.Sort Go.Lib in
 
theorem Tryd.internal_strconv_FormatInt_10_small (i : Nat) (hi : i < 100) (w : World) :
    Calls Tryd.prog 40 #[.int .i64 i, .int .i64 10] w fun e w' => e = .returned (.string ⟨(Lib.decDigits i).toArray⟩) ∧ w' = w := Any.internal_strconv_FormatInt_10_small Tryd.lays246 i hi w
def Tryd.laysM243_ren : Go.Shelf.Ren := ⟨fun | 243 => 37 | 246 => 40 | 283 => 41 | 284 => 42 | 285 => 43 | 286 => 44 | 129 => 46 | 317 => 45 | 318 => 47 | 319 => 48 | 320 => 49 | 337 => 50 | 338 => 51 | n => n, fun | 3 => 3 | 9 => 9 | 2 => 2 | 4 => 4 | 171 => 68 | 0 => 0 | 53 => 69 | 37 => 44 | 5 => 5 | 173 => 72 | 212 => 76 | 51 => 77 | 20 => 20 | 213 => 78 | 46 => 80 | 232 => 83 | 233 => 84 | n => n, fun | 17 => 0 | 18 => 1 | 19 => 2 | n => n⟩
theorem Tryd.laysM243 : Go.Proofs.LaysM.n243 Tryd.prog Tryd.laysM243_ren := {
  mixed := by kernel_rfl
  f129 := Tryd.func46.trans (congrArg some (by kernel_rfl))
  f243 := Tryd.func37.trans (congrArg some (by kernel_rfl))
  f246 := Tryd.func40.trans (congrArg some (by kernel_rfl))
  f283 := Tryd.func41.trans (congrArg some (by kernel_rfl))
  f284 := Tryd.func42.trans (congrArg some (by kernel_rfl))
  f285 := Tryd.func43.trans (congrArg some (by kernel_rfl))
  f286 := Tryd.func44.trans (congrArg some (by kernel_rfl))
  f317 := Tryd.func45.trans (congrArg some (by kernel_rfl))
  f318 := Tryd.func47.trans (congrArg some (by kernel_rfl))
  f319 := Tryd.func48.trans (congrArg some (by kernel_rfl))
  f320 := Tryd.func49.trans (congrArg some (by kernel_rfl))
  f337 := Tryd.func50.trans (congrArg some (by kernel_rfl))
  f338 := Tryd.func51.trans (congrArg some (by kernel_rfl))
  t0 := Tryd.underlying0
  a0 := Tryd.isAgg0
  z0 := Tryd.sizeOf0
  v0 := Tryd.zeroValue0
  t2 := Tryd.underlying2
  a2 := Tryd.isAgg2
  z2 := Tryd.sizeOf2
  v2 := Tryd.zeroValue2
  t3 := Tryd.underlying3
  a3 := Tryd.isAgg3
  z3 := Tryd.sizeOf3
  v3 := Tryd.zeroValue3
  t4 := Tryd.underlying4
  a4 := Tryd.isAgg4
  z4 := Tryd.sizeOf4
  v4 := Tryd.zeroValue4
  t5 := Tryd.underlying5
  a5 := Tryd.isAgg5
  z5 := Tryd.sizeOf5
  v5 := Tryd.zeroValue5
  t9 := Tryd.underlying9
  a9 := Tryd.isAgg9
  z9 := Tryd.sizeOf9
  v9 := Tryd.zeroValue9
  t20 := Tryd.underlying20
  a20 := Tryd.isAgg20
  z20 := Tryd.sizeOf20
  v20 := Tryd.zeroValue20
  t37 := Tryd.underlying44
  a37 := Tryd.isAgg44
  z37 := Tryd.sizeOf44
  v37 := Tryd.zeroValue44
  t46 := Tryd.underlying80
  a46 := Tryd.isAgg80
  z46 := Tryd.sizeOf80
  v46 := Tryd.zeroValue80
  t51 := Tryd.underlying77
  a51 := Tryd.isAgg77
  z51 := Tryd.sizeOf77
  v51 := Tryd.zeroValue77
  t53 := Tryd.underlying69
  a53 := Tryd.isAgg69
  z53 := Tryd.sizeOf69
  v53 := Tryd.zeroValue69
  t171 := Tryd.underlying68
  a171 := Tryd.isAgg68
  z171 := Tryd.sizeOf68
  v171 := Tryd.zeroValue68
  t173 := Tryd.underlying72
  a173 := Tryd.isAgg72
  z173 := Tryd.sizeOf72
  v173 := Tryd.zeroValue72
  t212 := Tryd.underlying76
  a212 := Tryd.isAgg76
  z212 := Tryd.sizeOf76
  v212 := Tryd.zeroValue76
  t213 := Tryd.underlying78
  a213 := Tryd.isAgg78
  z213 := Tryd.sizeOf78
  t232 := Tryd.underlying83
  a232 := Tryd.isAgg83
  z232 := Tryd.sizeOf83
  v232 := Tryd.zeroValue83
  t233 := Tryd.underlying84
  a233 := Tryd.isAgg84
  z233 := Tryd.sizeOf84
  v233 := Tryd.zeroValue84
  g17 := by kernel_rfl
  g18 := by kernel_rfl
  g19 := by kernel_rfl
  i0 := by kernel_rfl
  i2 := by kernel_rfl
  i3 := by kernel_rfl
  i4 := by kernel_rfl
  i5 := by kernel_rfl
  i9 := by kernel_rfl
  i20 := by kernel_rfl
  i37 := by kernel_rfl
  i46 := by kernel_rfl
  i51 := by kernel_rfl
  i53 := by kernel_rfl
  i171 := by kernel_rfl
  i173 := by kernel_rfl
  i212 := by kernel_rfl
  i232 := by kernel_rfl
  i233 := by kernel_rfl
  m17 := by kernel_rfl
  m18 := by kernel_rfl
  m19 := by kernel_rfl }
open Go.RowKit Go.Sort Go.Lib in
 
theorem Tryd.internal_strconv_Itoa (n : Int) (h0 : -9223372036854775808 ≤ n) (h1 : n ≤ 9223372036854775807) (w : World) (htab : Lib.TabIs Tryd.prog w "internal/strconv.uint64pow10" .u64 Lib.pow10Tab) :
    Calls Tryd.prog 37 #[.int .i64 n] w fun e w' => e = .returned (.string ⟨(Lib.itoa n).toArray⟩) ∧ ∃ k os, w' = grow (w.drewN k) os := Any.internal_strconv_Itoa Tryd.laysM243 n h0 h1 w htab
def Tryd.lays243_ren : Go.Shelf.Ren := ⟨fun | 243 => 37 | 246 => 40 | 283 => 41 | 284 => 42 | 285 => 43 | 286 => 44 | 129 => 46 | 317 => 45 | 318 => 47 | 319 => 48 | 320 => 49 | 337 => 50 | 338 => 51 | n => n, fun | 3 => 3 | 9 => 9 | 2 => 2 | 4 => 4 | 171 => 68 | 0 => 0 | 53 => 69 | 37 => 44 | 5 => 5 | 173 => 72 | 212 => 76 | 51 => 77 | 20 => 20 | 213 => 78 | 46 => 80 | 232 => 83 | 233 => 84 | n => n, fun | 17 => 0 | 18 => 1 | 19 => 2 | n => n⟩
theorem Tryd.lays243 : Go.Proofs.Lays.n243 Tryd.prog Tryd.lays243_ren := {
  mixed := by kernel_rfl
  f129 := Tryd.func46.trans (congrArg some (by kernel_rfl))
  f243 := Tryd.func37.trans (congrArg some (by kernel_rfl))
  f246 := Tryd.func40.trans (congrArg some (by kernel_rfl))
  f283 := Tryd.func41.trans (congrArg some (by kernel_rfl))
  f284 := Tryd.func42.trans (congrArg some (by kernel_rfl))
  f285 := Tryd.func43.trans (congrArg some (by kernel_rfl))
  f286 := Tryd.func44.trans (congrArg some (by kernel_rfl))
  f317 := Tryd.func45.trans (congrArg some (by kernel_rfl))
  f318 := Tryd.func47.trans (congrArg some (by kernel_rfl))
  f319 := Tryd.func48.trans (congrArg some (by kernel_rfl))
  f320 := Tryd.func49.trans (congrArg some (by kernel_rfl))
  f337 := Tryd.func50.trans (congrArg some (by kernel_rfl))
  f338 := Tryd.func51.trans (congrArg some (by kernel_rfl))
  t0 := Tryd.underlying0
  a0 := Tryd.isAgg0
  z0 := Tryd.sizeOf0
  v0 := Tryd.zeroValue0
  t2 := Tryd.underlying2
  a2 := Tryd.isAgg2
  z2 := Tryd.sizeOf2
  v2 := Tryd.zeroValue2
  t3 := Tryd.underlying3
  a3 := Tryd.isAgg3
  z3 := Tryd.sizeOf3
  v3 := Tryd.zeroValue3
  t4 := Tryd.underlying4
  a4 := Tryd.isAgg4
  z4 := Tryd.sizeOf4
  v4 := Tryd.zeroValue4
  t5 := Tryd.underlying5
  a5 := Tryd.isAgg5
  z5 := Tryd.sizeOf5
  v5 := Tryd.zeroValue5
  t9 := Tryd.underlying9
  a9 := Tryd.isAgg9
  z9 := Tryd.sizeOf9
  v9 := Tryd.zeroValue9
  t20 := Tryd.underlying20
  a20 := Tryd.isAgg20
  z20 := Tryd.sizeOf20
  v20 := Tryd.zeroValue20
  t37 := Tryd.underlying44
  a37 := Tryd.isAgg44
  z37 := Tryd.sizeOf44
  v37 := Tryd.zeroValue44
  t46 := Tryd.underlying80
  a46 := Tryd.isAgg80
  z46 := Tryd.sizeOf80
  v46 := Tryd.zeroValue80
  t51 := Tryd.underlying77
  a51 := Tryd.isAgg77
  z51 := Tryd.sizeOf77
  v51 := Tryd.zeroValue77
  t53 := Tryd.underlying69
  a53 := Tryd.isAgg69
  z53 := Tryd.sizeOf69
  v53 := Tryd.zeroValue69
  t171 := Tryd.underlying68
  a171 := Tryd.isAgg68
  z171 := Tryd.sizeOf68
  v171 := Tryd.zeroValue68
  t173 := Tryd.underlying72
  a173 := Tryd.isAgg72
  z173 := Tryd.sizeOf72
  v173 := Tryd.zeroValue72
  t212 := Tryd.underlying76
  a212 := Tryd.isAgg76
  z212 := Tryd.sizeOf76
  v212 := Tryd.zeroValue76
  t213 := Tryd.underlying78
  a213 := Tryd.isAgg78
  z213 := Tryd.sizeOf78
  t232 := Tryd.underlying83
  a232 := Tryd.isAgg83
  z232 := Tryd.sizeOf83
  v232 := Tryd.zeroValue83
  t233 := Tryd.underlying84
  a233 := Tryd.isAgg84
  z233 := Tryd.sizeOf84
  v233 := Tryd.zeroValue84
  g17 := by kernel_rfl
  g18 := by kernel_rfl
  g19 := by kernel_rfl }
open Go.RowKit Go.Sort Go.Lib in
 
theorem Tryd.internal_strconv_Itoa_small (i : Nat) (hi : i < 100) (w : World) :
    Calls Tryd.prog 37 #[.int .i64 i] w fun e w' => e = .returned (.string ⟨(Lib.decDigits i).toArray⟩) ∧ w' = w := Any.internal_strconv_Itoa_small Tryd.lays243 i hi w
def Tryd.laysM171_ren : Go.Shelf.Ren := ⟨fun | 171 => 31 | 243 => 37 | 246 => 40 | 283 => 41 | 284 => 42 | 285 => 43 | 286 => 44 | 129 => 46 | 317 => 45 | 318 => 47 | 319 => 48 | 320 => 49 | 337 => 50 | 338 => 51 | n => n, fun | 3 => 3 | 9 => 9 | 2 => 2 | 4 => 4 | 171 => 68 | 0 => 0 | 53 => 69 | 37 => 44 | 5 => 5 | 173 => 72 | 212 => 76 | 51 => 77 | 20 => 20 | 213 => 78 | 46 => 80 | 232 => 83 | 233 => 84 | n => n, fun | 17 => 0 | 18 => 1 | 19 => 2 | n => n⟩
theorem Tryd.laysM171 : Go.Proofs.LaysM.n171 Tryd.prog Tryd.laysM171_ren := {
  mixed := by kernel_rfl
  f129 := Tryd.func46.trans (congrArg some (by kernel_rfl))
  f171 := Tryd.func31.trans (congrArg some (by kernel_rfl))
  f243 := Tryd.func37.trans (congrArg some (by kernel_rfl))
  f246 := Tryd.func40.trans (congrArg some (by kernel_rfl))
  f283 := Tryd.func41.trans (congrArg some (by kernel_rfl))
  f284 := Tryd.func42.trans (congrArg some (by kernel_rfl))
  f285 := Tryd.func43.trans (congrArg some (by kernel_rfl))
  f286 := Tryd.func44.trans (congrArg some (by kernel_rfl))
  f317 := Tryd.func45.trans (congrArg some (by kernel_rfl))
  f318 := Tryd.func47.trans (congrArg some (by kernel_rfl))
  f319 := Tryd.func48.trans (congrArg some (by kernel_rfl))
  f320 := Tryd.func49.trans (congrArg some (by kernel_rfl))
  f337 := Tryd.func50.trans (congrArg some (by kernel_rfl))
  f338 := Tryd.func51.trans (congrArg some (by kernel_rfl))
  t0 := Tryd.underlying0
  a0 := Tryd.isAgg0
  z0 := Tryd.sizeOf0
  v0 := Tryd.zeroValue0
  t2 := Tryd.underlying2
  a2 := Tryd.isAgg2
  z2 := Tryd.sizeOf2
  v2 := Tryd.zeroValue2
  t3 := Tryd.underlying3
  a3 := Tryd.isAgg3
  z3 := Tryd.sizeOf3
  v3 := Tryd.zeroValue3
  t4 := Tryd.underlying4
  a4 := Tryd.isAgg4
  z4 := Tryd.sizeOf4
  v4 := Tryd.zeroValue4
  t5 := Tryd.underlying5
  a5 := Tryd.isAgg5
  z5 := Tryd.sizeOf5
  v5 := Tryd.zeroValue5
  t9 := Tryd.underlying9
  a9 := Tryd.isAgg9
  z9 := Tryd.sizeOf9
  v9 := Tryd.zeroValue9
  t20 := Tryd.underlying20
  a20 := Tryd.isAgg20
  z20 := Tryd.sizeOf20
  v20 := Tryd.zeroValue20
  t37 := Tryd.underlying44
  a37 := Tryd.isAgg44
  z37 := Tryd.sizeOf44
  v37 := Tryd.zeroValue44
  t46 := Tryd.underlying80
  a46 := Tryd.isAgg80
  z46 := Tryd.sizeOf80
  v46 := Tryd.zeroValue80
  t51 := Tryd.underlying77
  a51 := Tryd.isAgg77
  z51 := Tryd.sizeOf77
  v51 := Tryd.zeroValue77
  t53 := Tryd.underlying69
  a53 := Tryd.isAgg69
  z53 := Tryd.sizeOf69
  v53 := Tryd.zeroValue69
  t171 := Tryd.underlying68
  a171 := Tryd.isAgg68
  z171 := Tryd.sizeOf68
  v171 := Tryd.zeroValue68
  t173 := Tryd.underlying72
  a173 := Tryd.isAgg72
  z173 := Tryd.sizeOf72
  v173 := Tryd.zeroValue72
  t212 := Tryd.underlying76
  a212 := Tryd.isAgg76
  z212 := Tryd.sizeOf76
  v212 := Tryd.zeroValue76
  t213 := Tryd.underlying78
  a213 := Tryd.isAgg78
  z213 := Tryd.sizeOf78
  t232 := Tryd.underlying83
  a232 := Tryd.isAgg83
  z232 := Tryd.sizeOf83
  v232 := Tryd.zeroValue83
  t233 := Tryd.underlying84
  a233 := Tryd.isAgg84
  z233 := Tryd.sizeOf84
  v233 := Tryd.zeroValue84
  g17 := by kernel_rfl
  g18 := by kernel_rfl
  g19 := by kernel_rfl
  i0 := by kernel_rfl
  i2 := by kernel_rfl
  i3 := by kernel_rfl
  i4 := by kernel_rfl
  i5 := by kernel_rfl
  i9 := by kernel_rfl
  i20 := by kernel_rfl
  i37 := by kernel_rfl
  i46 := by kernel_rfl
  i51 := by kernel_rfl
  i53 := by kernel_rfl
  i171 := by kernel_rfl
  i173 := by kernel_rfl
  i212 := by kernel_rfl
  i232 := by kernel_rfl
  i233 := by kernel_rfl
  m17 := by kernel_rfl
  m18 := by kernel_rfl
  m19 := by kernel_rfl }
open Go.RowKit Go.Sort Go.Lib in
 
theorem Tryd.strconv_Itoa (n : Int) (h0 : -9223372036854775808 ≤ n) (h1 : n ≤ 9223372036854775807) (w : World) (htab : Lib.TabIs Tryd.prog w "internal/strconv.uint64pow10" .u64 Lib.pow10Tab) :
    Calls Tryd.prog 31 #[.int .i64 n] w fun e w' => e = .returned (.string ⟨(Lib.itoa n).toArray⟩) ∧ ∃ k os, w' = grow (w.drewN k) os := Any.strconv_Itoa Tryd.laysM171 n h0 h1 w htab
def Tryd.lays171_ren : Go.Shelf.Ren := ⟨fun | 171 => 31 | 243 => 37 | 246 => 40 | 283 => 41 | 284 => 42 | 285 => 43 | 286 => 44 | 129 => 46 | 317 => 45 | 318 => 47 | 319 => 48 | 320 => 49 | 337 => 50 | 338 => 51 | n => n, fun | 3 => 3 | 9 => 9 | 2 => 2 | 4 => 4 | 171 => 68 | 0 => 0 | 53 => 69 | 37 => 44 | 5 => 5 | 173 => 72 | 212 => 76 | 51 => 77 | 20 => 20 | 213 => 78 | 46 => 80 | 232 => 83 | 233 => 84 | n => n, fun | 17 => 0 | 18 => 1 | 19 => 2 | n => n⟩
theorem Tryd.lays171 : Go.Proofs.Lays.n171 Tryd.prog Tryd.lays171_ren := {
  mixed := by kernel_rfl
  f129 := Tryd.func46.trans (congrArg some (by kernel_rfl))
  f171 := Tryd.func31.trans (congrArg some (by kernel_rfl))
  f243 := Tryd.func37.trans (congrArg some (by kernel_rfl))
  f246 := Tryd.func40.trans (congrArg some (by kernel_rfl))
  f283 := Tryd.func41.trans (congrArg some (by kernel_rfl))
  f284 := Tryd.func42.trans (congrArg some (by kernel_rfl))
  f285 := Tryd.func43.trans (congrArg some (by kernel_rfl))
  f286 := Tryd.func44.trans (congrArg some (by kernel_rfl))
  f317 := Tryd.func45.trans (congrArg some (by kernel_rfl))
  f318 := Tryd.func47.trans (congrArg some (by kernel_rfl))
  f319 := Tryd.func48.trans (congrArg some (by kernel_rfl))
  f320 := Tryd.func49.trans (congrArg some (by kernel_rfl))
  f337 := Tryd.func50.trans (congrArg some (by kernel_rfl))
  f338 := Tryd.func51.trans (congrArg some (by kernel_rfl))
  t0 := Tryd.underlying0
  a0 := Tryd.isAgg0
  z0 := Tryd.sizeOf0
  v0 := Tryd.zeroValue0
  t2 := Tryd.underlying2
  a2 := Tryd.isAgg2
  z2 := Tryd.sizeOf2
  v2 := Tryd.zeroValue2
  t3 := Tryd.underlying3
  a3 := Tryd.isAgg3
  z3 := Tryd.sizeOf3
  v3 := Tryd.zeroValue3
  t4 := Tryd.underlying4
  a4 := Tryd.isAgg4
  z4 := Tryd.sizeOf4
  v4 := Tryd.zeroValue4
  t5 := Tryd.underlying5
  a5 := Tryd.isAgg5
  z5 := Tryd.sizeOf5
  v5 := Tryd.zeroValue5
  t9 := Tryd.underlying9
  a9 := Tryd.isAgg9
  z9 := Tryd.sizeOf9
  v9 := Tryd.zeroValue9
  t20 := Tryd.underlying20
  a20 := Tryd.isAgg20
  z20 := Tryd.sizeOf20
  v20 := Tryd.zeroValue20
  t37 := Tryd.underlying44
  a37 := Tryd.isAgg44
  z37 := Tryd.sizeOf44
  v37 := Tryd.zeroValue44
  t46 := Tryd.underlying80
  a46 := Tryd.isAgg80
  z46 := Tryd.sizeOf80
  v46 := Tryd.zeroValue80
  t51 := Tryd.underlying77
  a51 := Tryd.isAgg77
  z51 := Tryd.sizeOf77
  v51 := Tryd.zeroValue77
  t53 := Tryd.underlying69
  a53 := Tryd.isAgg69
  z53 := Tryd.sizeOf69
  v53 := Tryd.zeroValue69
  t171 := Tryd.underlying68
  a171 := Tryd.isAgg68
  z171 := Tryd.sizeOf68
  v171 := Tryd.zeroValue68
  t173 := Tryd.underlying72
  a173 := Tryd.isAgg72
  z173 := Tryd.sizeOf72
  v173 := Tryd.zeroValue72
  t212 := Tryd.underlying76
  a212 := Tryd.isAgg76
  z212 := Tryd.sizeOf76
  v212 := Tryd.zeroValue76
  t213 := Tryd.underlying78
  a213 := Tryd.isAgg78
  z213 := Tryd.sizeOf78
  t232 := Tryd.underlying83
  a232 := Tryd.isAgg83
  z232 := Tryd.sizeOf83
  v232 := Tryd.zeroValue83
  t233 := Tryd.underlying84
  a233 := Tryd.isAgg84
  z233 := Tryd.sizeOf84
  v233 := Tryd.zeroValue84
  g17 := by kernel_rfl
  g18 := by kernel_rfl
  g19 := by kernel_rfl }
open Go.RowKit Go.Sort Go.Lib in
 
theorem Tryd.strconv_Itoa_small (i : Nat) (hi : i < 100) (w : World) :
    Calls Tryd.prog 31 #[.int .i64 i] w fun e w' => e = .returned (.string ⟨(Lib.decDigits i).toArray⟩) ∧ w' = w := Any.strconv_Itoa_small Tryd.lays171 i hi w
end Go.Proofs
namespace Go.Fw
open Go Go.Proofs
set_option maxHeartbeats 10000000
set_option maxRecDepth 100000
set_option linter.constructorNameAsVariable false
set_option linter.unusedVariables false
set_option linter.unusedSimpArgs false
theorem itoa_con (n : Nat) (hn : n ≤ 9223372036854775807) : Has Tryd.prog 31 [CV.d (.int .i64 n)] (fun rs _ => rs = [.d (.str (itoaS n))]) := by
  have e : Lib.itoa (n : Int) = Lib.decDigits n := by unfold Lib.itoa; rw [if_neg (by omega), Int.toNat_natCast]
  have := itoa_has (fn := Tryd.f31) (by kernel_rfl) (by kernel_rfl) (by kernel_rfl) (gt := 0) (by kernel_rfl) (by simp [tabList]) Tryd.strconv_Itoa n (by omega) (by omega)
  rw [e] at this
  exact this
theorem digits0_con (n : Nat) (hn : n ≤ 9223372036854775807) (ih : 10 ≤ n → ∀ k : Nat, k < n → Has Tryd.prog 24 [CV.d (.int .i64 k)] (fun rs _ => rs = [.d (.str (itoaS k))])) : Has Tryd.prog 24 [CV.d (D.int .i64 n)] (fun rs _ => rs = [CV.d (D.str (itoaS n))]) := by
  refine Has_of_run (fn := Tryd.f24) (M := M0) fol (by kernel_rfl) 3 noPlan [] [] (by kernel_rfl) (Nat.le_of_ble_eq_true rfl) ?_
  (repeat' ((conv => whnf); first | done | (refine And.intro (fun h => ?_) (fun h => ?_) <;> (try simp only [Bool.or_eq_true, Bool.and_eq_true, Bool.or_eq_false_iff, Bool.and_eq_false_iff, toNat_pred, toNat_succ, toNat_addn, toNat_subn, decide_eq_true_eq, decide_eq_false_iff_not, Bool.not_eq_true', Bool.not_eq_false', List.length_map, Int.toNat_natCast, Int.not_lt, Int.not_le, Bool.not_eq_true, Bool.false_eq_true, Bool.true_eq_false, Bool.not_true, Bool.not_false, reduceCtorEq, beq_iff_eq, Bool.not_eq_eq_eq_not, bne_iff_ne, ne_eq, decide_not, Decidable.not_not, Classical.not_not] at h)) | exact (rfl : (_ : AV) = _) | exact (rfl : (_ : St) = _) | refine Exists.intro (α := AV) AV.dead (And.intro (fun h => Bool.noConfusion h) ?_) | apply ex_av | (refine fun (h : (_ : Bool) = true) => ?_; have h' := h; (try simp only [Bool.or_eq_true, Bool.and_eq_true, Bool.or_eq_false_iff, Bool.and_eq_false_iff, toNat_pred, toNat_succ, toNat_addn, toNat_subn, decide_eq_true_eq, decide_eq_false_iff_not, Bool.not_eq_true', Bool.not_eq_false', List.length_map, Int.toNat_natCast, Int.not_lt, Int.not_le, Bool.not_eq_true, Bool.false_eq_true, Bool.true_eq_false, Bool.not_true, Bool.not_false, reduceCtorEq, beq_iff_eq, Bool.not_eq_eq_eq_not, bne_iff_ne, ne_eq, decide_not, Decidable.not_not, Classical.not_not] at h')) | refine And.intro (show Both _ _ _ by (refine ⟨fun h => ?_, fun h => ?_⟩ <;> first | rfl | exact h | exact Bool.noConfusion h | (rw [h]; rfl) | (simp_all; done) | fail)) ?_ | refine And.intro rfl ?_ | refine Two.mk ?_ ?_ | refine And.intro (allU8_bytes _) ?_ | refine And.intro (show (_ : Bool) = true by first | assumption | (simp_all; done) | fail) ?_ | refine And.intro (Or.inr rfl) ?_ | refine And.intro (Nat.le_of_ble_eq_true rfl) ?_ | refine And.intro (decide_eq_false (by omega)) ?_ | refine And.intro (show Program.stoodInHeld _ _ = _ by kernel_rfl) (And.intro (by kernel_rfl) ?_) | refine And.intro (show Nat.beq _ _ = _ from rfl) (And.intro (by decide) ?_) | refine And.intro ⟨rfl, rfl⟩ ?_ | refine And.intro ⟨rfl, rfl, trivial⟩ ?_ | refine And.intro (Int.natCast_nonneg _) ?_ | refine Or.inl (And.intro rfl (And.intro rfl (And.intro rfl (And.intro rfl ?_)))) | refine Or.inl (And.intro rfl (And.intro rfl ?_)) | refine Or.inr (And.intro (Nat.le_of_ble_eq_true rfl) ?_) | refine Or.inl (And.intro (by unfold in64; omega) ?_) | refine And.intro (by first | omega | (simp only [dlen, true_and, and_true, Nat.le_refl, List.length_map, List.length_append, List.length_cons, List.length_nil, List.length_take, List.length_drop, List.length_replicate, Int.toNat_natCast, List.append_nil] <;> omega) | fail) ?_ | refine And.intro (allU8_bytes _) ?_ | refine And.intro (show elemsP _ _ _ by repeat' (first | exact rfl | exact trivial | constructor)) ?_ | (rw [show (n : Int) / 10 = ((n / 10 : Nat) : Int) by omega]; refine (ih (by omega) (n / 10) (by omega)).mono fun rs bs hr => ?_; subst hr) | (rw [show (n : Int) % 10 = ((n % 10 : Nat) : Int) by omega]; refine (ih (by omega) (n % 10) (by omega)).mono fun rs bs hr => ?_; subst hr) | (refine And.intro (itoaS_room hn) ?_) | (refine fun x hx => ?_; (try simp (disch := omega) only [Int.tdiv_eq_ediv_of_nonneg, Int.tmod_eq_emod_of_nonneg, bx, Bool.true_or, Bool.false_or, Bool.or_false, Bool.or_true, Bool.and_true, Bool.true_and, Bool.false_and, Bool.and_false, cond_true, cond_false, if_true, if_false, Bool.false_eq_true, min_nn, max_nn, min_ln, min_nl, max_ln, max_nl, getD_map, str_of_bytes, take_bytes, take_data, wrap_u64, wrap_u32, wrap_u8, shr_i64, shr_u64, shr_u32, shl_i64, shl_u64, Int.reduceToNat, Int.reducePow, Int.pow_succ, Int.pow_zero, Int.one_mul, Int.reduceMul, wrap_id, wrap_u8_nat, wrap_i64_u8, byteD_mk, map_snoc, map_app, set_map, take_map', drop_map', Nat.sub_zero, List.length_map, List.length_append, List.length_cons, List.length_nil, Int.toNat_natCast, List.drop_zero, List.take_succ_cons, List.take_zero, List.take_length, List.nil_append, List.append_nil, Nat.zero_add, toNat_pred, toNat_succ, toNat_addn, toNat_subn] at hx); subst hx) | rw [List.take_length] | (rw [List.take_of_length_le]; rotate_left; (first | omega | (simp only [dlen, true_and, and_true, Nat.le_refl, List.length_map, List.length_append, List.length_cons, List.length_nil, List.length_take, List.length_drop, List.length_replicate, Int.toNat_natCast, List.append_nil] <;> omega) | fail)) | refine fun h => ?_ | fail)); all_goals (try exact (AV.dead : AV)); all_goals (try (conv => whnf))
  · rw [itoaS_one (by omega)]
  · rw [itoaS_more (n := n) (by omega)]
theorem digits_con : ∀ (n : Nat), n ≤ 9223372036854775807 → Has Tryd.prog 24 [CV.d (.int .i64 n)] (fun rs _ => rs = [.d (.str (itoaS n))]) := by
  intro n
  induction n using Nat.strongRecOn with
  | _ n ih => exact fun hn => digits0_con n hn fun _ k hk => ih k hk (by omega)
theorem made_con (x : Sc) (s : ByteArray) (hs : s.size ≤ 1000000000) (h0 : 0 ≤ x.fr) (h1 : 0 ≤ x.n) (h2 : x.fr ≤ 9223372036854775807) (h3 : x.n ≤ 9223372036854775807) : Has Tryd.prog 23 [CV.d (encSc x), CV.d (D.str s)] (fun rs _ => rs = [CV.d (D.str (madeS x.kind x.fr x.n s))] ) := by
  rw [encSc_eq]; have hnp := npts_le s
  refine Has_of_run (fn := Tryd.f23) (M := M0) fol (by kernel_rfl) 2 noPlan [] [] (by kernel_rfl) (Nat.le_of_ble_eq_true rfl) ?_
  have e1 : ((x.fr.toNat : Nat) : Int) = x.fr := by omega
  have e2 : ((x.n.toNat : Nat) : Int) = x.n := by omega
  (repeat' ((conv => whnf); first | done | (refine And.intro (fun h => ?_) (fun h => ?_) <;> (try simp only [Bool.or_eq_true, Bool.and_eq_true, Bool.or_eq_false_iff, Bool.and_eq_false_iff, toNat_pred, toNat_succ, toNat_addn, toNat_subn, decide_eq_true_eq, decide_eq_false_iff_not, Bool.not_eq_true', Bool.not_eq_false', List.length_map, Int.toNat_natCast, Int.not_lt, Int.not_le, Bool.not_eq_true, Bool.false_eq_true, Bool.true_eq_false, Bool.not_true, Bool.not_false, reduceCtorEq, beq_iff_eq, Bool.not_eq_eq_eq_not, bne_iff_ne, ne_eq, decide_not, Decidable.not_not, Classical.not_not] at h)) | exact (rfl : (_ : AV) = _) | exact (rfl : (_ : St) = _) | refine Exists.intro (α := AV) AV.dead (And.intro (fun h => Bool.noConfusion h) ?_) | apply ex_av | (refine fun (h : (_ : Bool) = true) => ?_; have h' := h; (try simp only [Bool.or_eq_true, Bool.and_eq_true, Bool.or_eq_false_iff, Bool.and_eq_false_iff, toNat_pred, toNat_succ, toNat_addn, toNat_subn, decide_eq_true_eq, decide_eq_false_iff_not, Bool.not_eq_true', Bool.not_eq_false', List.length_map, Int.toNat_natCast, Int.not_lt, Int.not_le, Bool.not_eq_true, Bool.false_eq_true, Bool.true_eq_false, Bool.not_true, Bool.not_false, reduceCtorEq, beq_iff_eq, Bool.not_eq_eq_eq_not, bne_iff_ne, ne_eq, decide_not, Decidable.not_not, Classical.not_not] at h')) | refine And.intro (show Both _ _ _ by (refine ⟨fun h => ?_, fun h => ?_⟩ <;> first | rfl | exact h | exact Bool.noConfusion h | (rw [h]; rfl) | (simp_all; done) | fail)) ?_ | refine And.intro rfl ?_ | refine Two.mk ?_ ?_ | refine And.intro (allU8_bytes _) ?_ | refine And.intro (show (_ : Bool) = true by first | assumption | (simp_all; done) | fail) ?_ | refine And.intro (Or.inr rfl) ?_ | refine And.intro (Nat.le_of_ble_eq_true rfl) ?_ | refine And.intro (decide_eq_false (by omega)) ?_ | refine And.intro (show Program.stoodInHeld _ _ = _ by kernel_rfl) (And.intro (by kernel_rfl) ?_) | refine And.intro (show Nat.beq _ _ = _ from rfl) (And.intro (by decide) ?_) | refine And.intro ⟨rfl, rfl⟩ ?_ | refine And.intro ⟨rfl, rfl, trivial⟩ ?_ | refine And.intro (Int.natCast_nonneg _) ?_ | refine Or.inl (And.intro rfl (And.intro rfl (And.intro rfl (And.intro rfl ?_)))) | refine Or.inl (And.intro rfl (And.intro rfl ?_)) | refine Or.inr (And.intro (Nat.le_of_ble_eq_true rfl) ?_) | refine Or.inl (And.intro (by unfold in64; omega) ?_) | refine And.intro (by first | omega | (simp only [dlen, true_and, and_true, Nat.le_refl, List.length_map, List.length_append, List.length_cons, List.length_nil, List.length_take, List.length_drop, List.length_replicate, Int.toNat_natCast, List.append_nil] <;> omega) | fail) ?_ | refine And.intro (allU8_bytes _) ?_ | refine And.intro (show elemsP _ _ _ by repeat' (first | exact rfl | exact trivial | constructor)) ?_ | (refine (len_con _ (by omega)).mono fun rs bs hr => ?_; subst hr) | (refine (itoa_con _ (by omega)).mono fun rs bs hr => ?_; subst hr) | (refine (fold_con _ (by omega)).mono fun rs bs hr => ?_; subst hr) | (rw [← e1, ← e2]; refine (sub_con _ _ _ (by omega) (by omega) (by omega)).mono fun rs bs hr => ?_; subst hr) | (refine fun x hx => ?_; (try simp (disch := omega) only [Int.tdiv_eq_ediv_of_nonneg, Int.tmod_eq_emod_of_nonneg, bx, Bool.true_or, Bool.false_or, Bool.or_false, Bool.or_true, Bool.and_true, Bool.true_and, Bool.false_and, Bool.and_false, cond_true, cond_false, if_true, if_false, Bool.false_eq_true, min_nn, max_nn, min_ln, min_nl, max_ln, max_nl, getD_map, str_of_bytes, take_bytes, take_data, wrap_u64, wrap_u32, wrap_u8, shr_i64, shr_u64, shr_u32, shl_i64, shl_u64, Int.reduceToNat, Int.reducePow, Int.pow_succ, Int.pow_zero, Int.one_mul, Int.reduceMul, wrap_id, wrap_u8_nat, wrap_i64_u8, byteD_mk, map_snoc, map_app, set_map, take_map', drop_map', Nat.sub_zero, List.length_map, List.length_append, List.length_cons, List.length_nil, Int.toNat_natCast, List.drop_zero, List.take_succ_cons, List.take_zero, List.take_length, List.nil_append, List.append_nil, Nat.zero_add, toNat_pred, toNat_succ, toNat_addn, toNat_subn] at hx); subst hx) | rw [List.take_length] | (rw [List.take_of_length_le]; rotate_left; (first | omega | (simp only [dlen, true_and, and_true, Nat.le_refl, List.length_map, List.length_append, List.length_cons, List.length_nil, List.length_take, List.length_drop, List.length_replicate, Int.toNat_natCast, List.append_nil] <;> omega) | fail)) | refine fun h => ?_ | fail)); all_goals (try exact (AV.dead : AV)); all_goals (try (conv => whnf))
  all_goals try rw [e1, e2]
  all_goals unfold madeS
  · rw [if_pos (by assumption)]
  · rw [if_neg (by omega), if_pos (by assumption)]
  · rw [if_neg (by omega), if_neg (by omega), if_pos (by assumption)]
  · rw [if_neg (by omega), if_neg (by omega), if_neg (by omega)]
end Go.Fw
namespace Go.Fw
open Go Go.Proofs
set_option maxHeartbeats 10000000
set_option maxRecDepth 100000
set_option linter.constructorNameAsVariable false
set_option linter.unusedVariables false
set_option linter.unusedSimpArgs false
 
def HasVal (row : List Vl) (x : Sc) : Prop := Has Tryd.prog 14 [CV.d (encSc x), CV.d (.sl 2 (row.map encV))] (fun rs _ => rs = [.d (encV (valS row x).1), .d (.int .i64 (valS row x).2)])
theorem first_con (row : List Vl) (l : List Sc) (ih : ∀ k ∈ l, HasVal row k) : Has Tryd.prog 21 [CV.d (D.sl 6 (l.map encSc)), CV.d (D.sl 2 (row.map encV))] (fun rs _ => rs = [CV.d (encV (firstS row l).1), CV.d (D.int .i64 ((firstS row l).2))]) := by
  refine Has_of_run (fn := Tryd.f21) (M := M0) fol (by kernel_rfl) 4 noPlan [] [] (by kernel_rfl) (Nat.le_of_ble_eq_true rfl) ?_
  (repeat' ((conv => whnf); first | done | (refine And.intro (fun h => ?_) (fun h => ?_) <;> (try simp only [Bool.or_eq_true, Bool.and_eq_true, Bool.or_eq_false_iff, Bool.and_eq_false_iff, toNat_pred, toNat_succ, toNat_addn, toNat_subn, decide_eq_true_eq, decide_eq_false_iff_not, Bool.not_eq_true', Bool.not_eq_false', List.length_map, Int.toNat_natCast, Int.not_lt, Int.not_le, Bool.not_eq_true, Bool.false_eq_true, Bool.true_eq_false, Bool.not_true, Bool.not_false, reduceCtorEq, beq_iff_eq, Bool.not_eq_eq_eq_not, bne_iff_ne, ne_eq, decide_not, Decidable.not_not, Classical.not_not] at h)) | exact (rfl : (_ : AV) = _) | exact (rfl : (_ : St) = _) | refine Exists.intro (α := AV) AV.dead (And.intro (fun h => Bool.noConfusion h) ?_) | apply ex_av | (refine fun (h : (_ : Bool) = true) => ?_; have h' := h; (try simp only [Bool.or_eq_true, Bool.and_eq_true, Bool.or_eq_false_iff, Bool.and_eq_false_iff, toNat_pred, toNat_succ, toNat_addn, toNat_subn, decide_eq_true_eq, decide_eq_false_iff_not, Bool.not_eq_true', Bool.not_eq_false', List.length_map, Int.toNat_natCast, Int.not_lt, Int.not_le, Bool.not_eq_true, Bool.false_eq_true, Bool.true_eq_false, Bool.not_true, Bool.not_false, reduceCtorEq, beq_iff_eq, Bool.not_eq_eq_eq_not, bne_iff_ne, ne_eq, decide_not, Decidable.not_not, Classical.not_not] at h')) | refine And.intro (show Both _ _ _ by (refine ⟨fun h => ?_, fun h => ?_⟩ <;> first | rfl | exact h | exact Bool.noConfusion h | (rw [h]; rfl) | (simp_all; done) | fail)) ?_ | refine And.intro rfl ?_ | refine Two.mk ?_ ?_ | refine And.intro (allU8_bytes _) ?_ | refine And.intro (show (_ : Bool) = true by first | assumption | (simp_all; done) | fail) ?_ | refine And.intro (Or.inr rfl) ?_ | refine And.intro (Nat.le_of_ble_eq_true rfl) ?_ | refine And.intro (decide_eq_false (by omega)) ?_ | refine And.intro (show Program.stoodInHeld _ _ = _ by kernel_rfl) (And.intro (by kernel_rfl) ?_) | refine And.intro (show Nat.beq _ _ = _ from rfl) (And.intro (by decide) ?_) | refine And.intro ⟨rfl, rfl⟩ ?_ | refine And.intro ⟨rfl, rfl, trivial⟩ ?_ | refine And.intro (Int.natCast_nonneg _) ?_ | refine Or.inl (And.intro rfl (And.intro rfl (And.intro rfl (And.intro rfl ?_)))) | refine Or.inl (And.intro rfl (And.intro rfl ?_)) | refine Or.inr (And.intro (Nat.le_of_ble_eq_true rfl) ?_) | refine Or.inl (And.intro (by unfold in64; omega) ?_) | refine And.intro (by first | omega | (simp only [dlen, true_and, and_true, Nat.le_refl, List.length_map, List.length_append, List.length_cons, List.length_nil, List.length_take, List.length_drop, List.length_replicate, Int.toNat_natCast, List.append_nil] <;> omega) | fail) ?_ | refine And.intro (allU8_bytes _) ?_ | refine And.intro (show elemsP _ _ _ by repeat' (first | exact rfl | exact trivial | constructor)) ?_ | (rw [← encSc_eq]; refine (ih _ (getD_mem (by omega))).mono fun rs bs hr => ?_; subst hr) | (refine Loops.by (M := M0) 4 noPlan fol (by kernel_rfl) (ι := Nat) (fun i => ⟨[(1, AV.d (D.sl 2 (row.map encV))), (4, AV.addr [4] 16 0), (10, AV.d (D.sl 6 (l.map encSc))), (11, AV.d (D.int .i64 l.length)), (12, AV.d (D.int .i64 i))], [([4], 16, AO.box 32 [AV.d (D.bool false), AV.d (D.str (⟨#[]⟩))])], 17⟩) (fun i => i ≤ l.length ∧ firstS row (l.drop i) = firstS row l) (fun i => l.length - i) (fun i hI => ?_) (0) ⟨Nat.zero_le _, rfl⟩ (Forget.mk' ⟨⟨rfl, rfl⟩, ⟨rfl, rfl⟩, ⟨rfl, rfl⟩, ⟨rfl, rfl⟩, ⟨rfl, rfl⟩, trivial⟩ ⟨⟨rfl, rfl, rfl⟩, trivial⟩ rfl rfl); obtain ⟨hi, hI⟩ := hI) | (refine fun x hx => ?_; (try simp (disch := omega) only [Int.tdiv_eq_ediv_of_nonneg, Int.tmod_eq_emod_of_nonneg, bx, Bool.true_or, Bool.false_or, Bool.or_false, Bool.or_true, Bool.and_true, Bool.true_and, Bool.false_and, Bool.and_false, cond_true, cond_false, if_true, if_false, Bool.false_eq_true, min_nn, max_nn, min_ln, min_nl, max_ln, max_nl, getD_map, str_of_bytes, take_bytes, take_data, wrap_u64, wrap_u32, wrap_u8, shr_i64, shr_u64, shr_u32, shl_i64, shl_u64, Int.reduceToNat, Int.reducePow, Int.pow_succ, Int.pow_zero, Int.one_mul, Int.reduceMul, wrap_id, wrap_u8_nat, wrap_i64_u8, byteD_mk, map_snoc, map_app, set_map, take_map', drop_map', Nat.sub_zero, List.length_map, List.length_append, List.length_cons, List.length_nil, Int.toNat_natCast, List.drop_zero, List.take_succ_cons, List.take_zero, List.take_length, List.nil_append, List.append_nil, Nat.zero_add, toNat_pred, toNat_succ, toNat_addn, toNat_subn, encSc_eq] at hx); subst hx) | rw [List.take_length] | (rw [List.take_of_length_le]; rotate_left; (first | omega | (simp only [dlen, true_and, and_true, Nat.le_refl, List.length_map, List.length_append, List.length_cons, List.length_nil, List.length_take, List.length_drop, List.length_replicate, Int.toNat_natCast, List.append_nil] <;> omega) | fail)) | refine fun h => ?_ | fail)); all_goals (try exact (AV.dead : AV)); all_goals (try (conv => whnf))
  · rename_i h
    rw [← hI, firstS_at row (by omega), if_pos h]; rfl
  · rename_i h
    exact ⟨i + 1, ⟨⟨by omega, by rw [← hI, firstS_at row (i := i) (by omega), if_neg (fun hc => hc.elim (fun hc => hc h.1) (fun hc => Bool.noConfusion (h.2.symm.trans hc)))]⟩, by omega⟩, (Forget.mk' ⟨⟨rfl, rfl⟩, ⟨rfl, rfl⟩, ⟨rfl, rfl⟩, ⟨rfl, rfl⟩, ⟨rfl, rfl⟩, trivial⟩ ⟨⟨rfl, rfl, rfl⟩, trivial⟩ rfl rfl)⟩
  · rw [← hI, List.drop_eq_nil_of_le (by omega)]; rfl
def pl22 : Nat → Plan
  | 8 => tks 0 [0, 0, 1, 0, 0, 0, 0, 1, 0, 0] (.one 10 (.one 11 (.done)))
  | _ => .done
theorem whole_con (row : List Vl) (l : List Sc) (hl : l.length ≤ 8) (ih : ∀ k ∈ l, HasVal row k) (hz : ∀ k ∈ l, (valS row k).1.2.size ≤ 4096) : Has Tryd.prog 22 [CV.d (D.sl 6 (l.map encSc)), CV.d (D.sl 2 (row.map encV))] (fun rs _ => rs = [CV.d (D.str ((wholeS row l nilB true).1)), CV.d (D.bool ((wholeS row l nilB true).2.1)), CV.d (D.int .i64 ((wholeS row l nilB true).2.2))]) := by
  refine Has_of_run (fn := Tryd.f22) (M := M0) fol (by kernel_rfl) 10 pl22 [] [] (by kernel_rfl) (Nat.le_of_ble_eq_true rfl) ?_
  (repeat' ((conv => whnf); first | done | (refine And.intro (fun h => ?_) (fun h => ?_) <;> (try simp only [Bool.or_eq_true, Bool.and_eq_true, Bool.or_eq_false_iff, Bool.and_eq_false_iff, toNat_pred, toNat_succ, toNat_addn, toNat_subn, decide_eq_true_eq, decide_eq_false_iff_not, Bool.not_eq_true', Bool.not_eq_false', List.length_map, Int.toNat_natCast, Int.not_lt, Int.not_le, Bool.not_eq_true, Bool.false_eq_true, Bool.true_eq_false, Bool.not_true, Bool.not_false, reduceCtorEq, beq_iff_eq, Bool.not_eq_eq_eq_not, bne_iff_ne, ne_eq, decide_not, Decidable.not_not, Classical.not_not] at h)) | exact (rfl : (_ : AV) = _) | exact (rfl : (_ : St) = _) | refine Exists.intro (α := AV) AV.dead (And.intro (fun h => Bool.noConfusion h) ?_) | apply ex_av | (refine fun (h : (_ : Bool) = true) => ?_; have h' := h; (try simp only [Bool.or_eq_true, Bool.and_eq_true, Bool.or_eq_false_iff, Bool.and_eq_false_iff, toNat_pred, toNat_succ, toNat_addn, toNat_subn, decide_eq_true_eq, decide_eq_false_iff_not, Bool.not_eq_true', Bool.not_eq_false', List.length_map, Int.toNat_natCast, Int.not_lt, Int.not_le, Bool.not_eq_true, Bool.false_eq_true, Bool.true_eq_false, Bool.not_true, Bool.not_false, reduceCtorEq, beq_iff_eq, Bool.not_eq_eq_eq_not, bne_iff_ne, ne_eq, decide_not, Decidable.not_not, Classical.not_not] at h')) | refine And.intro (show Both _ _ _ by (refine ⟨fun h => ?_, fun h => ?_⟩ <;> first | rfl | exact h | exact Bool.noConfusion h | (rw [h]; rfl) | (simp_all; done) | fail)) ?_ | refine And.intro rfl ?_ | refine Two.mk ?_ ?_ | refine And.intro (allU8_bytes _) ?_ | refine And.intro (show (_ : Bool) = true by first | assumption | (simp_all; done) | fail) ?_ | refine And.intro (Or.inr rfl) ?_ | refine And.intro (Nat.le_of_ble_eq_true rfl) ?_ | refine And.intro (decide_eq_false (by omega)) ?_ | refine And.intro (show Program.stoodInHeld _ _ = _ by kernel_rfl) (And.intro (by kernel_rfl) ?_) | refine And.intro (show Nat.beq _ _ = _ from rfl) (And.intro (by decide) ?_) | refine And.intro ⟨rfl, rfl⟩ ?_ | refine And.intro ⟨rfl, rfl, trivial⟩ ?_ | refine And.intro (Int.natCast_nonneg _) ?_ | refine Or.inl (And.intro rfl (And.intro rfl (And.intro rfl (And.intro rfl ?_)))) | refine Or.inl (And.intro rfl (And.intro rfl ?_)) | refine Or.inr (And.intro (Nat.le_of_ble_eq_true rfl) ?_) | refine Or.inl (And.intro (by unfold in64; omega) ?_) | refine And.intro (by first | omega | (simp only [dlen, true_and, and_true, Nat.le_refl, List.length_map, List.length_append, List.length_cons, List.length_nil, List.length_take, List.length_drop, List.length_replicate, Int.toNat_natCast, List.append_nil] <;> omega) | fail) ?_ | refine And.intro (allU8_bytes _) ?_ | refine And.intro (show elemsP _ _ _ by repeat' (first | exact rfl | exact trivial | constructor)) ?_ | (rw [← encSc_eq]; refine (ih _ (getD_mem (by omega))).mono fun rs bs hr => ?_; subst hr) | (refine Loops.by (M := M0) 10 pl22 fol (by kernel_rfl) (ι := Nat × ByteArray × Bool) (fun ⟨i, s, ok⟩ => ⟨[(1, AV.d (D.sl 2 (row.map encV))), (7, AV.d (D.str s)), (8, AV.d (D.bool ok)), (13, AV.d (D.sl 6 (l.map encSc))), (14, AV.d (D.int .i64 l.length)), (15, AV.d (D.int .i64 i))], [], 16⟩) (fun ⟨i, s, ok⟩ => i ≤ l.length ∧ wholeS row (l.drop i) s ok = wholeS row l nilB true ∧ s.size ≤ i * 4096) (fun ⟨i, s, ok⟩ => l.length - i) (fun p hI => ?_) ((0, nilB, true)) ⟨Nat.zero_le _, rfl, Nat.zero_le _⟩ (Forget.mk' ⟨⟨rfl, rfl⟩, ⟨rfl, rfl⟩, ⟨rfl, rfl⟩, ⟨rfl, rfl⟩, ⟨rfl, rfl⟩, ⟨rfl, rfl⟩, trivial⟩ trivial rfl rfl); obtain ⟨i, s, ok⟩ := p; obtain ⟨hi, hI, hs⟩ := hI; have hv : i < l.length → (valS row (l.getD i default)).1.2.size ≤ 4096 := fun h => hz _ (getD_mem h)) | (refine fun x hx => ?_; (try simp (disch := omega) only [Int.tdiv_eq_ediv_of_nonneg, Int.tmod_eq_emod_of_nonneg, bx, Bool.true_or, Bool.false_or, Bool.or_false, Bool.or_true, Bool.and_true, Bool.true_and, Bool.false_and, Bool.and_false, cond_true, cond_false, if_true, if_false, Bool.false_eq_true, min_nn, max_nn, min_ln, min_nl, max_ln, max_nl, getD_map, str_of_bytes, take_bytes, take_data, wrap_u64, wrap_u32, wrap_u8, shr_i64, shr_u64, shr_u32, shl_i64, shl_u64, Int.reduceToNat, Int.reducePow, Int.pow_succ, Int.pow_zero, Int.one_mul, Int.reduceMul, wrap_id, wrap_u8_nat, wrap_i64_u8, byteD_mk, map_snoc, map_app, set_map, take_map', drop_map', Nat.sub_zero, List.length_map, List.length_append, List.length_cons, List.length_nil, Int.toNat_natCast, List.drop_zero, List.take_succ_cons, List.take_zero, List.take_length, List.nil_append, List.append_nil, Nat.zero_add, toNat_pred, toNat_succ, toNat_addn, toNat_subn, encSc_eq] at hx); subst hx) | rw [List.take_length] | (rw [List.take_of_length_le]; rotate_left; (first | omega | (simp only [dlen, true_and, and_true, Nat.le_refl, List.length_map, List.length_append, List.length_cons, List.length_nil, List.length_take, List.length_drop, List.length_replicate, Int.toNat_natCast, List.append_nil] <;> omega) | fail)) | refine fun h => ?_ | fail)); all_goals (try exact (AV.dead : AV)); all_goals (try (conv => whnf))
  · rename_i h
    rw [← hI, wholeS_at row (by omega), if_pos h]; rfl
  · rename_i h
    have hv' := hv (by omega)
    exact ⟨(i + 1, _, _), ⟨⟨by omega, by rw [← hI, wholeS_at row (i := i) (by omega), if_neg (fun hc => hc h)], by rw [ByteArray.size_append]; omega⟩, by show l.length - (i + 1) < l.length - i; omega⟩, (Forget.mk' ⟨⟨rfl, rfl⟩, ⟨rfl, rfl⟩, ⟨rfl, rfl⟩, ⟨rfl, rfl⟩, ⟨rfl, rfl⟩, ⟨rfl, rfl⟩, trivial⟩ trivial rfl rfl)⟩
  · rw [← hI, List.drop_eq_nil_of_le (by omega)]; rfl
theorem value0_con (row : List Vl) (hr : rowOK row) (x : Sc) (hg : Good row.length x) (ih : ∀ k ∈ x.kids, HasVal row k) (hc : x.kind = 1 → 0 ≤ x.col ∧ x.col < row.length) (h0 : 0 ≤ x.fr ∧ 0 ≤ x.n) (h1 : x.fr ≤ 9223372036854775807 ∧ x.n ≤ 9223372036854775807) (h8 : x.kids.length ≤ 8) (hz : ∀ k ∈ x.kids, (valS row k).1.2.size ≤ 4096) : Has Tryd.prog 14 [CV.d (encSc x), CV.d (D.sl 2 (row.map encV))] (fun rs _ => rs = [CV.d (encV (valS row x).1), CV.d (D.int .i64 ((valS row x).2))] ) := by
  rw [encSc_eq]
  refine Has_of_run (fn := Tryd.f14) (M := M0) fol (by kernel_rfl) 2 noPlan [] [] (by kernel_rfl) (Nat.le_of_ble_eq_true rfl) ?_
  have hw : ¬ x.kind = 1 → ¬ x.kind = 2 → ¬ x.kind = 3 → (wholeS row x.kids nilB true).1.size ≤ 32768 := fun a b c => hg.whole hr ⟨a, b, c⟩
  (repeat' ((conv => whnf); first | done | (refine And.intro (fun h => ?_) (fun h => ?_) <;> (try simp only [Bool.or_eq_true, Bool.and_eq_true, Bool.or_eq_false_iff, Bool.and_eq_false_iff, toNat_pred, toNat_succ, toNat_addn, toNat_subn, decide_eq_true_eq, decide_eq_false_iff_not, Bool.not_eq_true', Bool.not_eq_false', List.length_map, Int.toNat_natCast, Int.not_lt, Int.not_le, Bool.not_eq_true, Bool.false_eq_true, Bool.true_eq_false, Bool.not_true, Bool.not_false, reduceCtorEq, beq_iff_eq, Bool.not_eq_eq_eq_not, bne_iff_ne, ne_eq, decide_not, Decidable.not_not, Classical.not_not] at h)) | exact (rfl : (_ : AV) = _) | exact (rfl : (_ : St) = _) | refine Exists.intro (α := AV) AV.dead (And.intro (fun h => Bool.noConfusion h) ?_) | apply ex_av | (refine fun (h : (_ : Bool) = true) => ?_; have h' := h; (try simp only [Bool.or_eq_true, Bool.and_eq_true, Bool.or_eq_false_iff, Bool.and_eq_false_iff, toNat_pred, toNat_succ, toNat_addn, toNat_subn, decide_eq_true_eq, decide_eq_false_iff_not, Bool.not_eq_true', Bool.not_eq_false', List.length_map, Int.toNat_natCast, Int.not_lt, Int.not_le, Bool.not_eq_true, Bool.false_eq_true, Bool.true_eq_false, Bool.not_true, Bool.not_false, reduceCtorEq, beq_iff_eq, Bool.not_eq_eq_eq_not, bne_iff_ne, ne_eq, decide_not, Decidable.not_not, Classical.not_not] at h')) | refine And.intro (show Both _ _ _ by (refine ⟨fun h => ?_, fun h => ?_⟩ <;> first | rfl | exact h | exact Bool.noConfusion h | (rw [h]; rfl) | (simp_all; done) | fail)) ?_ | refine And.intro rfl ?_ | refine Two.mk ?_ ?_ | refine And.intro (allU8_bytes _) ?_ | refine And.intro (show (_ : Bool) = true by first | assumption | (simp_all; done) | fail) ?_ | refine And.intro (Or.inr rfl) ?_ | refine And.intro (Nat.le_of_ble_eq_true rfl) ?_ | refine And.intro (decide_eq_false (by omega)) ?_ | refine And.intro (show Program.stoodInHeld _ _ = _ by kernel_rfl) (And.intro (by kernel_rfl) ?_) | refine And.intro (show Nat.beq _ _ = _ from rfl) (And.intro (by decide) ?_) | refine And.intro ⟨rfl, rfl⟩ ?_ | refine And.intro ⟨rfl, rfl, trivial⟩ ?_ | refine And.intro (Int.natCast_nonneg _) ?_ | refine Or.inl (And.intro rfl (And.intro rfl (And.intro rfl (And.intro rfl ?_)))) | refine Or.inl (And.intro rfl (And.intro rfl ?_)) | refine Or.inr (And.intro (Nat.le_of_ble_eq_true rfl) ?_) | refine Or.inl (And.intro (by unfold in64; omega) ?_) | refine And.intro (by first | omega | (simp only [dlen, true_and, and_true, Nat.le_refl, List.length_map, List.length_append, List.length_cons, List.length_nil, List.length_take, List.length_drop, List.length_replicate, Int.toNat_natCast, List.append_nil] <;> omega) | fail) ?_ | refine And.intro (allU8_bytes _) ?_ | refine And.intro (show elemsP _ _ _ by repeat' (first | exact rfl | exact trivial | constructor)) ?_ | (refine (first_con row x.kids ih).mono fun rs bs hr => ?_; subst hr) | (refine (whole_con row x.kids h8 ih hz).mono fun rs bs hr => ?_; subst hr) | (rw [← encSc_eq]; refine (made_con x _ (by have := hw ‹_› ‹_› ‹_›; omega) h0.1 h0.2 h1.1 h1.2).mono fun rs bs hr => ?_; subst hr) | (refine fun x hx => ?_; (try simp (disch := omega) only [Int.tdiv_eq_ediv_of_nonneg, Int.tmod_eq_emod_of_nonneg, bx, Bool.true_or, Bool.false_or, Bool.or_false, Bool.or_true, Bool.and_true, Bool.true_and, Bool.false_and, Bool.and_false, cond_true, cond_false, if_true, if_false, Bool.false_eq_true, min_nn, max_nn, min_ln, min_nl, max_ln, max_nl, getD_map, str_of_bytes, take_bytes, take_data, wrap_u64, wrap_u32, wrap_u8, shr_i64, shr_u64, shr_u32, shl_i64, shl_u64, Int.reduceToNat, Int.reducePow, Int.pow_succ, Int.pow_zero, Int.one_mul, Int.reduceMul, wrap_id, wrap_u8_nat, wrap_i64_u8, byteD_mk, map_snoc, map_app, set_map, take_map', drop_map', Nat.sub_zero, List.length_map, List.length_append, List.length_cons, List.length_nil, Int.toNat_natCast, List.drop_zero, List.take_succ_cons, List.take_zero, List.take_length, List.nil_append, List.append_nil, Nat.zero_add, toNat_pred, toNat_succ, toNat_addn, toNat_subn] at hx); subst hx) | rw [List.take_length] | (rw [List.take_of_length_le]; rotate_left; (first | omega | (simp only [dlen, true_and, and_true, Nat.le_refl, List.length_map, List.length_append, List.length_cons, List.length_nil, List.length_take, List.length_drop, List.length_replicate, Int.toNat_natCast, List.append_nil] <;> omega) | fail)) | refine fun h => ?_ | fail)); all_goals (try exact (AV.dead : AV)); all_goals (try (conv => whnf))
  · rw [valS_eq, if_pos (by assumption)]; rfl
  · rw [valS_eq, if_neg (by assumption), if_pos (by assumption)]; rfl
  · rw [valS_eq, if_neg (by assumption), if_neg (by assumption), if_pos (by assumption)]; rfl
  · rw [valS_eq, if_neg (by assumption), if_neg (by assumption), if_neg (by assumption), if_pos (by assumption)]; rfl
  · rw [valS_whole (by assumption) (by assumption) (by assumption) (by assumption), if_pos (by assumption)]; rfl
  · rw [valS_whole (by assumption) (by assumption) (by assumption) (by assumption), if_neg (fun h => h (by assumption)), if_pos (by assumption)]; rfl
  · rw [valS_whole (by assumption) (by assumption) (by assumption) (by assumption), if_neg (fun h => h (by assumption)), if_neg (by simp_all), if_pos (by omega)]; rfl
  · rw [valS_whole (by assumption) (by assumption) (by assumption) (by assumption), if_neg (fun h => h (by assumption)), if_neg (by simp_all), if_neg (by omega)]; rfl
theorem value_con {row : List Vl} (hr : rowOK row) {x : Sc} (hg : Good row.length x) : HasVal row x := by
  induction hg with
  | @mk x hs hf hn hk ih =>
    have hg : Good row.length x := .mk hs hf hn hk
    obtain ⟨h0, h1, h8, hc⟩ := hg.nums
    exact value0_con row hr x hg ih hc h0 h1 h8 fun k hk' => ((hk k hk').valI hr).2.1
theorem row_con (row : List Vl) (l : List Sc) (hl : l.length ≤ 1000000) (ih : ∀ k ∈ l, HasVal row k) : Has Tryd.prog 16 [CV.d (D.sl 6 (l.map encSc)), CV.d (D.sl 2 (row.map encV))] (fun rs _ => rs = [CV.own 32 2 ((rowsS row l []).1.map encV), CV.d (D.int .i64 ((rowsS row l []).2))] ) := by
  have hb32 : Tryd.prog.bytesOf 32 = 24 := by kernel_rfl
  refine Has_of_run (fn := Tryd.f16) (M := M0) fol (by kernel_rfl) 8 noPlan [.own] [] (by kernel_rfl) (Nat.le_of_ble_eq_true rfl) ?_
  (repeat' ((conv => whnf); first | done | (refine And.intro (fun h => ?_) (fun h => ?_) <;> (try simp only [Bool.or_eq_true, Bool.and_eq_true, Bool.or_eq_false_iff, Bool.and_eq_false_iff, toNat_pred, toNat_succ, toNat_addn, toNat_subn, decide_eq_true_eq, decide_eq_false_iff_not, Bool.not_eq_true', Bool.not_eq_false', List.length_map, Int.toNat_natCast, Int.not_lt, Int.not_le, Bool.not_eq_true, Bool.false_eq_true, Bool.true_eq_false, Bool.not_true, Bool.not_false, reduceCtorEq, beq_iff_eq, Bool.not_eq_eq_eq_not, bne_iff_ne, ne_eq, decide_not, Decidable.not_not, Classical.not_not] at h)) | exact (rfl : (_ : AV) = _) | exact (rfl : (_ : St) = _) | refine Exists.intro (α := AV) AV.dead (And.intro (fun h => Bool.noConfusion h) ?_) | apply ex_av | (refine fun (h : (_ : Bool) = true) => ?_; have h' := h; (try simp only [Bool.or_eq_true, Bool.and_eq_true, Bool.or_eq_false_iff, Bool.and_eq_false_iff, toNat_pred, toNat_succ, toNat_addn, toNat_subn, decide_eq_true_eq, decide_eq_false_iff_not, Bool.not_eq_true', Bool.not_eq_false', List.length_map, Int.toNat_natCast, Int.not_lt, Int.not_le, Bool.not_eq_true, Bool.false_eq_true, Bool.true_eq_false, Bool.not_true, Bool.not_false, reduceCtorEq, beq_iff_eq, Bool.not_eq_eq_eq_not, bne_iff_ne, ne_eq, decide_not, Decidable.not_not, Classical.not_not] at h')) | refine And.intro (show Both _ _ _ by (refine ⟨fun h => ?_, fun h => ?_⟩ <;> first | rfl | exact h | exact Bool.noConfusion h | (rw [h]; rfl) | (simp_all; done) | fail)) ?_ | refine And.intro rfl ?_ | refine Two.mk ?_ ?_ | refine And.intro (allU8_bytes _) ?_ | refine And.intro (show (_ : Bool) = true by first | assumption | (simp_all; done) | fail) ?_ | refine And.intro (Or.inr rfl) ?_ | refine And.intro (Nat.le_of_ble_eq_true rfl) ?_ | refine And.intro (decide_eq_false (by omega)) ?_ | refine And.intro (show Program.stoodInHeld _ _ = _ by kernel_rfl) (And.intro (by kernel_rfl) ?_) | refine And.intro (show Nat.beq _ _ = _ from rfl) (And.intro (by decide) ?_) | refine And.intro ⟨rfl, rfl⟩ ?_ | refine And.intro ⟨rfl, rfl, trivial⟩ ?_ | refine And.intro (Int.natCast_nonneg _) ?_ | refine Or.inl (And.intro rfl (And.intro rfl (And.intro rfl (And.intro rfl ?_)))) | refine Or.inl (And.intro rfl (And.intro rfl ?_)) | refine Or.inr (And.intro (Nat.le_of_ble_eq_true rfl) ?_) | refine Or.inl (And.intro (by unfold in64; omega) ?_) | refine And.intro (by first | omega | (simp only [dlen, true_and, and_true, Nat.le_refl, List.length_map, List.length_append, List.length_cons, List.length_nil, List.length_take, List.length_drop, List.length_replicate, Int.toNat_natCast, List.append_nil, hb32] <;> omega) | fail) ?_ | refine And.intro (allU8_bytes _) ?_ | refine And.intro (show elemsP _ _ _ by repeat' (first | exact rfl | exact trivial | constructor)) ?_ | (rw [← encSc_eq]; refine (ih _ (getD_mem (by omega))).mono fun rs bs hr => ?_; subst hr) | (refine Loops.by (M := M0) 8 noPlan fol (by kernel_rfl) (ι := Nat × List Vl) (fun ⟨i, o⟩ => ⟨[(1, AV.d (D.sl 2 (row.map encV))), (6, AV.ref [6] 16 2 0 (o.map encV).length), (11, AV.d (D.sl 6 (l.map encSc))), (12, AV.d (D.int .i64 l.length)), (13, AV.d (D.int .i64 i))], [([6], 16, AO.row 32 2 (o.map encV))], 17⟩) (fun ⟨i, o⟩ => i ≤ l.length ∧ rowsS row (l.drop i) o = rowsS row l [] ∧ o.length = i) (fun ⟨i, o⟩ => l.length - i) (fun p hI => ?_) ((0, [])) ⟨Nat.zero_le _, rfl, rfl⟩ (Forget.mk' ⟨⟨rfl, rfl⟩, ⟨rfl, rfl⟩, ⟨rfl, rfl⟩, ⟨rfl, rfl⟩, ⟨rfl, rfl⟩, trivial⟩ ⟨⟨rfl, rfl, rfl⟩, trivial⟩ rfl rfl); obtain ⟨i, o⟩ := p; obtain ⟨hi, hI, ho⟩ := hI) | (refine fun x hx => ?_; (try simp (disch := omega) only [Int.tdiv_eq_ediv_of_nonneg, Int.tmod_eq_emod_of_nonneg, bx, Bool.true_or, Bool.false_or, Bool.or_false, Bool.or_true, Bool.and_true, Bool.true_and, Bool.false_and, Bool.and_false, cond_true, cond_false, if_true, if_false, Bool.false_eq_true, min_nn, max_nn, min_ln, min_nl, max_ln, max_nl, getD_map, str_of_bytes, take_bytes, take_data, wrap_u64, wrap_u32, wrap_u8, shr_i64, shr_u64, shr_u32, shl_i64, shl_u64, Int.reduceToNat, Int.reducePow, Int.pow_succ, Int.pow_zero, Int.one_mul, Int.reduceMul, wrap_id, wrap_u8_nat, wrap_i64_u8, byteD_mk, map_snoc, map_app, set_map, take_map', drop_map', Nat.sub_zero, List.length_map, List.length_append, List.length_cons, List.length_nil, Int.toNat_natCast, List.drop_zero, List.take_succ_cons, List.take_zero, List.take_length, List.nil_append, List.append_nil, Nat.zero_add, toNat_pred, toNat_succ, toNat_addn, toNat_subn, encSc_eq] at hx); subst hx) | rw [List.take_length] | (rw [List.take_of_length_le]; rotate_left; (first | omega | (simp only [dlen, true_and, and_true, Nat.le_refl, List.length_map, List.length_append, List.length_cons, List.length_nil, List.length_take, List.length_drop, List.length_replicate, Int.toNat_natCast, List.append_nil, hb32] <;> omega) | fail)) | refine fun h => ?_ | fail)); all_goals (try exact (AV.dead : AV)); all_goals (try (conv => whnf))
  · rw [← hI, rowsS_at row (by omega), if_pos (by assumption)]; rfl
  · refine ⟨(i + 1, o ++ [(valS row (l.getD i default)).1]), ⟨⟨by omega, by rw [← hI, rowsS_at row (i := i) (by omega), if_neg (fun h => h (by assumption))], by simp [ho]⟩, by show l.length - (i + 1) < l.length - i; omega⟩, ?_⟩
    rw [encV_snoc]
    exact (Forget.mk' ⟨⟨rfl, rfl⟩, ⟨rfl, rfl⟩, ⟨rfl, rfl⟩, ⟨rfl, rfl⟩, ⟨rfl, rfl⟩, trivial⟩ ⟨⟨rfl, rfl, rfl⟩, trivial⟩ rfl rfl)
  · rw [← hI, List.drop_eq_nil_of_le (by omega)]; rfl
end Go.Fw
namespace Go.Fw
open Go Go.Proofs
set_option maxHeartbeats 10000000
set_option maxRecDepth 100000
set_option linter.constructorNameAsVariable false
set_option linter.unusedVariables false
set_option linter.unusedSimpArgs false
 
def HasRef (row : List Vl) (x : Sc) : Prop := Has Tryd.prog 15 [CV.d (encSc x), CV.d (.sl 2 (row.map encV))] (fun rs _ => rs = [.d (encV (valS row x).1), .d (.bool (decide ((valS row x).2 = 0)))])
theorem refValue0_con (row : List Vl) (hr : rowOK row) (x : Sc) (hg : Good row.length x) (ih : ∀ k ∈ x.kids, HasRef row k) (hc : x.kind = 1 → 0 ≤ x.col ∧ x.col < row.length) (h0 : 0 ≤ x.fr ∧ 0 ≤ x.n) (h1 : x.fr ≤ 9223372036854775807 ∧ x.n ≤ 9223372036854775807) (h8 : x.kids.length ≤ 8) (hz : ∀ k ∈ x.kids, (valS row k).1.2.size ≤ 4096) : Has Tryd.prog 15 [CV.d (encSc x), CV.d (D.sl 2 (row.map encV))] (fun rs _ => rs = [CV.d (encV (valS row x).1), CV.d (D.bool (decide ((valS row x).2 = 0)))] ) := by
  rw [encSc_eq]
  refine Has_of_run (fn := Tryd.f15) (M := M0) fol (by kernel_rfl) 2 noPlan [] [] (by kernel_rfl) (Nat.le_of_ble_eq_true rfl) ?_
  have e1 : ((x.fr.toNat : Nat) : Int) = x.fr := by omega
  have hgv : ∀ k ∈ x.kids, ValI (valS row k) := fun k hk => (hg.kid hk).valI hr
  have hl8 : x.kind = 8 → 0 < x.kids.length := by have := hg.shape; unfold ShapeP at this; omega
  have e2 : ((x.n.toNat : Nat) : Int) = x.n := by omega
  (repeat' ((conv => whnf); first | done | (refine And.intro (fun h => ?_) (fun h => ?_) <;> (try simp only [Bool.or_eq_true, Bool.and_eq_true, Bool.or_eq_false_iff, Bool.and_eq_false_iff, toNat_pred, toNat_succ, toNat_addn, toNat_subn, decide_eq_true_eq, decide_eq_false_iff_not, Bool.not_eq_true', Bool.not_eq_false', List.length_map, Int.toNat_natCast, Int.not_lt, Int.not_le, Bool.not_eq_true, Bool.false_eq_true, Bool.true_eq_false, Bool.not_true, Bool.not_false, reduceCtorEq, beq_iff_eq, Bool.not_eq_eq_eq_not, bne_iff_ne, ne_eq, decide_not, Decidable.not_not, Classical.not_not] at h)) | exact (rfl : (_ : AV) = _) | exact (rfl : (_ : St) = _) | refine Exists.intro (α := AV) AV.dead (And.intro (fun h => Bool.noConfusion h) ?_) | apply ex_av | (refine fun (h : (_ : Bool) = true) => ?_; have h' := h; (try simp only [Bool.or_eq_true, Bool.and_eq_true, Bool.or_eq_false_iff, Bool.and_eq_false_iff, toNat_pred, toNat_succ, toNat_addn, toNat_subn, decide_eq_true_eq, decide_eq_false_iff_not, Bool.not_eq_true', Bool.not_eq_false', List.length_map, Int.toNat_natCast, Int.not_lt, Int.not_le, Bool.not_eq_true, Bool.false_eq_true, Bool.true_eq_false, Bool.not_true, Bool.not_false, reduceCtorEq, beq_iff_eq, Bool.not_eq_eq_eq_not, bne_iff_ne, ne_eq, decide_not, Decidable.not_not, Classical.not_not] at h')) | refine And.intro (show Both _ _ _ by (refine ⟨fun h => ?_, fun h => ?_⟩ <;> first | rfl | exact h | exact Bool.noConfusion h | (rw [h]; rfl) | (simp_all; done) | fail)) ?_ | refine And.intro rfl ?_ | refine Two.mk ?_ ?_ | refine And.intro (allU8_bytes _) ?_ | refine And.intro (show (_ : Bool) = true by first | assumption | (simp_all; done) | fail) ?_ | refine And.intro (Or.inr rfl) ?_ | refine And.intro (Nat.le_of_ble_eq_true rfl) ?_ | refine And.intro (decide_eq_false (by omega)) ?_ | refine And.intro (show Program.stoodInHeld _ _ = _ by kernel_rfl) (And.intro (by kernel_rfl) ?_) | refine And.intro (show Nat.beq _ _ = _ from rfl) (And.intro (by decide) ?_) | refine And.intro ⟨rfl, rfl⟩ ?_ | refine And.intro ⟨rfl, rfl, trivial⟩ ?_ | refine And.intro (Int.natCast_nonneg _) ?_ | refine Or.inl (And.intro rfl (And.intro rfl (And.intro rfl (And.intro rfl ?_)))) | refine Or.inl (And.intro rfl (And.intro rfl ?_)) | refine Or.inr (And.intro (Nat.le_of_ble_eq_true rfl) ?_) | refine Or.inl (And.intro (by unfold in64; omega) ?_) | refine And.intro (by first | omega | (simp only [dlen, true_and, and_true, Nat.le_refl, List.length_map, List.length_append, List.length_cons, List.length_nil, List.length_take, List.length_drop, List.length_replicate, Int.toNat_natCast, List.append_nil] <;> omega) | fail) ?_ | refine And.intro (allU8_bytes _) ?_ | refine And.intro (show elemsP _ _ _ by repeat' (first | exact rfl | exact trivial | constructor)) ?_ | ((exfalso; omega)) | (refine (points_con _ (by omega)).mono fun rs bs hr => ?_; subst hr) | (rw [List.length_range]; refine (digits_con _ (by omega)).mono fun rs bs hr => ?_; subst hr) | (refine (foldRef_con _ (by omega)).mono fun rs bs hr => ?_; subst hr) | (rw [← e1, ← e2]; refine (subRef_con _ _ _ (by omega) (by omega) (by omega)).mono fun rs bs hr => ?_; subst hr) | (rw [← encSc_eq]; refine (ih _ (getD_mem (by omega))).mono fun rs bs hr => ?_; subst hr) | (refine Loops.by (M := M0) 2 noPlan fol (by kernel_rfl) (ι := Nat × ByteArray × Bool) (fun ⟨i, s, no⟩ => ⟨[(1, AV.d (D.sl 2 (row.map encV))), (2, AV.addr [2] 16 0), (4, AV.addr [4] 17 0), (6, AV.d (D.str s)), (7, AV.d (D.bool no)), (8, AV.d (D.int .i64 i))], [([2], 16, AO.box 24 [AV.d (D.int .i64 x.kind), AV.d (D.int .i64 x.col), AV.d (D.str x.s), AV.d (D.int .i64 x.fr), AV.d (D.int .i64 x.n), AV.d (D.sl 6 (x.kids.map encSc))]), ([4], 17, AO.box 32 [AV.d (D.bool false), AV.d (D.str (⟨#[]⟩))])], 18⟩) (fun ⟨i, s, no⟩ => i ≤ x.kids.length ∧ RefI row x i s no) (fun ⟨i, s, no⟩ => x.kids.length - i) (fun p hI => ?_) ((0, nilB, false)) ⟨Nat.zero_le _, RefI.start row x⟩ (Forget.mk' ⟨⟨rfl, rfl⟩, ⟨rfl, rfl⟩, ⟨rfl, rfl⟩, ⟨rfl, rfl⟩, ⟨rfl, rfl⟩, ⟨rfl, rfl⟩, trivial⟩ ⟨⟨rfl, rfl, rfl⟩, ⟨rfl, rfl, rfl⟩, trivial⟩ rfl rfl); obtain ⟨i, s, no⟩ := p; obtain ⟨hi, hI⟩ := hI; have hs := hI.size; have hnp := npts_le s; have hv : i < x.kids.length → (valS row (x.kids.getD i default)).1.2.size ≤ 4096 := fun h => hz _ (getD_mem h)) | (refine fun x hx => ?_; (try simp (disch := omega) only [Int.tdiv_eq_ediv_of_nonneg, Int.tmod_eq_emod_of_nonneg, bx, Bool.true_or, Bool.false_or, Bool.or_false, Bool.or_true, Bool.and_true, Bool.true_and, Bool.false_and, Bool.and_false, cond_true, cond_false, if_true, if_false, Bool.false_eq_true, min_nn, max_nn, min_ln, min_nl, max_ln, max_nl, getD_map, str_of_bytes, take_bytes, take_data, wrap_u64, wrap_u32, wrap_u8, shr_i64, shr_u64, shr_u32, shl_i64, shl_u64, Int.reduceToNat, Int.reducePow, Int.pow_succ, Int.pow_zero, Int.one_mul, Int.reduceMul, wrap_id, wrap_u8_nat, wrap_i64_u8, byteD_mk, map_snoc, map_app, set_map, take_map', drop_map', Nat.sub_zero, List.length_map, List.length_append, List.length_cons, List.length_nil, Int.toNat_natCast, List.drop_zero, List.take_succ_cons, List.take_zero, List.take_length, List.nil_append, List.append_nil, Nat.zero_add, toNat_pred, toNat_succ, toNat_addn, toNat_subn, encSc_eq] at hx); subst hx) | rw [List.take_length] | (rw [List.take_of_length_le]; rotate_left; (first | omega | (simp only [dlen, true_and, and_true, Nat.le_refl, List.length_map, List.length_append, List.length_cons, List.length_nil, List.length_take, List.length_drop, List.length_replicate, Int.toNat_natCast, List.append_nil] <;> omega) | fail)) | refine fun h => ?_ | fail)); all_goals (try exact (AV.dead : AV)); all_goals (try (conv => whnf))
  · rw [valS_eq, if_pos (by assumption)]; rfl
  · rw [valS_eq, if_neg (by assumption), if_pos (by assumption)]; rfl
  · rw [valS_eq, if_neg (by assumption), if_neg (by assumption), if_pos (by assumption)]; rfl
  · obtain ⟨k1, k2⟩ := hI.bad (by omega) hgv (by assumption) (by assumption) (by assumption) (by assumption)
    rw [k1, decide_eq_false k2]; rfl
  · rename_i h
    rw [hI.hit (by omega) (by assumption) h.1 h.2, decide_eq_true (by assumption)]; rfl
  · rename_i h
    exact ⟨(i + 1, _, _), ⟨⟨by omega, hI.next (by omega) (hv (by omega)) (by assumption) (fun hk => h.resolve_left (fun hc => hc hk))⟩, by show x.kids.length - (i + 1) < x.kids.length - i; omega⟩, (Forget.mk' ⟨⟨rfl, rfl⟩, ⟨rfl, rfl⟩, ⟨rfl, rfl⟩, ⟨rfl, rfl⟩, ⟨rfl, rfl⟩, ⟨rfl, rfl⟩, trivial⟩ ⟨⟨rfl, rfl, rfl⟩, ⟨rfl, rfl, rfl⟩, trivial⟩ rfl rfl)⟩
  · rw [hI.none (by omega) (by assumption) (by assumption) (by assumption) (by assumption)]; rfl
  all_goals obtain ⟨k8, e⟩ := hI.made (by omega) (by assumption) hl8 (by assumption) (by assumption) (by assumption)
  all_goals first
    | (have em : madeS x.kind x.fr x.n s = itoaS (npts s) := (by unfold madeS; rw [if_pos (by assumption)]); first | (rw [e, em, if_pos (by omega)]; rfl) | (rw [e, em, if_neg (by omega)]; rfl) | fail)
    | (have em : madeS x.kind x.fr x.n s = subS s x.fr.toNat x.n.toNat := (by unfold madeS; rw [if_neg (by omega), if_pos (by assumption)]); first | (rw [e, em, if_pos (by omega)]; rfl) | (rw [e, em, if_neg (by omega)]; rfl) | fail)
    | (have em : madeS x.kind x.fr x.n s = foldS s := (by unfold madeS; rw [if_neg (by omega), if_neg (by omega), if_pos (by assumption)]); first | (rw [e, em, if_pos (by omega)]; rfl) | (rw [e, em, if_neg (by omega)]; rfl) | fail)
    | (have em : madeS x.kind x.fr x.n s = s := (by unfold madeS; rw [if_neg (by omega), if_neg (by omega), if_neg (by omega)]); first | (rw [e, em, if_pos (by omega)]; rfl) | (rw [e, em, if_neg (by omega)]; rfl) | fail)
    | fail
theorem refValue_con {row : List Vl} (hr : rowOK row) {x : Sc} (hg : Good row.length x) : HasRef row x := by
  induction hg with
  | @mk x hs hf hn hk ih =>
    have hg : Good row.length x := .mk hs hf hn hk
    obtain ⟨h0, h1, h8, hc⟩ := hg.nums
    exact refValue0_con row hr x hg ih hc h0 h1 h8 fun k hk' => ((hk k hk').valI hr).2.1
end Go.Fw
namespace Go.Fw
open Go Go.Proofs
set_option maxHeartbeats 10000000
set_option maxRecDepth 100000
set_option linter.constructorNameAsVariable false
set_option linter.unusedVariables false
set_option linter.unusedSimpArgs false
theorem size0_con (x : Sc) (m : Int) (hm : 0 ≤ m) (hm2 : m ≤ 1000000) (ih : ∀ k ∈ x.kids, ∀ m : Int, 0 ≤ m → m ≤ 1000000 → Has Tryd.prog 19 [CV.d (encSc k), CV.d (.int .i64 m)] (fun rs _ => rs = [.d (.int .i64 (sizeS k m))])) : Has Tryd.prog 19 [CV.d (encSc x), CV.d (D.int .i64 m)] (fun rs _ => rs = [CV.d (D.int .i64 (sizeS x m))] ) := by
  rw [encSc_eq]
  refine Has_of_run (fn := Tryd.f19) (M := M0) fol (by kernel_rfl) 2 noPlan [] [] (by kernel_rfl) (Nat.le_of_ble_eq_true rfl) ?_
  (repeat' ((conv => whnf); first | done | (refine And.intro (fun h => ?_) (fun h => ?_) <;> (try simp only [Bool.or_eq_true, Bool.and_eq_true, Bool.or_eq_false_iff, Bool.and_eq_false_iff, toNat_pred, toNat_succ, toNat_addn, toNat_subn, decide_eq_true_eq, decide_eq_false_iff_not, Bool.not_eq_true', Bool.not_eq_false', List.length_map, Int.toNat_natCast, Int.not_lt, Int.not_le, Bool.not_eq_true, Bool.false_eq_true, Bool.true_eq_false, Bool.not_true, Bool.not_false, reduceCtorEq, beq_iff_eq, Bool.not_eq_eq_eq_not, bne_iff_ne, ne_eq, decide_not, Decidable.not_not, Classical.not_not] at h)) | exact (rfl : (_ : AV) = _) | exact (rfl : (_ : St) = _) | refine Exists.intro (α := AV) AV.dead (And.intro (fun h => Bool.noConfusion h) ?_) | apply ex_av | (refine fun (h : (_ : Bool) = true) => ?_; have h' := h; (try simp only [Bool.or_eq_true, Bool.and_eq_true, Bool.or_eq_false_iff, Bool.and_eq_false_iff, toNat_pred, toNat_succ, toNat_addn, toNat_subn, decide_eq_true_eq, decide_eq_false_iff_not, Bool.not_eq_true', Bool.not_eq_false', List.length_map, Int.toNat_natCast, Int.not_lt, Int.not_le, Bool.not_eq_true, Bool.false_eq_true, Bool.true_eq_false, Bool.not_true, Bool.not_false, reduceCtorEq, beq_iff_eq, Bool.not_eq_eq_eq_not, bne_iff_ne, ne_eq, decide_not, Decidable.not_not, Classical.not_not] at h')) | refine And.intro (show Both _ _ _ by (refine ⟨fun h => ?_, fun h => ?_⟩ <;> first | rfl | exact h | exact Bool.noConfusion h | (rw [h]; rfl) | (simp_all; done) | fail)) ?_ | refine And.intro rfl ?_ | refine Two.mk ?_ ?_ | refine And.intro (allU8_bytes _) ?_ | refine And.intro (show (_ : Bool) = true by first | assumption | (simp_all; done) | fail) ?_ | refine And.intro (Or.inr rfl) ?_ | refine And.intro (Nat.le_of_ble_eq_true rfl) ?_ | refine And.intro (decide_eq_false (by omega)) ?_ | refine And.intro (show Program.stoodInHeld _ _ = _ by kernel_rfl) (And.intro (by kernel_rfl) ?_) | refine And.intro (show Nat.beq _ _ = _ from rfl) (And.intro (by decide) ?_) | refine And.intro ⟨rfl, rfl⟩ ?_ | refine And.intro ⟨rfl, rfl, trivial⟩ ?_ | refine And.intro (Int.natCast_nonneg _) ?_ | refine Or.inl (And.intro rfl (And.intro rfl (And.intro rfl (And.intro rfl ?_)))) | refine Or.inl (And.intro rfl (And.intro rfl ?_)) | refine Or.inr (And.intro (Nat.le_of_ble_eq_true rfl) ?_) | refine Or.inl (And.intro (by unfold in64; omega) ?_) | refine And.intro (by first | omega | (simp only [dlen, true_and, and_true, Nat.le_refl, List.length_map, List.length_append, List.length_cons, List.length_nil, List.length_take, List.length_drop, List.length_replicate, Int.toNat_natCast, List.append_nil] <;> omega) | fail) ?_ | refine And.intro (allU8_bytes _) ?_ | refine And.intro (show elemsP _ _ _ by repeat' (first | exact rfl | exact trivial | constructor)) ?_ | (rw [← encSc_eq]; refine (ih _ (getD_mem (by omega)) _ (by omega) (by omega)).mono fun rs bs hr => ?_; subst hr) | (refine Loops.by (M := M0) 2 noPlan fol (by kernel_rfl) (ι := Nat × Int) (fun ⟨i, n⟩ => ⟨[(1, AV.d (D.int .i64 m)), (2, AV.addr [2] 16 0), (5, AV.d (D.int .i64 n)), (6, AV.d (D.int .i64 i))], [([2], 16, AO.box 24 [AV.d (D.int .i64 x.kind), AV.d (D.int .i64 x.col), AV.d (D.str x.s), AV.d (D.int .i64 x.fr), AV.d (D.int .i64 x.n), AV.d (D.sl 6 (x.kids.map encSc))])], 17⟩) (fun ⟨i, n⟩ => i ≤ x.kids.length ∧ sizeL (x.kids.drop i) n m = sizeS x m ∧ 1 ≤ n ∧ n ≤ m + 1) (fun ⟨i, n⟩ => x.kids.length - i) (fun p hI => ?_) ((0, 1)) ⟨Nat.zero_le _, (sizeS_eq x m).symm, by decide, by omega⟩ (Forget.mk' ⟨⟨rfl, rfl⟩, ⟨rfl, rfl⟩, ⟨rfl, rfl⟩, ⟨rfl, rfl⟩, trivial⟩ ⟨⟨rfl, rfl, rfl⟩, trivial⟩ rfl rfl); obtain ⟨i, n⟩ := p; obtain ⟨hi, hI, hn1, hn2⟩ := hI; have hb := fun h => sizeS_bnd (x.kids.getD i default) (m - n) h) | (refine fun x hx => ?_; (try simp (disch := omega) only [Int.tdiv_eq_ediv_of_nonneg, Int.tmod_eq_emod_of_nonneg, bx, Bool.true_or, Bool.false_or, Bool.or_false, Bool.or_true, Bool.and_true, Bool.true_and, Bool.false_and, Bool.and_false, cond_true, cond_false, if_true, if_false, Bool.false_eq_true, min_nn, max_nn, min_ln, min_nl, max_ln, max_nl, getD_map, str_of_bytes, take_bytes, take_data, wrap_u64, wrap_u32, wrap_u8, shr_i64, shr_u64, shr_u32, shl_i64, shl_u64, Int.reduceToNat, Int.reducePow, Int.pow_succ, Int.pow_zero, Int.one_mul, Int.reduceMul, wrap_id, wrap_u8_nat, wrap_i64_u8, byteD_mk, map_snoc, map_app, set_map, take_map', drop_map', Nat.sub_zero, List.length_map, List.length_append, List.length_cons, List.length_nil, Int.toNat_natCast, List.drop_zero, List.take_succ_cons, List.take_zero, List.take_length, List.nil_append, List.append_nil, Nat.zero_add, toNat_pred, toNat_succ, toNat_addn, toNat_subn, encSc_eq] at hx); subst hx) | rw [List.take_length] | (rw [List.take_of_length_le]; rotate_left; (first | omega | (simp only [dlen, true_and, and_true, Nat.le_refl, List.length_map, List.length_append, List.length_cons, List.length_nil, List.length_take, List.length_drop, List.length_replicate, Int.toNat_natCast, List.append_nil] <;> omega) | fail)) | refine fun h => ?_ | fail)); all_goals (try exact (AV.dead : AV)); all_goals (try (conv => whnf))
  · have hb' := hb (by omega)
    exact ⟨(i + 1, n + sizeS (x.kids.getD i default) (m - n)), ⟨⟨by omega, by rw [← hI, sizeL_at (i := i) (by omega), if_pos (by omega)], by omega, by omega⟩, by show x.kids.length - (i + 1) < x.kids.length - i; omega⟩, (Forget.mk' ⟨⟨rfl, rfl⟩, ⟨rfl, rfl⟩, ⟨rfl, rfl⟩, ⟨rfl, rfl⟩, trivial⟩ ⟨⟨rfl, rfl, rfl⟩, trivial⟩ rfl rfl)⟩
  · rename_i h
    rcases h with h | h
    · rw [← hI, List.drop_eq_nil_of_le (by omega)]; rfl
    · rw [← hI, sizeL_stop _ h]
theorem size_con (x : Sc) : ∀ m : Int, 0 ≤ m → m ≤ 1000000 → Has Tryd.prog 19 [CV.d (encSc x), CV.d (.int .i64 m)] (fun rs _ => rs = [.d (.int .i64 (sizeS x m))]) := fun m h0 h1 =>
  size0_con x m h0 h1 fun k hk m' h0' h1' => size_con k m' h0' h1'
termination_by SizeOf.sizeOf x
decreasing_by exact Sc.kids_lt hk
theorem small0_con (x : Sc) (d : Int) (hd : -1000000 ≤ d) (hd2 : d ≤ 1000000) (ih : 0 ≤ d → ∀ k ∈ x.kids, Has Tryd.prog 10 [CV.d (encSc k), CV.d (.int .i64 (d - 1))] (fun rs _ => rs = [.d (.bool (smallS k (d - 1)))])) : Has Tryd.prog 10 [CV.d (encSc x), CV.d (D.int .i64 d)] (fun rs _ => rs = [CV.d (D.bool (smallS x d))] ) := by
  rw [encSc_eq]
  refine Has_of_run (fn := Tryd.f10) (M := M0) fol (by kernel_rfl) 2 noPlan [] [] (by kernel_rfl) (Nat.le_of_ble_eq_true rfl) ?_
  (repeat' ((conv => whnf); first | done | (refine And.intro (fun h => ?_) (fun h => ?_) <;> (try simp only [Bool.or_eq_true, Bool.and_eq_true, Bool.or_eq_false_iff, Bool.and_eq_false_iff, toNat_pred, toNat_succ, toNat_addn, toNat_subn, decide_eq_true_eq, decide_eq_false_iff_not, Bool.not_eq_true', Bool.not_eq_false', List.length_map, Int.toNat_natCast, Int.not_lt, Int.not_le, Bool.not_eq_true, Bool.false_eq_true, Bool.true_eq_false, Bool.not_true, Bool.not_false, reduceCtorEq, beq_iff_eq, Bool.not_eq_eq_eq_not, bne_iff_ne, ne_eq, decide_not, Decidable.not_not, Classical.not_not] at h)) | exact (rfl : (_ : AV) = _) | exact (rfl : (_ : St) = _) | refine Exists.intro (α := AV) AV.dead (And.intro (fun h => Bool.noConfusion h) ?_) | apply ex_av | (refine fun (h : (_ : Bool) = true) => ?_; have h' := h; (try simp only [Bool.or_eq_true, Bool.and_eq_true, Bool.or_eq_false_iff, Bool.and_eq_false_iff, toNat_pred, toNat_succ, toNat_addn, toNat_subn, decide_eq_true_eq, decide_eq_false_iff_not, Bool.not_eq_true', Bool.not_eq_false', List.length_map, Int.toNat_natCast, Int.not_lt, Int.not_le, Bool.not_eq_true, Bool.false_eq_true, Bool.true_eq_false, Bool.not_true, Bool.not_false, reduceCtorEq, beq_iff_eq, Bool.not_eq_eq_eq_not, bne_iff_ne, ne_eq, decide_not, Decidable.not_not, Classical.not_not] at h')) | refine And.intro (show Both _ _ _ by (refine ⟨fun h => ?_, fun h => ?_⟩ <;> first | rfl | exact h | exact Bool.noConfusion h | (rw [h]; rfl) | (simp_all; done) | fail)) ?_ | refine And.intro rfl ?_ | refine Two.mk ?_ ?_ | refine And.intro (allU8_bytes _) ?_ | refine And.intro (show (_ : Bool) = true by first | assumption | (simp_all; done) | fail) ?_ | refine And.intro (Or.inr rfl) ?_ | refine And.intro (Nat.le_of_ble_eq_true rfl) ?_ | refine And.intro (decide_eq_false (by omega)) ?_ | refine And.intro (show Program.stoodInHeld _ _ = _ by kernel_rfl) (And.intro (by kernel_rfl) ?_) | refine And.intro (show Nat.beq _ _ = _ from rfl) (And.intro (by decide) ?_) | refine And.intro ⟨rfl, rfl⟩ ?_ | refine And.intro ⟨rfl, rfl, trivial⟩ ?_ | refine And.intro (Int.natCast_nonneg _) ?_ | refine Or.inl (And.intro rfl (And.intro rfl (And.intro rfl (And.intro rfl ?_)))) | refine Or.inl (And.intro rfl (And.intro rfl ?_)) | refine Or.inr (And.intro (Nat.le_of_ble_eq_true rfl) ?_) | refine Or.inl (And.intro (by unfold in64; omega) ?_) | refine And.intro (by first | omega | (simp only [dlen, true_and, and_true, Nat.le_refl, List.length_map, List.length_append, List.length_cons, List.length_nil, List.length_take, List.length_drop, List.length_replicate, Int.toNat_natCast, List.append_nil] <;> omega) | fail) ?_ | refine And.intro (allU8_bytes _) ?_ | refine And.intro (show elemsP _ _ _ by repeat' (first | exact rfl | exact trivial | constructor)) ?_ | (rw [← encSc_eq]; refine (ih (by omega) _ (getD_mem (by omega))).mono fun rs bs hr => ?_; subst hr) | (rw [← encSc_eq]; refine (size_con x 100 (by omega) (by omega)).mono fun rs bs hr => ?_; subst hr) | (refine Loops.by (M := M0) 2 noPlan fol (by kernel_rfl) (ι := Nat) (fun i => ⟨[(1, AV.d (D.int .i64 d)), (2, AV.addr [2] 16 0), (5, AV.d (D.int .i64 i))], [([2], 16, AO.box 24 [AV.d (D.int .i64 x.kind), AV.d (D.int .i64 x.col), AV.d (D.str x.s), AV.d (D.int .i64 x.fr), AV.d (D.int .i64 x.n), AV.d (D.sl 6 (x.kids.map encSc))])], 17⟩) (fun i => i ≤ x.kids.length ∧ ∀ j, j < i → smallS (x.kids.getD j default) (d - 1) = true) (fun i => x.kids.length - i) (fun i hI => ?_) (0) ⟨Nat.zero_le _, fun j h => absurd h (Nat.not_lt_zero _)⟩ (Forget.mk' ⟨⟨rfl, rfl⟩, ⟨rfl, rfl⟩, ⟨rfl, rfl⟩, trivial⟩ ⟨⟨rfl, rfl, rfl⟩, trivial⟩ rfl rfl); obtain ⟨hi, hok⟩ := hI) | (refine fun x hx => ?_; (try simp (disch := omega) only [Int.tdiv_eq_ediv_of_nonneg, Int.tmod_eq_emod_of_nonneg, bx, Bool.true_or, Bool.false_or, Bool.or_false, Bool.or_true, Bool.and_true, Bool.true_and, Bool.false_and, Bool.and_false, cond_true, cond_false, if_true, if_false, Bool.false_eq_true, min_nn, max_nn, min_ln, min_nl, max_ln, max_nl, getD_map, str_of_bytes, take_bytes, take_data, wrap_u64, wrap_u32, wrap_u8, shr_i64, shr_u64, shr_u32, shl_i64, shl_u64, Int.reduceToNat, Int.reducePow, Int.pow_succ, Int.pow_zero, Int.one_mul, Int.reduceMul, wrap_id, wrap_u8_nat, wrap_i64_u8, byteD_mk, map_snoc, map_app, set_map, take_map', drop_map', Nat.sub_zero, List.length_map, List.length_append, List.length_cons, List.length_nil, Int.toNat_natCast, List.drop_zero, List.take_succ_cons, List.take_zero, List.take_length, List.nil_append, List.append_nil, Nat.zero_add, toNat_pred, toNat_succ, toNat_addn, toNat_subn, encSc_eq] at hx); subst hx) | rw [List.take_length] | (rw [List.take_of_length_le]; rotate_left; (first | omega | (simp only [dlen, true_and, and_true, Nat.le_refl, List.length_map, List.length_append, List.length_cons, List.length_nil, List.length_take, List.length_drop, List.length_replicate, Int.toNat_natCast, List.append_nil] <;> omega) | fail)) | refine fun h => ?_ | fail)); all_goals (try exact (AV.dead : AV)); all_goals (try (conv => whnf))
  · exact rb (smallS_no (by omega)).symm
  · exact rb (smallS_kid (i := i) (by omega) (by assumption)).symm
  · exact ⟨i + 1, ⟨⟨by omega, all_below hok (by assumption)⟩, by omega⟩, (Forget.mk' ⟨⟨rfl, rfl⟩, ⟨rfl, rfl⟩, ⟨rfl, rfl⟩, trivial⟩ ⟨⟨rfl, rfl, rfl⟩, trivial⟩ rfl rfl)⟩
  · exact rb (smallS_yes (by omega) (fun j hj => hok j (by omega))).symm
theorem small_all (x : Sc) : ∀ d : Int, -1000000 ≤ d → d ≤ 1000000 → Has Tryd.prog 10 [CV.d (encSc x), CV.d (.int .i64 d)] (fun rs _ => rs = [.d (.bool (smallS x d))]) := fun d h0 h1 =>
  small0_con x d h0 h1 fun _ k hk => small_all k (d - 1) (by omega) (by omega)
termination_by SizeOf.sizeOf x
decreasing_by exact Sc.kids_lt hk
theorem rows_con (rows : List (List Vl)) (c : Int) : Has Tryd.prog 13 [CV.d (D.sl 1 (rows.map encRow)), CV.d (D.int .i64 c)] (fun rs _ => rs = [CV.d (D.bool (rowsB rows c))]) := by
  refine Has_of_run (fn := Tryd.f13) (M := M0) fol (by kernel_rfl) 7 noPlan [] [] (by kernel_rfl) (Nat.le_of_ble_eq_true rfl) ?_
  (repeat' ((conv => whnf); first | done | (refine And.intro (fun h => ?_) (fun h => ?_) <;> (try simp only [Bool.or_eq_true, Bool.and_eq_true, Bool.or_eq_false_iff, Bool.and_eq_false_iff, toNat_pred, toNat_succ, toNat_addn, toNat_subn, decide_eq_true_eq, decide_eq_false_iff_not, Bool.not_eq_true', Bool.not_eq_false', List.length_map, Int.toNat_natCast, Int.not_lt, Int.not_le, Bool.not_eq_true, Bool.false_eq_true, Bool.true_eq_false, Bool.not_true, Bool.not_false, reduceCtorEq, beq_iff_eq, Bool.not_eq_eq_eq_not, bne_iff_ne, ne_eq, decide_not, Decidable.not_not, Classical.not_not, emp_iff] at h)) | exact (rfl : (_ : AV) = _) | exact (rfl : (_ : St) = _) | refine Exists.intro (α := AV) AV.dead (And.intro (fun h => Bool.noConfusion h) ?_) | apply ex_av | (refine fun (h : (_ : Bool) = true) => ?_; have h' := h; (try simp only [Bool.or_eq_true, Bool.and_eq_true, Bool.or_eq_false_iff, Bool.and_eq_false_iff, toNat_pred, toNat_succ, toNat_addn, toNat_subn, decide_eq_true_eq, decide_eq_false_iff_not, Bool.not_eq_true', Bool.not_eq_false', List.length_map, Int.toNat_natCast, Int.not_lt, Int.not_le, Bool.not_eq_true, Bool.false_eq_true, Bool.true_eq_false, Bool.not_true, Bool.not_false, reduceCtorEq, beq_iff_eq, Bool.not_eq_eq_eq_not, bne_iff_ne, ne_eq, decide_not, Decidable.not_not, Classical.not_not, emp_iff] at h')) | refine And.intro (show Both _ _ _ by (refine ⟨fun h => ?_, fun h => ?_⟩ <;> first | rfl | exact h | exact Bool.noConfusion h | (rw [h]; rfl) | (simp_all; done) | fail)) ?_ | refine And.intro rfl ?_ | refine Two.mk ?_ ?_ | refine And.intro (allU8_bytes _) ?_ | refine And.intro (show (_ : Bool) = true by first | assumption | (simp_all; done) | fail) ?_ | refine And.intro (Or.inr rfl) ?_ | refine And.intro (Nat.le_of_ble_eq_true rfl) ?_ | refine And.intro (decide_eq_false (by omega)) ?_ | refine And.intro (show Program.stoodInHeld _ _ = _ by kernel_rfl) (And.intro (by kernel_rfl) ?_) | refine And.intro (show Nat.beq _ _ = _ from rfl) (And.intro (by decide) ?_) | refine And.intro ⟨rfl, rfl⟩ ?_ | refine And.intro ⟨rfl, rfl, trivial⟩ ?_ | refine And.intro (Int.natCast_nonneg _) ?_ | refine Or.inl (And.intro rfl (And.intro rfl (And.intro rfl (And.intro rfl ?_)))) | refine Or.inl (And.intro rfl (And.intro rfl ?_)) | refine Or.inr (And.intro (Nat.le_of_ble_eq_true rfl) ?_) | refine Or.inl (And.intro (by unfold in64; omega) ?_) | refine And.intro (by first | omega | (simp only [dlen, true_and, and_true, Nat.le_refl, List.length_map, List.length_append, List.length_cons, List.length_nil, List.length_take, List.length_drop, List.length_replicate, Int.toNat_natCast, List.append_nil, emp_iff] <;> omega) | fail) ?_ | refine And.intro (allU8_bytes _) ?_ | refine And.intro (show elemsP _ _ _ by repeat' (first | exact rfl | exact trivial | constructor)) ?_ | (refine Loops.by (M := M0) 7 noPlan fol (by kernel_rfl) (ι := Nat) (fun i => ⟨[(0, AV.d (D.sl 1 (rows.map encRow))), (1, AV.d (D.int .i64 c)), (5, AV.d (D.int .i64 i))], [], 16⟩) (fun i => i ≤ rows.length ∧ ∀ j, j < i → rowB (rows.getD j default) c = true) (fun i => rows.length - i) (fun i hI => ?_) (0) ⟨Nat.zero_le _, fun j h => absurd h (Nat.not_lt_zero _)⟩ (Forget.mk' ⟨⟨rfl, rfl⟩, ⟨rfl, rfl⟩, ⟨rfl, rfl⟩, trivial⟩ trivial rfl rfl); obtain ⟨hi, hok⟩ := hI) | (refine Loops.by (M := M0) 7 noPlan fol (by kernel_rfl) (ι := Nat) (fun k => ⟨[(0, AV.d (D.sl 1 (rows.map encRow))), (1, AV.d (D.int .i64 c)), (5, AV.d (D.int .i64 i)), (6, AV.d (D.int .i64 k))], [], 16⟩) (fun k => k ≤ (rows.getD i default).length ∧ ∀ j, j < k → cellB ((rows.getD i default).getD j default) = true) (fun k => (rows.getD i default).length - k) (fun k hI => ?_) (0) ⟨Nat.zero_le _, fun j h => absurd h (Nat.not_lt_zero _)⟩ (Forget.mk' ⟨⟨rfl, rfl⟩, ⟨rfl, rfl⟩, ⟨rfl, rfl⟩, ⟨rfl, rfl⟩, trivial⟩ trivial rfl rfl); obtain ⟨hk, hck⟩ := hI) | (refine fun x hx => ?_; (try simp (disch := omega) only [Int.tdiv_eq_ediv_of_nonneg, Int.tmod_eq_emod_of_nonneg, bx, Bool.true_or, Bool.false_or, Bool.or_false, Bool.or_true, Bool.and_true, Bool.true_and, Bool.false_and, Bool.and_false, cond_true, cond_false, if_true, if_false, Bool.false_eq_true, min_nn, max_nn, min_ln, min_nl, max_ln, max_nl, getD_map, str_of_bytes, take_bytes, take_data, wrap_u64, wrap_u32, wrap_u8, shr_i64, shr_u64, shr_u32, shl_i64, shl_u64, Int.reduceToNat, Int.reducePow, Int.pow_succ, Int.pow_zero, Int.one_mul, Int.reduceMul, wrap_id, wrap_u8_nat, wrap_i64_u8, byteD_mk, map_snoc, map_app, set_map, take_map', drop_map', Nat.sub_zero, List.length_map, List.length_append, List.length_cons, List.length_nil, Int.toNat_natCast, List.drop_zero, List.take_succ_cons, List.take_zero, List.take_length, List.nil_append, List.append_nil, Nat.zero_add, toNat_pred, toNat_succ, toNat_addn, toNat_subn, emp_iff] at hx); subst hx) | rw [List.take_length] | (rw [List.take_of_length_le]; rotate_left; (first | omega | (simp only [dlen, true_and, and_true, Nat.le_refl, List.length_map, List.length_append, List.length_cons, List.length_nil, List.length_take, List.length_drop, List.length_replicate, Int.toNat_natCast, List.append_nil, emp_iff] <;> omega) | fail)) | refine fun h => ?_ | fail)); all_goals (try exact (AV.dead : AV)); all_goals (try (conv => whnf))
  · exact rb (rowsB_no (by omega)).symm
  · exact rb (rowsB_row (i := i) (by omega) (rowB_len (by assumption))).symm
  · exact rb (rowsB_row (i := i) (by omega) (rowB_cell (k := k) (by omega) (cell_no (by assumption)))).symm
  · exact ⟨k + 1, ⟨⟨by omega, all_below hck (cell_yes (by assumption))⟩, by omega⟩, (Forget.mk' ⟨⟨rfl, rfl⟩, ⟨rfl, rfl⟩, ⟨rfl, rfl⟩, ⟨rfl, rfl⟩, trivial⟩ trivial rfl rfl)⟩
  · exact ⟨i + 1, ⟨⟨by omega, all_below hok (rowB_true (by assumption) (fun j hj => hck j (by omega)))⟩, by omega⟩, (Forget.mk' ⟨⟨rfl, rfl⟩, ⟨rfl, rfl⟩, ⟨rfl, rfl⟩, trivial⟩ trivial rfl rfl)⟩
  · exact rb (rowsB_true (by omega) (fun j hj => hok j (by omega))).symm
def pl17 : Nat → Plan
  | 6 => tks 0 [0, 0, 0, 1, 0, 0, 0, 1, 0] (.done)
  | _ => .done
theorem same17_con (a b : List Vl) : Has Tryd.prog 17 [CV.d (D.sl 2 (a.map encV)), CV.d (D.sl 2 (b.map encV))] (fun rs _ => rs = [CV.d (D.bool (sameV a b))]) := by
  refine Has_of_run (fn := Tryd.f17) (M := M0) fol (by kernel_rfl) 6 pl17 [] [] (by kernel_rfl) (Nat.le_of_ble_eq_true rfl) ?_
  (repeat' ((conv => whnf); first | done | (refine And.intro (fun h => ?_) (fun h => ?_) <;> (try simp only [Bool.or_eq_true, Bool.and_eq_true, Bool.or_eq_false_iff, Bool.and_eq_false_iff, toNat_pred, toNat_succ, toNat_addn, toNat_subn, decide_eq_true_eq, decide_eq_false_iff_not, Bool.not_eq_true', Bool.not_eq_false', List.length_map, Int.toNat_natCast, Int.not_lt, Int.not_le, Bool.not_eq_true, Bool.false_eq_true, Bool.true_eq_false, Bool.not_true, Bool.not_false, reduceCtorEq, beq_iff_eq, Bool.not_eq_eq_eq_not, bne_iff_ne, ne_eq, decide_not, Decidable.not_not, Classical.not_not] at h)) | exact (rfl : (_ : AV) = _) | exact (rfl : (_ : St) = _) | refine Exists.intro (α := AV) AV.dead (And.intro (fun h => Bool.noConfusion h) ?_) | apply ex_av | (refine fun (h : (_ : Bool) = true) => ?_; have h' := h; (try simp only [Bool.or_eq_true, Bool.and_eq_true, Bool.or_eq_false_iff, Bool.and_eq_false_iff, toNat_pred, toNat_succ, toNat_addn, toNat_subn, decide_eq_true_eq, decide_eq_false_iff_not, Bool.not_eq_true', Bool.not_eq_false', List.length_map, Int.toNat_natCast, Int.not_lt, Int.not_le, Bool.not_eq_true, Bool.false_eq_true, Bool.true_eq_false, Bool.not_true, Bool.not_false, reduceCtorEq, beq_iff_eq, Bool.not_eq_eq_eq_not, bne_iff_ne, ne_eq, decide_not, Decidable.not_not, Classical.not_not] at h')) | refine And.intro (show Both _ _ _ by (refine ⟨fun h => ?_, fun h => ?_⟩ <;> first | rfl | exact h | exact Bool.noConfusion h | (rw [h]; rfl) | (simp_all; done) | fail)) ?_ | refine And.intro rfl ?_ | refine Two.mk ?_ ?_ | refine And.intro (allU8_bytes _) ?_ | refine And.intro (show (_ : Bool) = true by first | assumption | (simp_all; done) | fail) ?_ | refine And.intro (Or.inr rfl) ?_ | refine And.intro (Nat.le_of_ble_eq_true rfl) ?_ | refine And.intro (decide_eq_false (by omega)) ?_ | refine And.intro (show Program.stoodInHeld _ _ = _ by kernel_rfl) (And.intro (by kernel_rfl) ?_) | refine And.intro (show Nat.beq _ _ = _ from rfl) (And.intro (by decide) ?_) | refine And.intro ⟨rfl, rfl⟩ ?_ | refine And.intro ⟨rfl, rfl, trivial⟩ ?_ | refine And.intro (Int.natCast_nonneg _) ?_ | refine Or.inl (And.intro rfl (And.intro rfl (And.intro rfl (And.intro rfl ?_)))) | refine Or.inl (And.intro rfl (And.intro rfl ?_)) | refine Or.inr (And.intro (Nat.le_of_ble_eq_true rfl) ?_) | refine Or.inl (And.intro (by unfold in64; omega) ?_) | refine And.intro (by first | omega | (simp only [dlen, true_and, and_true, Nat.le_refl, List.length_map, List.length_append, List.length_cons, List.length_nil, List.length_take, List.length_drop, List.length_replicate, Int.toNat_natCast, List.append_nil] <;> omega) | fail) ?_ | refine And.intro (allU8_bytes _) ?_ | refine And.intro (show elemsP _ _ _ by repeat' (first | exact rfl | exact trivial | constructor)) ?_ | (refine Loops.by (M := M0) 6 pl17 fol (by kernel_rfl) (ι := Nat) (fun i => ⟨[(0, AV.d (D.sl 2 (a.map encV))), (1, AV.d (D.sl 2 (b.map encV))), (5, AV.d (D.int .i64 i))], [], 16⟩) (fun i => i ≤ a.length ∧ ∀ j, j < i → a.getD j default = b.getD j default) (fun i => a.length - i) (fun i hI => ?_) (0) ⟨Nat.zero_le _, fun j h => absurd h (Nat.not_lt_zero _)⟩ (Forget.mk' ⟨⟨rfl, rfl⟩, ⟨rfl, rfl⟩, ⟨rfl, rfl⟩, trivial⟩ trivial rfl rfl); obtain ⟨hi, hok⟩ := hI) | (refine fun x hx => ?_; (try simp (disch := omega) only [Int.tdiv_eq_ediv_of_nonneg, Int.tmod_eq_emod_of_nonneg, bx, Bool.true_or, Bool.false_or, Bool.or_false, Bool.or_true, Bool.and_true, Bool.true_and, Bool.false_and, Bool.and_false, cond_true, cond_false, if_true, if_false, Bool.false_eq_true, min_nn, max_nn, min_ln, min_nl, max_ln, max_nl, getD_map, str_of_bytes, take_bytes, take_data, wrap_u64, wrap_u32, wrap_u8, shr_i64, shr_u64, shr_u32, shl_i64, shl_u64, Int.reduceToNat, Int.reducePow, Int.pow_succ, Int.pow_zero, Int.one_mul, Int.reduceMul, wrap_id, wrap_u8_nat, wrap_i64_u8, byteD_mk, map_snoc, map_app, set_map, take_map', drop_map', Nat.sub_zero, List.length_map, List.length_append, List.length_cons, List.length_nil, Int.toNat_natCast, List.drop_zero, List.take_succ_cons, List.take_zero, List.take_length, List.nil_append, List.append_nil, Nat.zero_add, toNat_pred, toNat_succ, toNat_addn, toNat_subn] at hx); subst hx) | rw [List.take_length] | (rw [List.take_of_length_le]; rotate_left; (first | omega | (simp only [dlen, true_and, and_true, Nat.le_refl, List.length_map, List.length_append, List.length_cons, List.length_nil, List.length_take, List.length_drop, List.length_replicate, Int.toNat_natCast, List.append_nil] <;> omega) | fail)) | refine fun h => ?_ | fail)); all_goals (try exact (AV.dead : AV)); all_goals (try (conv => whnf))
  · exact rb (sameV_len (by omega)).symm
  · rename_i h
    exact rb (sameV_at (i := i) (fun e => by rw [e] at h; simp at h)).symm
  · rename_i h
    exact ⟨i + 1, ⟨⟨by omega, all_below hok (Prod.ext h.1 h.2)⟩, by omega⟩, (Forget.mk' ⟨⟨rfl, rfl⟩, ⟨rfl, rfl⟩, ⟨rfl, rfl⟩, trivial⟩ trivial rfl rfl)⟩
  · exact rb (sameV_true (by omega) (fun j hj => hok j (by omega))).symm
end Go.Fw
namespace Go.Fw
open Go Go.Proofs
set_option maxHeartbeats 10000000
set_option maxRecDepth 100000
set_option linter.constructorNameAsVariable false
set_option linter.unusedVariables false
set_option linter.unusedSimpArgs false
theorem shape_con (x : Sc) (cols : Int) : Has Tryd.prog 28 [CV.d (encSc x), CV.d (D.int .i64 cols)] (fun rs bs => rs = [CV.d (D.bool (decide (ShapeP x cols)))] ∧ bs = [.gone, .gone] ) := by
  rw [encSc_eq]
  refine Has_of_run (fn := Tryd.f28) (M := M0) fol (by kernel_rfl) 2 noPlan [] [] (by kernel_rfl) (Nat.le_of_ble_eq_true rfl) ?_
  (repeat' ((conv => whnf); first | done | (refine And.intro (fun h => ?_) (fun h => ?_) <;> (try simp only [Bool.or_eq_true, Bool.and_eq_true, Bool.or_eq_false_iff, Bool.and_eq_false_iff, toNat_pred, toNat_succ, toNat_addn, toNat_subn, decide_eq_true_eq, decide_eq_false_iff_not, Bool.not_eq_true', Bool.not_eq_false', List.length_map, Int.toNat_natCast, Int.not_lt, Int.not_le, Bool.not_eq_true, Bool.false_eq_true, Bool.true_eq_false, Bool.not_true, Bool.not_false, reduceCtorEq, beq_iff_eq, Bool.not_eq_eq_eq_not, bne_iff_ne, ne_eq, decide_not, Decidable.not_not, Classical.not_not, emp_iff] at h)) | exact (rfl : (_ : AV) = _) | exact (rfl : (_ : St) = _) | refine Exists.intro (α := AV) AV.dead (And.intro (fun h => Bool.noConfusion h) ?_) | apply ex_av | (refine fun (h : (_ : Bool) = true) => ?_; have h' := h; (try simp only [Bool.or_eq_true, Bool.and_eq_true, Bool.or_eq_false_iff, Bool.and_eq_false_iff, toNat_pred, toNat_succ, toNat_addn, toNat_subn, decide_eq_true_eq, decide_eq_false_iff_not, Bool.not_eq_true', Bool.not_eq_false', List.length_map, Int.toNat_natCast, Int.not_lt, Int.not_le, Bool.not_eq_true, Bool.false_eq_true, Bool.true_eq_false, Bool.not_true, Bool.not_false, reduceCtorEq, beq_iff_eq, Bool.not_eq_eq_eq_not, bne_iff_ne, ne_eq, decide_not, Decidable.not_not, Classical.not_not, emp_iff] at h')) | refine And.intro (show Both _ _ _ by (refine ⟨fun h => ?_, fun h => ?_⟩ <;> first | rfl | exact h | exact Bool.noConfusion h | (rw [h]; rfl) | (simp_all; done) | fail)) ?_ | refine And.intro rfl ?_ | refine Two.mk ?_ ?_ | refine And.intro (allU8_bytes _) ?_ | refine And.intro (show (_ : Bool) = true by first | assumption | (simp_all; done) | fail) ?_ | refine And.intro (Or.inr rfl) ?_ | refine And.intro (Nat.le_of_ble_eq_true rfl) ?_ | refine And.intro (decide_eq_false (by omega)) ?_ | refine And.intro (show Program.stoodInHeld _ _ = _ by kernel_rfl) (And.intro (by kernel_rfl) ?_) | refine And.intro (show Nat.beq _ _ = _ from rfl) (And.intro (by decide) ?_) | refine And.intro ⟨rfl, rfl⟩ ?_ | refine And.intro ⟨rfl, rfl, trivial⟩ ?_ | refine And.intro (Int.natCast_nonneg _) ?_ | refine Or.inl (And.intro rfl (And.intro rfl (And.intro rfl (And.intro rfl ?_)))) | refine Or.inl (And.intro rfl (And.intro rfl ?_)) | refine Or.inr (And.intro (Nat.le_of_ble_eq_true rfl) ?_) | refine Or.inl (And.intro (by unfold in64; omega) ?_) | refine And.intro (by first | omega | (simp only [dlen, true_and, and_true, Nat.le_refl, List.length_map, List.length_append, List.length_cons, List.length_nil, List.length_take, List.length_drop, List.length_replicate, Int.toNat_natCast, List.append_nil, emp_iff] <;> omega) | fail) ?_ | refine And.intro (allU8_bytes _) ?_ | refine And.intro (show elemsP _ _ _ by repeat' (first | exact rfl | exact trivial | constructor)) ?_ | (refine fun x hx => ?_; (try simp (disch := omega) only [Int.tdiv_eq_ediv_of_nonneg, Int.tmod_eq_emod_of_nonneg, bx, Bool.true_or, Bool.false_or, Bool.or_false, Bool.or_true, Bool.and_true, Bool.true_and, Bool.false_and, Bool.and_false, cond_true, cond_false, if_true, if_false, Bool.false_eq_true, min_nn, max_nn, min_ln, min_nl, max_ln, max_nl, getD_map, str_of_bytes, take_bytes, take_data, wrap_u64, wrap_u32, wrap_u8, shr_i64, shr_u64, shr_u32, shl_i64, shl_u64, Int.reduceToNat, Int.reducePow, Int.pow_succ, Int.pow_zero, Int.one_mul, Int.reduceMul, wrap_id, wrap_u8_nat, wrap_i64_u8, byteD_mk, map_snoc, map_app, set_map, take_map', drop_map', Nat.sub_zero, List.length_map, List.length_append, List.length_cons, List.length_nil, Int.toNat_natCast, List.drop_zero, List.take_succ_cons, List.take_zero, List.take_length, List.nil_append, List.append_nil, Nat.zero_add, toNat_pred, toNat_succ, toNat_addn, toNat_subn, emp_iff] at hx); subst hx) | rw [List.take_length] | (rw [List.take_of_length_le]; rotate_left; (first | omega | (simp only [dlen, true_and, and_true, Nat.le_refl, List.length_map, List.length_append, List.length_cons, List.length_nil, List.length_take, List.length_drop, List.length_replicate, Int.toNat_natCast, List.append_nil, emp_iff] <;> omega) | fail)) | refine fun h => ?_ | fail)); all_goals (try exact (AV.dead : AV)); all_goals (try (conv => whnf))
  all_goals refine ⟨rb (Bool.eq_iff_iff.2 ?_), rfl⟩
  all_goals simp only [Bool.or_eq_true, Bool.and_eq_true, Bool.or_eq_false_iff, Bool.and_eq_false_iff, toNat_pred, toNat_succ, toNat_addn, toNat_subn, decide_eq_true_eq, decide_eq_false_iff_not, Bool.not_eq_true', Bool.not_eq_false', List.length_map, Int.toNat_natCast, Int.not_lt, Int.not_le, Bool.not_eq_true, Bool.false_eq_true, Bool.true_eq_false, Bool.not_true, Bool.not_false, reduceCtorEq, beq_iff_eq, Bool.not_eq_eq_eq_not, bne_iff_ne, ne_eq, decide_not, Decidable.not_not, Classical.not_not, false_iff, true_iff]
  all_goals unfold ShapeP Odd
  all_goals omega
end Go.Fw
namespace Go.Fw
open Go Go.Proofs
set_option maxHeartbeats 10000000
set_option maxRecDepth 100000
set_option linter.constructorNameAsVariable false
set_option linter.unusedVariables false
set_option linter.unusedSimpArgs false
theorem idx_con (l : List Sc) (p : Sc → Bool) (c d : Int) (hf : ∀ y ∈ l, Has Tryd.prog 30 [CV.d (encSc y), CV.d (.ptr (.int .i64 c)), CV.d (.ptr (.int .i64 d))] (fun rs bs => rs = [.d (.bool (p y))] ∧ bs = [.gone, .gone, .gone])) : Has Tryd.prog 36 [CV.d (D.sl 6 (l.map encSc)), CV.d (D.clo (.func 30) [] [D.ptr (D.int .i64 c), D.ptr (D.int .i64 d)])] (fun rs bs => (∃ r : Int, rs = [.d (.int .i64 r)] ∧ decide (0 ≤ r) = l.any p) ∧ bs = [.gone, .gone]) := by
  refine Has_of_run (fn := Tryd.f36) (M := M0) fol (by kernel_rfl) 6 noPlan [] [] (by kernel_rfl) (Nat.le_of_ble_eq_true rfl) ?_
  (repeat' ((conv => whnf); first | done | (refine And.intro (fun h => ?_) (fun h => ?_) <;> (try simp only [Bool.or_eq_true, Bool.and_eq_true, Bool.or_eq_false_iff, Bool.and_eq_false_iff, toNat_pred, toNat_succ, toNat_addn, toNat_subn, decide_eq_true_eq, decide_eq_false_iff_not, Bool.not_eq_true', Bool.not_eq_false', List.length_map, Int.toNat_natCast, Int.not_lt, Int.not_le, Bool.not_eq_true, Bool.false_eq_true, Bool.true_eq_false, Bool.not_true, Bool.not_false, reduceCtorEq, beq_iff_eq, Bool.not_eq_eq_eq_not, bne_iff_ne, ne_eq, decide_not, Decidable.not_not, Classical.not_not] at h)) | exact (rfl : (_ : AV) = _) | exact (rfl : (_ : St) = _) | refine Exists.intro (α := AV) AV.dead (And.intro (fun h => Bool.noConfusion h) ?_) | apply ex_av | (refine fun (h : (_ : Bool) = true) => ?_; have h' := h; (try simp only [Bool.or_eq_true, Bool.and_eq_true, Bool.or_eq_false_iff, Bool.and_eq_false_iff, toNat_pred, toNat_succ, toNat_addn, toNat_subn, decide_eq_true_eq, decide_eq_false_iff_not, Bool.not_eq_true', Bool.not_eq_false', List.length_map, Int.toNat_natCast, Int.not_lt, Int.not_le, Bool.not_eq_true, Bool.false_eq_true, Bool.true_eq_false, Bool.not_true, Bool.not_false, reduceCtorEq, beq_iff_eq, Bool.not_eq_eq_eq_not, bne_iff_ne, ne_eq, decide_not, Decidable.not_not, Classical.not_not] at h')) | refine And.intro (show Both _ _ _ by (refine ⟨fun h => ?_, fun h => ?_⟩ <;> first | rfl | exact h | exact Bool.noConfusion h | (rw [h]; rfl) | (simp_all; done) | fail)) ?_ | refine And.intro rfl ?_ | refine Two.mk ?_ ?_ | refine And.intro (allU8_bytes _) ?_ | refine And.intro (show (_ : Bool) = true by first | assumption | (simp_all; done) | fail) ?_ | refine And.intro (Or.inr rfl) ?_ | refine And.intro (Nat.le_of_ble_eq_true rfl) ?_ | refine And.intro (decide_eq_false (by omega)) ?_ | refine And.intro (show Program.stoodInHeld _ _ = _ by kernel_rfl) (And.intro (by kernel_rfl) ?_) | refine And.intro (show Nat.beq _ _ = _ from rfl) (And.intro (by decide) ?_) | refine And.intro ⟨rfl, rfl⟩ ?_ | refine And.intro ⟨rfl, rfl, trivial⟩ ?_ | refine And.intro (Int.natCast_nonneg _) ?_ | refine Or.inl (And.intro rfl (And.intro rfl (And.intro rfl (And.intro rfl ?_)))) | refine Or.inl (And.intro rfl (And.intro rfl ?_)) | refine Or.inr (And.intro (Nat.le_of_ble_eq_true rfl) ?_) | refine Or.inl (And.intro (by unfold in64; omega) ?_) | refine And.intro (by first | omega | (simp only [dlen, true_and, and_true, Nat.le_refl, List.length_map, List.length_append, List.length_cons, List.length_nil, List.length_take, List.length_drop, List.length_replicate, Int.toNat_natCast, List.append_nil] <;> omega) | fail) ?_ | refine And.intro (allU8_bytes _) ?_ | refine And.intro (show elemsP _ _ _ by repeat' (first | exact rfl | exact trivial | constructor)) ?_ | (rw [← encSc_eq]; refine (hf _ (getD_mem (by omega))).mono fun rs bs hr => ?_; obtain ⟨rfl, rfl⟩ := hr) | (refine Loops.by (M := M0) 6 noPlan fol (by kernel_rfl) (ι := Nat) (fun i => ⟨[(0, AV.d (D.sl 6 (l.map encSc))), (1, AV.d (D.clo (.func 30) [] [D.ptr (D.int .i64 c), D.ptr (D.int .i64 d)])), (7, AV.d (D.int .i64 l.length)), (8, AV.d (D.int .i64 i))], [], 16⟩) (fun i => i ≤ l.length ∧ ∀ j, j < i → p (l.getD j default) = false) (fun i => l.length - i) (fun i hI => ?_) (0) ⟨Nat.zero_le _, fun j h => absurd h (Nat.not_lt_zero _)⟩ (Forget.mk' ⟨⟨rfl, rfl⟩, ⟨rfl, rfl⟩, ⟨rfl, rfl⟩, ⟨rfl, rfl⟩, trivial⟩ trivial rfl rfl); obtain ⟨hi, hok⟩ := hI) | (refine fun x hx => ?_; (try simp (disch := omega) only [Int.tdiv_eq_ediv_of_nonneg, Int.tmod_eq_emod_of_nonneg, bx, Bool.true_or, Bool.false_or, Bool.or_false, Bool.or_true, Bool.and_true, Bool.true_and, Bool.false_and, Bool.and_false, cond_true, cond_false, if_true, if_false, Bool.false_eq_true, min_nn, max_nn, min_ln, min_nl, max_ln, max_nl, getD_map, str_of_bytes, take_bytes, take_data, wrap_u64, wrap_u32, wrap_u8, shr_i64, shr_u64, shr_u32, shl_i64, shl_u64, Int.reduceToNat, Int.reducePow, Int.pow_succ, Int.pow_zero, Int.one_mul, Int.reduceMul, wrap_id, wrap_u8_nat, wrap_i64_u8, byteD_mk, map_snoc, map_app, set_map, take_map', drop_map', Nat.sub_zero, List.length_map, List.length_append, List.length_cons, List.length_nil, Int.toNat_natCast, List.drop_zero, List.take_succ_cons, List.take_zero, List.take_length, List.nil_append, List.append_nil, Nat.zero_add, toNat_pred, toNat_succ, toNat_addn, toNat_subn, encSc_eq] at hx); subst hx) | rw [List.take_length] | (rw [List.take_of_length_le]; rotate_left; (first | omega | (simp only [dlen, true_and, and_true, Nat.le_refl, List.length_map, List.length_append, List.length_cons, List.length_nil, List.length_take, List.length_drop, List.length_replicate, Int.toNat_natCast, List.append_nil] <;> omega) | fail)) | refine fun h => ?_ | fail)); all_goals (try exact (AV.dead : AV)); all_goals (try (conv => whnf))
  · exact ⟨⟨i, rfl, by rw [decide_eq_true (by omega), any_at (i := i) (by omega) (by assumption)]⟩, rfl⟩
  · exact ⟨i + 1, ⟨⟨by omega, upto_succ hok (by assumption)⟩, by omega⟩, (Forget.mk' ⟨⟨rfl, rfl⟩, ⟨rfl, rfl⟩, ⟨rfl, rfl⟩, ⟨rfl, rfl⟩, trivial⟩ trivial rfl rfl)⟩
  · exact ⟨⟨-1, rfl, by rw [any_none (fun j hj => hok j (by omega))]; rfl⟩, rfl⟩
theorem cont_con (l : List Sc) (p : Sc → Bool) (c d : Int) (hf : ∀ y ∈ l, Has Tryd.prog 30 [CV.d (encSc y), CV.d (.ptr (.int .i64 c)), CV.d (.ptr (.int .i64 d))] (fun rs bs => rs = [.d (.bool (p y))] ∧ bs = [.gone, .gone, .gone])) : Has Tryd.prog 29 [CV.d (D.sl 6 (l.map encSc)), CV.d (D.clo (.func 30) [] [D.ptr (D.int .i64 c), D.ptr (D.int .i64 d)])] (fun rs bs => rs = [CV.d (D.bool (l.any p))] ∧ bs = [.gone, .gone]) := by
  refine Has_of_run (fn := Tryd.f29) (M := M0) fol (by kernel_rfl) 5 noPlan [] [] (by kernel_rfl) (Nat.le_of_ble_eq_true rfl) ?_
  (repeat' ((conv => whnf); first | done | (refine And.intro (fun h => ?_) (fun h => ?_) <;> (try simp only [Bool.or_eq_true, Bool.and_eq_true, Bool.or_eq_false_iff, Bool.and_eq_false_iff, toNat_pred, toNat_succ, toNat_addn, toNat_subn, decide_eq_true_eq, decide_eq_false_iff_not, Bool.not_eq_true', Bool.not_eq_false', List.length_map, Int.toNat_natCast, Int.not_lt, Int.not_le, Bool.not_eq_true, Bool.false_eq_true, Bool.true_eq_false, Bool.not_true, Bool.not_false, reduceCtorEq, beq_iff_eq, Bool.not_eq_eq_eq_not, bne_iff_ne, ne_eq, decide_not, Decidable.not_not, Classical.not_not] at h)) | exact (rfl : (_ : AV) = _) | exact (rfl : (_ : St) = _) | refine Exists.intro (α := AV) AV.dead (And.intro (fun h => Bool.noConfusion h) ?_) | apply ex_av | (refine fun (h : (_ : Bool) = true) => ?_; have h' := h; (try simp only [Bool.or_eq_true, Bool.and_eq_true, Bool.or_eq_false_iff, Bool.and_eq_false_iff, toNat_pred, toNat_succ, toNat_addn, toNat_subn, decide_eq_true_eq, decide_eq_false_iff_not, Bool.not_eq_true', Bool.not_eq_false', List.length_map, Int.toNat_natCast, Int.not_lt, Int.not_le, Bool.not_eq_true, Bool.false_eq_true, Bool.true_eq_false, Bool.not_true, Bool.not_false, reduceCtorEq, beq_iff_eq, Bool.not_eq_eq_eq_not, bne_iff_ne, ne_eq, decide_not, Decidable.not_not, Classical.not_not] at h')) | refine And.intro (show Both _ _ _ by (refine ⟨fun h => ?_, fun h => ?_⟩ <;> first | rfl | exact h | exact Bool.noConfusion h | (rw [h]; rfl) | (simp_all; done) | fail)) ?_ | refine And.intro rfl ?_ | refine Two.mk ?_ ?_ | refine And.intro (allU8_bytes _) ?_ | refine And.intro (show (_ : Bool) = true by first | assumption | (simp_all; done) | fail) ?_ | refine And.intro (Or.inr rfl) ?_ | refine And.intro (Nat.le_of_ble_eq_true rfl) ?_ | refine And.intro (decide_eq_false (by omega)) ?_ | refine And.intro (show Program.stoodInHeld _ _ = _ by kernel_rfl) (And.intro (by kernel_rfl) ?_) | refine And.intro (show Nat.beq _ _ = _ from rfl) (And.intro (by decide) ?_) | refine And.intro ⟨rfl, rfl⟩ ?_ | refine And.intro ⟨rfl, rfl, trivial⟩ ?_ | refine And.intro (Int.natCast_nonneg _) ?_ | refine Or.inl (And.intro rfl (And.intro rfl (And.intro rfl (And.intro rfl ?_)))) | refine Or.inl (And.intro rfl (And.intro rfl ?_)) | refine Or.inr (And.intro (Nat.le_of_ble_eq_true rfl) ?_) | refine Or.inl (And.intro (by unfold in64; omega) ?_) | refine And.intro (by first | omega | (simp only [dlen, true_and, and_true, Nat.le_refl, List.length_map, List.length_append, List.length_cons, List.length_nil, List.length_take, List.length_drop, List.length_replicate, Int.toNat_natCast, List.append_nil] <;> omega) | fail) ?_ | refine And.intro (allU8_bytes _) ?_ | refine And.intro (show elemsP _ _ _ by repeat' (first | exact rfl | exact trivial | constructor)) ?_ | (refine (idx_con l p c d hf).mono fun rs bs hr => ?_; obtain ⟨⟨r, rfl, hr⟩, rfl⟩ := hr) | (refine fun x hx => ?_; (try simp (disch := omega) only [Int.tdiv_eq_ediv_of_nonneg, Int.tmod_eq_emod_of_nonneg, bx, Bool.true_or, Bool.false_or, Bool.or_false, Bool.or_true, Bool.and_true, Bool.true_and, Bool.false_and, Bool.and_false, cond_true, cond_false, if_true, if_false, Bool.false_eq_true, min_nn, max_nn, min_ln, min_nl, max_ln, max_nl, getD_map, str_of_bytes, take_bytes, take_data, wrap_u64, wrap_u32, wrap_u8, shr_i64, shr_u64, shr_u32, shl_i64, shl_u64, Int.reduceToNat, Int.reducePow, Int.pow_succ, Int.pow_zero, Int.one_mul, Int.reduceMul, wrap_id, wrap_u8_nat, wrap_i64_u8, byteD_mk, map_snoc, map_app, set_map, take_map', drop_map', Nat.sub_zero, List.length_map, List.length_append, List.length_cons, List.length_nil, Int.toNat_natCast, List.drop_zero, List.take_succ_cons, List.take_zero, List.take_length, List.nil_append, List.append_nil, Nat.zero_add, toNat_pred, toNat_succ, toNat_addn, toNat_subn] at hx); subst hx) | rw [List.take_length] | (rw [List.take_of_length_le]; rotate_left; (first | omega | (simp only [dlen, true_and, and_true, Nat.le_refl, List.length_map, List.length_append, List.length_cons, List.length_nil, List.length_take, List.length_drop, List.length_replicate, Int.toNat_natCast, List.append_nil] <;> omega) | fail)) | refine fun h => ?_ | fail)); all_goals (try exact (AV.dead : AV)); all_goals (try (conv => whnf))
  exact ⟨rb hr, rfl⟩
theorem clo_con (k : Sc) (c : Int) (d : Nat) (hd : d < 1000000) (ih : Has Tryd.prog 20 [CV.d (encSc k), CV.d (.int .i64 c), CV.d (.int .i64 d)] (fun rs bs => rs = [.d (.bool (rightD d k c))] ∧ bs = [.gone, .gone, .gone])) : Has Tryd.prog 30 [CV.d (encSc k), CV.d (D.ptr (D.int .i64 c)), CV.d (D.ptr (D.int .i64 ((d : Int) + 1)))] (fun rs bs => rs = [CV.d (D.bool (!rightD d k c))] ∧ bs = [.gone, .gone, .gone] ) := by
  rw [encSc_eq] at ih ⊢
  refine Has_of_run (fn := Tryd.f30) (M := M0) fol (by kernel_rfl) 0 noPlan [] [] (by kernel_rfl) (Nat.le_of_ble_eq_true rfl) ?_
  (repeat' ((conv => whnf); first | done | (refine And.intro (fun h => ?_) (fun h => ?_) <;> (try simp only [Bool.or_eq_true, Bool.and_eq_true, Bool.or_eq_false_iff, Bool.and_eq_false_iff, toNat_pred, toNat_succ, toNat_addn, toNat_subn, decide_eq_true_eq, decide_eq_false_iff_not, Bool.not_eq_true', Bool.not_eq_false', List.length_map, Int.toNat_natCast, Int.not_lt, Int.not_le, Bool.not_eq_true, Bool.false_eq_true, Bool.true_eq_false, Bool.not_true, Bool.not_false, reduceCtorEq, beq_iff_eq, Bool.not_eq_eq_eq_not, bne_iff_ne, ne_eq, decide_not, Decidable.not_not, Classical.not_not] at h)) | exact (rfl : (_ : AV) = _) | exact (rfl : (_ : St) = _) | refine Exists.intro (α := AV) AV.dead (And.intro (fun h => Bool.noConfusion h) ?_) | apply ex_av | (refine fun (h : (_ : Bool) = true) => ?_; have h' := h; (try simp only [Bool.or_eq_true, Bool.and_eq_true, Bool.or_eq_false_iff, Bool.and_eq_false_iff, toNat_pred, toNat_succ, toNat_addn, toNat_subn, decide_eq_true_eq, decide_eq_false_iff_not, Bool.not_eq_true', Bool.not_eq_false', List.length_map, Int.toNat_natCast, Int.not_lt, Int.not_le, Bool.not_eq_true, Bool.false_eq_true, Bool.true_eq_false, Bool.not_true, Bool.not_false, reduceCtorEq, beq_iff_eq, Bool.not_eq_eq_eq_not, bne_iff_ne, ne_eq, decide_not, Decidable.not_not, Classical.not_not] at h')) | refine And.intro (show Both _ _ _ by (refine ⟨fun h => ?_, fun h => ?_⟩ <;> first | rfl | exact h | exact Bool.noConfusion h | (rw [h]; rfl) | (simp_all; done) | fail)) ?_ | refine And.intro rfl ?_ | refine Two.mk ?_ ?_ | refine And.intro (allU8_bytes _) ?_ | refine And.intro (show (_ : Bool) = true by first | assumption | (simp_all; done) | fail) ?_ | refine And.intro (Or.inr rfl) ?_ | refine And.intro (Nat.le_of_ble_eq_true rfl) ?_ | refine And.intro (decide_eq_false (by omega)) ?_ | refine And.intro (show Program.stoodInHeld _ _ = _ by kernel_rfl) (And.intro (by kernel_rfl) ?_) | refine And.intro (show Nat.beq _ _ = _ from rfl) (And.intro (by decide) ?_) | refine And.intro ⟨rfl, rfl⟩ ?_ | refine And.intro ⟨rfl, rfl, trivial⟩ ?_ | refine And.intro (Int.natCast_nonneg _) ?_ | refine Or.inl (And.intro rfl (And.intro rfl (And.intro rfl (And.intro rfl ?_)))) | refine Or.inl (And.intro rfl (And.intro rfl ?_)) | refine Or.inr (And.intro (Nat.le_of_ble_eq_true rfl) ?_) | refine Or.inl (And.intro (by unfold in64; omega) ?_) | refine And.intro (by first | omega | (simp only [dlen, true_and, and_true, Nat.le_refl, List.length_map, List.length_append, List.length_cons, List.length_nil, List.length_take, List.length_drop, List.length_replicate, Int.toNat_natCast, List.append_nil] <;> omega) | fail) ?_ | refine And.intro (allU8_bytes _) ?_ | refine And.intro (show elemsP _ _ _ by repeat' (first | exact rfl | exact trivial | constructor)) ?_ | (refine ih.mono fun rs bs hr => ?_; obtain ⟨rfl, rfl⟩ := hr) | (rw [show ((d : Int) + 1 - 1) = d by omega]) | (refine fun x hx => ?_; (try simp (disch := omega) only [Int.tdiv_eq_ediv_of_nonneg, Int.tmod_eq_emod_of_nonneg, bx, Bool.true_or, Bool.false_or, Bool.or_false, Bool.or_true, Bool.and_true, Bool.true_and, Bool.false_and, Bool.and_false, cond_true, cond_false, if_true, if_false, Bool.false_eq_true, min_nn, max_nn, min_ln, min_nl, max_ln, max_nl, getD_map, str_of_bytes, take_bytes, take_data, wrap_u64, wrap_u32, wrap_u8, shr_i64, shr_u64, shr_u32, shl_i64, shl_u64, Int.reduceToNat, Int.reducePow, Int.pow_succ, Int.pow_zero, Int.one_mul, Int.reduceMul, wrap_id, wrap_u8_nat, wrap_i64_u8, byteD_mk, map_snoc, map_app, set_map, take_map', drop_map', Nat.sub_zero, List.length_map, List.length_append, List.length_cons, List.length_nil, Int.toNat_natCast, List.drop_zero, List.take_succ_cons, List.take_zero, List.take_length, List.nil_append, List.append_nil, Nat.zero_add, toNat_pred, toNat_succ, toNat_addn, toNat_subn] at hx); subst hx) | rw [List.take_length] | (rw [List.take_of_length_le]; rotate_left; (first | omega | (simp only [dlen, true_and, and_true, Nat.le_refl, List.length_map, List.length_append, List.length_cons, List.length_nil, List.length_take, List.length_drop, List.length_replicate, Int.toNat_natCast, List.append_nil] <;> omega) | fail)) | refine fun h => ?_ | fail)); all_goals (try exact (AV.dead : AV)); all_goals (try (conv => whnf))
theorem right_con (x : Sc) (c : Int) (d : Nat) (hd : d < 1000000) (hc : 0 < d → Has Tryd.prog 29 [CV.d (.sl 6 (x.kids.map encSc)), CV.d (.clo (.func 30) [] [D.ptr (D.int .i64 c), D.ptr (D.int .i64 d)])] (fun rs bs => rs = [.d (.bool (x.kids.any fun k => !rightD (d - 1) k c))] ∧ bs = [.gone, .gone])) : Has Tryd.prog 20 [CV.d (encSc x), CV.d (D.int .i64 c), CV.d (D.int .i64 d)] (fun rs bs => rs = [CV.d (D.bool (rightD d x c))] ∧ bs = [.gone, .gone, .gone] ) := by
  rw [encSc_eq]
  refine Has_of_run (fn := Tryd.f20) (M := M0) fol (by kernel_rfl) 3 noPlan [] [] (by kernel_rfl) (Nat.le_of_ble_eq_true rfl) ?_
  (repeat' ((conv => whnf); first | done | (refine And.intro (fun h => ?_) (fun h => ?_) <;> (try simp only [Bool.or_eq_true, Bool.and_eq_true, Bool.or_eq_false_iff, Bool.and_eq_false_iff, toNat_pred, toNat_succ, toNat_addn, toNat_subn, decide_eq_true_eq, decide_eq_false_iff_not, Bool.not_eq_true', Bool.not_eq_false', List.length_map, Int.toNat_natCast, Int.not_lt, Int.not_le, Bool.not_eq_true, Bool.false_eq_true, Bool.true_eq_false, Bool.not_true, Bool.not_false, reduceCtorEq, beq_iff_eq, Bool.not_eq_eq_eq_not, bne_iff_ne, ne_eq, decide_not, Decidable.not_not, Classical.not_not] at h)) | exact (rfl : (_ : AV) = _) | exact (rfl : (_ : St) = _) | refine Exists.intro (α := AV) AV.dead (And.intro (fun h => Bool.noConfusion h) ?_) | apply ex_av | (refine fun (h : (_ : Bool) = true) => ?_; have h' := h; (try simp only [Bool.or_eq_true, Bool.and_eq_true, Bool.or_eq_false_iff, Bool.and_eq_false_iff, toNat_pred, toNat_succ, toNat_addn, toNat_subn, decide_eq_true_eq, decide_eq_false_iff_not, Bool.not_eq_true', Bool.not_eq_false', List.length_map, Int.toNat_natCast, Int.not_lt, Int.not_le, Bool.not_eq_true, Bool.false_eq_true, Bool.true_eq_false, Bool.not_true, Bool.not_false, reduceCtorEq, beq_iff_eq, Bool.not_eq_eq_eq_not, bne_iff_ne, ne_eq, decide_not, Decidable.not_not, Classical.not_not] at h')) | refine And.intro (show Both _ _ _ by (refine ⟨fun h => ?_, fun h => ?_⟩ <;> first | rfl | exact h | exact Bool.noConfusion h | (rw [h]; rfl) | (simp_all; done) | fail)) ?_ | refine And.intro rfl ?_ | refine Two.mk ?_ ?_ | refine And.intro (allU8_bytes _) ?_ | refine And.intro (show (_ : Bool) = true by first | assumption | (simp_all; done) | fail) ?_ | refine And.intro (Or.inr rfl) ?_ | refine And.intro (Nat.le_of_ble_eq_true rfl) ?_ | refine And.intro (decide_eq_false (by omega)) ?_ | refine And.intro (show Program.stoodInHeld _ _ = _ by kernel_rfl) (And.intro (by kernel_rfl) ?_) | refine And.intro (show Nat.beq _ _ = _ from rfl) (And.intro (by decide) ?_) | refine And.intro ⟨rfl, rfl⟩ ?_ | refine And.intro ⟨rfl, rfl, trivial⟩ ?_ | refine And.intro (Int.natCast_nonneg _) ?_ | refine Or.inl (And.intro rfl (And.intro rfl (And.intro rfl (And.intro rfl ?_)))) | refine Or.inl (And.intro rfl (And.intro rfl ?_)) | refine Or.inr (And.intro (Nat.le_of_ble_eq_true rfl) ?_) | refine Or.inl (And.intro (by unfold in64; omega) ?_) | refine And.intro (by first | omega | (simp only [dlen, true_and, and_true, Nat.le_refl, List.length_map, List.length_append, List.length_cons, List.length_nil, List.length_take, List.length_drop, List.length_replicate, Int.toNat_natCast, List.append_nil] <;> omega) | fail) ?_ | refine And.intro (allU8_bytes _) ?_ | refine And.intro (show elemsP _ _ _ by repeat' (first | exact rfl | exact trivial | constructor)) ?_ | (rw [← encSc_eq]; refine (shape_con _ _).mono fun rs bs hr => ?_; obtain ⟨rfl, rfl⟩ := hr) | (refine (hc (by omega)).mono fun rs bs hr => ?_; obtain ⟨rfl, rfl⟩ := hr) | (refine fun x hx => ?_; (try simp (disch := omega) only [Int.tdiv_eq_ediv_of_nonneg, Int.tmod_eq_emod_of_nonneg, bx, Bool.true_or, Bool.false_or, Bool.or_false, Bool.or_true, Bool.and_true, Bool.true_and, Bool.false_and, Bool.and_false, cond_true, cond_false, if_true, if_false, Bool.false_eq_true, min_nn, max_nn, min_ln, min_nl, max_ln, max_nl, getD_map, str_of_bytes, take_bytes, take_data, wrap_u64, wrap_u32, wrap_u8, shr_i64, shr_u64, shr_u32, shl_i64, shl_u64, Int.reduceToNat, Int.reducePow, Int.pow_succ, Int.pow_zero, Int.one_mul, Int.reduceMul, wrap_id, wrap_u8_nat, wrap_i64_u8, byteD_mk, map_snoc, map_app, set_map, take_map', drop_map', Nat.sub_zero, List.length_map, List.length_append, List.length_cons, List.length_nil, Int.toNat_natCast, List.drop_zero, List.take_succ_cons, List.take_zero, List.take_length, List.nil_append, List.append_nil, Nat.zero_add, toNat_pred, toNat_succ, toNat_addn, toNat_subn] at hx); subst hx) | rw [List.take_length] | (rw [List.take_of_length_le]; rotate_left; (first | omega | (simp only [dlen, true_and, and_true, Nat.le_refl, List.length_map, List.length_append, List.length_cons, List.length_nil, List.length_take, List.length_drop, List.length_replicate, Int.toNat_natCast, List.append_nil] <;> omega) | fail)) | refine fun h => ?_ | fail)); all_goals (try exact (AV.dead : AV)); all_goals (try (conv => whnf))
  all_goals first
    | exact ⟨rb (rightD_false (fun hh => h.elim (fun h => by omega) (fun h => h hh.2))).symm, rfl⟩
    | exact ⟨rb (rightD_any (by omega) h.2), rfl⟩
    | trace_state
 
theorem scRight_con (c : Int) : ∀ (d : Nat), d < 1000000 → ∀ x : Sc, Has Tryd.prog 20 [CV.d (encSc x), CV.d (.int .i64 c), CV.d (.int .i64 d)] (fun rs bs => rs = [.d (.bool (rightD d x c))] ∧ bs = [.gone, .gone, .gone])
  | 0, _, x => right_con x c 0 (by decide) (fun h => absurd h (Nat.lt_irrefl _))
  | d + 1, hd, x => right_con x c (d + 1) hd fun _ =>
      cont_con x.kids (fun k => !rightD d k c) c ((d + 1 : Nat) : Int) fun y _ => clo_con y c d (by omega) (scRight_con c d (by omega) y)
theorem scRightTop_con (x : Sc) (c : Int) : Has Tryd.prog 11 [CV.d (encSc x), CV.d (D.int .i64 c)] (fun rs bs => rs = [CV.d (D.bool (rightD 12 x c))] ∧ bs = [.gone, .gone] ) := by
  rw [encSc_eq]
  refine Has_of_run (fn := Tryd.f11) (M := M0) fol (by kernel_rfl) 2 noPlan [] [] (by kernel_rfl) (Nat.le_of_ble_eq_true rfl) ?_
  (repeat' ((conv => whnf); first | done | (refine And.intro (fun h => ?_) (fun h => ?_) <;> (try simp only [Bool.or_eq_true, Bool.and_eq_true, Bool.or_eq_false_iff, Bool.and_eq_false_iff, toNat_pred, toNat_succ, toNat_addn, toNat_subn, decide_eq_true_eq, decide_eq_false_iff_not, Bool.not_eq_true', Bool.not_eq_false', List.length_map, Int.toNat_natCast, Int.not_lt, Int.not_le, Bool.not_eq_true, Bool.false_eq_true, Bool.true_eq_false, Bool.not_true, Bool.not_false, reduceCtorEq, beq_iff_eq, Bool.not_eq_eq_eq_not, bne_iff_ne, ne_eq, decide_not, Decidable.not_not, Classical.not_not] at h)) | exact (rfl : (_ : AV) = _) | exact (rfl : (_ : St) = _) | refine Exists.intro (α := AV) AV.dead (And.intro (fun h => Bool.noConfusion h) ?_) | apply ex_av | (refine fun (h : (_ : Bool) = true) => ?_; have h' := h; (try simp only [Bool.or_eq_true, Bool.and_eq_true, Bool.or_eq_false_iff, Bool.and_eq_false_iff, toNat_pred, toNat_succ, toNat_addn, toNat_subn, decide_eq_true_eq, decide_eq_false_iff_not, Bool.not_eq_true', Bool.not_eq_false', List.length_map, Int.toNat_natCast, Int.not_lt, Int.not_le, Bool.not_eq_true, Bool.false_eq_true, Bool.true_eq_false, Bool.not_true, Bool.not_false, reduceCtorEq, beq_iff_eq, Bool.not_eq_eq_eq_not, bne_iff_ne, ne_eq, decide_not, Decidable.not_not, Classical.not_not] at h')) | refine And.intro (show Both _ _ _ by (refine ⟨fun h => ?_, fun h => ?_⟩ <;> first | rfl | exact h | exact Bool.noConfusion h | (rw [h]; rfl) | (simp_all; done) | fail)) ?_ | refine And.intro rfl ?_ | refine Two.mk ?_ ?_ | refine And.intro (allU8_bytes _) ?_ | refine And.intro (show (_ : Bool) = true by first | assumption | (simp_all; done) | fail) ?_ | refine And.intro (Or.inr rfl) ?_ | refine And.intro (Nat.le_of_ble_eq_true rfl) ?_ | refine And.intro (decide_eq_false (by omega)) ?_ | refine And.intro (show Program.stoodInHeld _ _ = _ by kernel_rfl) (And.intro (by kernel_rfl) ?_) | refine And.intro (show Nat.beq _ _ = _ from rfl) (And.intro (by decide) ?_) | refine And.intro ⟨rfl, rfl⟩ ?_ | refine And.intro ⟨rfl, rfl, trivial⟩ ?_ | refine And.intro (Int.natCast_nonneg _) ?_ | refine Or.inl (And.intro rfl (And.intro rfl (And.intro rfl (And.intro rfl ?_)))) | refine Or.inl (And.intro rfl (And.intro rfl ?_)) | refine Or.inr (And.intro (Nat.le_of_ble_eq_true rfl) ?_) | refine Or.inl (And.intro (by unfold in64; omega) ?_) | refine And.intro (by first | omega | (simp only [dlen, true_and, and_true, Nat.le_refl, List.length_map, List.length_append, List.length_cons, List.length_nil, List.length_take, List.length_drop, List.length_replicate, Int.toNat_natCast, List.append_nil] <;> omega) | fail) ?_ | refine And.intro (allU8_bytes _) ?_ | refine And.intro (show elemsP _ _ _ by repeat' (first | exact rfl | exact trivial | constructor)) ?_ | (rw [← encSc_eq]; refine (scRight_con _ 12 (by decide) _).mono fun rs bs hr => ?_; obtain ⟨rfl, rfl⟩ := hr) | (refine fun x hx => ?_; (try simp (disch := omega) only [Int.tdiv_eq_ediv_of_nonneg, Int.tmod_eq_emod_of_nonneg, bx, Bool.true_or, Bool.false_or, Bool.or_false, Bool.or_true, Bool.and_true, Bool.true_and, Bool.false_and, Bool.and_false, cond_true, cond_false, if_true, if_false, Bool.false_eq_true, min_nn, max_nn, min_ln, min_nl, max_ln, max_nl, getD_map, str_of_bytes, take_bytes, take_data, wrap_u64, wrap_u32, wrap_u8, shr_i64, shr_u64, shr_u32, shl_i64, shl_u64, Int.reduceToNat, Int.reducePow, Int.pow_succ, Int.pow_zero, Int.one_mul, Int.reduceMul, wrap_id, wrap_u8_nat, wrap_i64_u8, byteD_mk, map_snoc, map_app, set_map, take_map', drop_map', Nat.sub_zero, List.length_map, List.length_append, List.length_cons, List.length_nil, Int.toNat_natCast, List.drop_zero, List.take_succ_cons, List.take_zero, List.take_length, List.nil_append, List.append_nil, Nat.zero_add, toNat_pred, toNat_succ, toNat_addn, toNat_subn] at hx); subst hx) | rw [List.take_length] | (rw [List.take_of_length_le]; rotate_left; (first | omega | (simp only [dlen, true_and, and_true, Nat.le_refl, List.length_map, List.length_append, List.length_cons, List.length_nil, List.length_take, List.length_drop, List.length_replicate, Int.toNat_natCast, List.append_nil] <;> omega) | fail)) | refine fun h => ?_ | fail)); all_goals (try exact (AV.dead : AV)); all_goals (try (conv => whnf))
end Go.Fw
namespace Go.Fw
open Go Go.Proofs
set_option maxHeartbeats 10000000
set_option maxRecDepth 100000
set_option linter.constructorNameAsVariable false
set_option linter.unusedVariables false
set_option linter.unusedSimpArgs false
theorem refRight_con (x : Sc) (c : Int) (d : Nat) (hd : d < 1000000) (ih : 0 < d → ∀ k ∈ x.kids, Has Tryd.prog 12 [CV.d (encSc k), CV.d (.int .i64 c), CV.d (.int .i64 ((d - 1 : Nat) : Int))] (fun rs bs => rs = [.d (.bool (rightD (d - 1) k c))] ∧ bs = [.gone, .gone, .gone])) : Has Tryd.prog 12 [CV.d (encSc x), CV.d (D.int .i64 c), CV.d (D.int .i64 d)] (fun rs bs => rs = [CV.d (D.bool (rightD d x c))] ∧ bs = [.gone, .gone, .gone] ) := by
  rw [encSc_eq]
  refine Has_of_run (fn := Tryd.f12) (M := M0) fol (by kernel_rfl) 3 noPlan [] [] (by kernel_rfl) (Nat.le_of_ble_eq_true rfl) ?_
  (repeat' ((conv => whnf); first | done | (refine And.intro (fun h => ?_) (fun h => ?_) <;> (try simp only [Bool.or_eq_true, Bool.and_eq_true, Bool.or_eq_false_iff, Bool.and_eq_false_iff, toNat_pred, toNat_succ, toNat_addn, toNat_subn, decide_eq_true_eq, decide_eq_false_iff_not, Bool.not_eq_true', Bool.not_eq_false', List.length_map, Int.toNat_natCast, Int.not_lt, Int.not_le, Bool.not_eq_true, Bool.false_eq_true, Bool.true_eq_false, Bool.not_true, Bool.not_false, reduceCtorEq, beq_iff_eq, Bool.not_eq_eq_eq_not, bne_iff_ne, ne_eq, decide_not, Decidable.not_not, Classical.not_not, emp_iff] at h)) | exact (rfl : (_ : AV) = _) | exact (rfl : (_ : St) = _) | refine Exists.intro (α := AV) AV.dead (And.intro (fun h => Bool.noConfusion h) ?_) | apply ex_av | (refine fun (h : (_ : Bool) = true) => ?_; have h' := h; (try simp only [Bool.or_eq_true, Bool.and_eq_true, Bool.or_eq_false_iff, Bool.and_eq_false_iff, toNat_pred, toNat_succ, toNat_addn, toNat_subn, decide_eq_true_eq, decide_eq_false_iff_not, Bool.not_eq_true', Bool.not_eq_false', List.length_map, Int.toNat_natCast, Int.not_lt, Int.not_le, Bool.not_eq_true, Bool.false_eq_true, Bool.true_eq_false, Bool.not_true, Bool.not_false, reduceCtorEq, beq_iff_eq, Bool.not_eq_eq_eq_not, bne_iff_ne, ne_eq, decide_not, Decidable.not_not, Classical.not_not, emp_iff] at h')) | refine And.intro (show Both _ _ _ by (refine ⟨fun h => ?_, fun h => ?_⟩ <;> first | rfl | exact h | exact Bool.noConfusion h | (rw [h]; rfl) | (simp_all; done) | fail)) ?_ | refine And.intro rfl ?_ | refine Two.mk ?_ ?_ | refine And.intro (allU8_bytes _) ?_ | refine And.intro (show (_ : Bool) = true by first | assumption | (simp_all; done) | fail) ?_ | refine And.intro (Or.inr rfl) ?_ | refine And.intro (Nat.le_of_ble_eq_true rfl) ?_ | refine And.intro (decide_eq_false (by omega)) ?_ | refine And.intro (show Program.stoodInHeld _ _ = _ by kernel_rfl) (And.intro (by kernel_rfl) ?_) | refine And.intro (show Nat.beq _ _ = _ from rfl) (And.intro (by decide) ?_) | refine And.intro ⟨rfl, rfl⟩ ?_ | refine And.intro ⟨rfl, rfl, trivial⟩ ?_ | refine And.intro (Int.natCast_nonneg _) ?_ | refine Or.inl (And.intro rfl (And.intro rfl (And.intro rfl (And.intro rfl ?_)))) | refine Or.inl (And.intro rfl (And.intro rfl ?_)) | refine Or.inr (And.intro (Nat.le_of_ble_eq_true rfl) ?_) | refine Or.inl (And.intro (by unfold in64; omega) ?_) | refine And.intro (by first | omega | (simp only [dlen, true_and, and_true, Nat.le_refl, List.length_map, List.length_append, List.length_cons, List.length_nil, List.length_take, List.length_drop, List.length_replicate, Int.toNat_natCast, List.append_nil, emp_iff] <;> omega) | fail) ?_ | refine And.intro (allU8_bytes _) ?_ | refine And.intro (show elemsP _ _ _ by repeat' (first | exact rfl | exact trivial | constructor)) ?_ | (rw [show ((d : Int) - 1) = ((d - 1 : Nat) : Int) by omega, ← encSc_eq]; refine (ih (by omega) _ (getD_mem (by omega))).mono fun rs bs hr => ?_; obtain ⟨rfl, rfl⟩ := hr) | (refine Loops.by (M := M0) 3 noPlan fol (by kernel_rfl) (ι := Nat) (fun i => ⟨[(1, AV.d (D.int .i64 c)), (2, AV.d (D.int .i64 d)), (3, AV.addr [3] 16 0), (8, AV.d (D.int .i64 x.kids.length)), (9, AV.d (D.int .i64 i))], [([3], 16, AO.box 24 [AV.d (D.int .i64 x.kind), AV.d (D.int .i64 x.col), AV.d (D.str x.s), AV.d (D.int .i64 x.fr), AV.d (D.int .i64 x.n), AV.d (D.sl 6 (x.kids.map encSc))])], 17⟩) (fun i => i ≤ x.kids.length ∧ ∀ j, j < i → rightD (d - 1) (x.kids.getD j default) c = true) (fun i => x.kids.length - i) (fun i hI => ?_) (0) ⟨Nat.zero_le _, fun j h => absurd h (Nat.not_lt_zero _)⟩ (Forget.mk' ⟨⟨rfl, rfl⟩, ⟨rfl, rfl⟩, ⟨rfl, rfl⟩, ⟨rfl, rfl⟩, ⟨rfl, rfl⟩, trivial⟩ ⟨⟨rfl, rfl, rfl⟩, trivial⟩ rfl rfl); obtain ⟨hi, hok⟩ := hI) | (refine fun x hx => ?_; (try simp (disch := omega) only [Int.tdiv_eq_ediv_of_nonneg, Int.tmod_eq_emod_of_nonneg, bx, Bool.true_or, Bool.false_or, Bool.or_false, Bool.or_true, Bool.and_true, Bool.true_and, Bool.false_and, Bool.and_false, cond_true, cond_false, if_true, if_false, Bool.false_eq_true, min_nn, max_nn, min_ln, min_nl, max_ln, max_nl, getD_map, str_of_bytes, take_bytes, take_data, wrap_u64, wrap_u32, wrap_u8, shr_i64, shr_u64, shr_u32, shl_i64, shl_u64, Int.reduceToNat, Int.reducePow, Int.pow_succ, Int.pow_zero, Int.one_mul, Int.reduceMul, wrap_id, wrap_u8_nat, wrap_i64_u8, byteD_mk, map_snoc, map_app, set_map, take_map', drop_map', Nat.sub_zero, List.length_map, List.length_append, List.length_cons, List.length_nil, Int.toNat_natCast, List.drop_zero, List.take_succ_cons, List.take_zero, List.take_length, List.nil_append, List.append_nil, Nat.zero_add, toNat_pred, toNat_succ, toNat_addn, toNat_subn, emp_iff, encSc_eq] at hx); subst hx) | rw [List.take_length] | (rw [List.take_of_length_le]; rotate_left; (first | omega | (simp only [dlen, true_and, and_true, Nat.le_refl, List.length_map, List.length_append, List.length_cons, List.length_nil, List.length_take, List.length_drop, List.length_replicate, Int.toNat_natCast, List.append_nil, emp_iff] <;> omega) | fail)) | refine fun h => ?_ | fail)); all_goals (try exact (AV.dead : AV)); all_goals (try (conv => whnf))
  all_goals first
    | exact ⟨rb (rightD_false (by unfold ShapeP Odd; omega)).symm, rfl⟩
    | exact ⟨rb (rightD_kid (i := i) (by omega) (by assumption)).symm, rfl⟩
    | exact ⟨i + 1, ⟨⟨by omega, upto_succ hok (by assumption)⟩, by omega⟩, (Forget.mk' ⟨⟨rfl, rfl⟩, ⟨rfl, rfl⟩, ⟨rfl, rfl⟩, ⟨rfl, rfl⟩, ⟨rfl, rfl⟩, trivial⟩ ⟨⟨rfl, rfl, rfl⟩, trivial⟩ rfl rfl)⟩
    | exact ⟨rb (rightD_true (by omega) (by unfold ShapeP Odd; omega) (fun j hj => hok j (by omega))).symm, rfl⟩
 
theorem refRight_all (c : Int) : ∀ (d : Nat), d < 1000000 → ∀ x : Sc, Has Tryd.prog 12 [CV.d (encSc x), CV.d (.int .i64 c), CV.d (.int .i64 d)] (fun rs bs => rs = [.d (.bool (rightD d x c))] ∧ bs = [.gone, .gone, .gone])
  | 0, hd, x => refRight_con x c 0 hd fun h => absurd h (Nat.lt_irrefl _)
  | d + 1, hd, x => refRight_con x c (d + 1) hd fun _ k _ => refRight_all c d (by omega) k
end Go.Fw
namespace Go.Fw
open Go
set_option linter.unusedVariables false
set_option linter.unusedSimpArgs false
theorem Has.weaken {P : Program} {g : FuncId} {args args' : List CV} {R : List CV → List CV → Prop} (h : Has P g args' R) (hc : ∀ w F vs fp, CRl w F args vs fp → CRl w F args' vs fp) : Has P g args R :=
  ⟨fun F w vs fp h1 h2 h3 h4 => h.con F w vs fp (hc w F vs fp h1) h2 h3 h4⟩
theorem CRl.consI {w : World} {F : Nat → Prop} {x y : CV} {r q : List CV} (h1 : ∀ v fp, CR w F x v fp → CR w F y v fp) (h2 : ∀ vs fp, CRl w F r vs fp → CRl w F q vs fp) : ∀ vs fp, CRl w F (x :: r) vs fp → CRl w F (y :: q) vs fp := by
  intro vs fp h
  simp only [CRl] at h ⊢
  obtain ⟨v, vs', f1, f2, e1, k1, k2, e2⟩ := h
  exact ⟨v, vs', f1, f2, e1, h1 _ _ k1, h2 _ _ k2, e2⟩
theorem CR.nilI {w : World} {F : Nat → Prop} {z z' : Nat} : ∀ v fp, CR w F (.d (.sl z [])) v fp → CR w F (.d (.sl z' [])) v fp := by
  intro v fp h
  simp only [CR, DRv, DRc] at h ⊢
  obtain ⟨⟨A, c, h1, h2, h3, _⟩, h5⟩ := h
  exact ⟨⟨A, c, h1, h2, h3, .inl trivial⟩, h5⟩
theorem CRl_gones {w : World} {F : Nat → Prop} : ∀ (args : List CV) (vs : List Value), vs.length = args.length → CRl w F (args.map fun _ => CV.gone) vs []
  | [], vs, h => by
    rw [List.eq_nil_of_length_eq_zero h]
    simp [CRl]
  | x :: r, [], h => by simp at h
  | x :: r, v :: vs, h => by
    simp only [List.map_cons, CRl, CR]
    exact ⟨v, vs, [], [], rfl, rfl, CRl_gones r vs (by simpa using h), rfl⟩
theorem CRl.len {w : World} {F : Nat → Prop} : ∀ {l : List CV} {vs : List Value} {fp : List Nat}, CRl w F l vs fp → vs.length = l.length
  | [], vs, fp, h => by simp only [CRl] at h; simp [h.1]
  | x :: r, vs, fp, h => by
    simp only [CRl] at h
    obtain ⟨v, vs', f1, f2, rfl, _, h2, _⟩ := h
    simp [h2.len]
 
theorem Has.gone {P : Program} {g : FuncId} {args : List CV} {R : List CV → List CV → Prop} (h : Has P g args R) : Has P g args (fun rs bs => (∃ az, R rs az) ∧ bs = args.map fun _ => CV.gone) := by
  constructor
  intro F w vs fp h1 h2 h3 h4
  have hl := h1.len
  have key : ∀ v w', (∃ rs az F' vr f1 f2, R rs az ∧ Left F w vs fp rs az v w' F' vr f1 f2) → ∃ rs az F' vr f1 f2, ((∃ az, R rs az) ∧ az = args.map fun _ => CV.gone) ∧ Left F w vs fp rs az v w' F' vr f1 f2 := by
    rintro v w' ⟨rs, az, F', vr, f1, f2, hr, l⟩
    refine ⟨rs, _, F', vr, f1, [], ⟨⟨az, hr⟩, rfl⟩, l.res, l.rs, CRl_gones args vs hl, ?_, fun b hb => l.sep b (by simp at hb; simp [hb]), l.lt, l.sub, l.keep, fun b hb => l.new b (hb.imp id fun h => by simp at h; simp [h]), l.os, l.tape, l.output, l.size⟩
    rw [List.append_nil]
    exact (List.nodup_append.1 l.nodup).1
  have := h.con F w vs fp h1 h2 h3 h4
  unfold Enters at this ⊢
  split at this
  · exact key _ _ this
  · refine this.mono fun e w' he => ?_
    cases e
    · exact key _ _ he
    · exact he
    · exact he
  · exact this.mono fun v w' he => key _ _ he
  · exact this.elim
mutual
 
def D.norm : D → D
  | .sl z l => .sl (if l.isEmpty then 0 else z) (norms l)
  | .ptr x => .ptr x.norm
  | .agg l => .agg (norms l)
  | .clo fn f c => .clo fn (norms f) (norms c)
  | .int k n => .int k n
  | .bool b => .bool b
  | .str s => .str s
  | .nilp => .nilp
  | .nilm => .nilm
  | .nilf => .nilf
def norms : List D → List D
  | [] => []
  | x :: r => x.norm :: norms r
end
theorem norms_len : ∀ l : List D, (norms l).length = l.length
  | [] => rfl
  | x :: r => by simp only [norms, List.length_cons, norms_len r]
theorem norm_agg : ∀ x : D, x.norm.isAgg = x.isAgg
  | .sl .. => rfl
  | .ptr _ => rfl
  | .agg _ => rfl
  | .clo .. => rfl
  | .int .. => rfl
  | .bool _ => rfl
  | .str _ => rfl
  | .nilp => rfl
  | .nilm => rfl
  | .nilf => rfl
mutual
theorem DRc_norm {w : World} {F : Nat → Prop} : ∀ (x : D) (vs : List Value), DRc w F x.norm vs ↔ DRc w F x vs
  | .sl z [], vs => by
    simp only [D.norm, norms, DRc]
    exact ⟨fun ⟨A, c, h1, h2, h3, _⟩ => ⟨A, c, h1, h2, h3, .inl trivial⟩, fun ⟨A, c, h1, h2, h3, _⟩ => ⟨A, c, h1, h2, h3, .inl trivial⟩⟩
  | .sl z (x :: r), vs => by
    have e := DRr_norm (w := w) (F := F) z (x :: r)
    have hl := norms_len (x :: r)
    simp only [D.norm, DRc, List.isEmpty_cons, Bool.false_eq_true, if_false, hl]
    have hne : norms (x :: r) ≠ [] := by simp [norms]
    constructor
    · rintro ⟨A, c, h1, h2, h3, h4⟩
      refine ⟨A, c, h1, h2, h3, ?_⟩
      rcases h4 with h4 | ⟨ad, cs, k1, k2, k3, k4⟩
      · exact absurd h4 hne
      · exact .inr ⟨ad, cs, k1, k2, k3, (e cs).1 k4⟩
    · rintro ⟨A, c, h1, h2, h3, h4⟩
      refine ⟨A, c, h1, h2, h3, ?_⟩
      rcases h4 with h4 | ⟨ad, cs, k1, k2, k3, k4⟩
      · cases h4
      · exact .inr ⟨ad, cs, k1, k2, k3, (e cs).2 k4⟩
  | .ptr x, vs => by
    simp only [D.norm, DRc]
    exact ⟨fun ⟨ad, cs, h1, h2, h3, h4⟩ => ⟨ad, cs, h1, h2, h3, (DRc_norm x cs).1 h4⟩, fun ⟨ad, cs, h1, h2, h3, h4⟩ => ⟨ad, cs, h1, h2, h3, (DRc_norm x cs).2 h4⟩⟩
  | .agg l, vs => by simp only [D.norm, DRc]; exact DRl_norm l vs
  | .clo fn f c, vs => by
    simp only [D.norm, DRc]
    exact ⟨fun ⟨fv, cv, h1, h2, h3⟩ => ⟨fv, cv, h1, (DRl_norm f _).1 h2, (DRl_norm c _).1 h3⟩, fun ⟨fv, cv, h1, h2, h3⟩ => ⟨fv, cv, h1, (DRl_norm f _).2 h2, (DRl_norm c _).2 h3⟩⟩
  | .int k n, vs => by simp only [D.norm]
  | .bool b, vs => by simp only [D.norm]
  | .str s, vs => by simp only [D.norm]
  | .nilp, vs => by simp only [D.norm]
  | .nilm, vs => by simp only [D.norm]
  | .nilf, vs => by simp only [D.norm]
theorem DRl_norm {w : World} {F : Nat → Prop} : ∀ (l : List D) (vs : List Value), DRl w F (norms l) vs ↔ DRl w F l vs
  | [], vs => by simp only [norms]
  | x :: r, vs => by
    simp only [norms, DRl, norm_agg x]
    exact ⟨fun ⟨v, vs', h1, h2, h3, h4⟩ => ⟨v, vs', h1, h2, (DRc_norm x _).1 h3, (DRl_norm r _).1 h4⟩, fun ⟨v, vs', h1, h2, h3, h4⟩ => ⟨v, vs', h1, h2, (DRc_norm x _).2 h3, (DRl_norm r _).2 h4⟩⟩
theorem DRr_norm {w : World} {F : Nat → Prop} (z : Nat) : ∀ (l : List D) (vs : List Value), DRr w F z (norms l) vs ↔ DRr w F z l vs
  | [], vs => by simp only [norms]
  | x :: r, vs => by
    simp only [norms, DRr]
    exact ⟨fun ⟨a, b, h1, h2, h3, h4⟩ => ⟨a, b, h1, h2, (DRc_norm x _).1 h3, (DRr_norm z r _).1 h4⟩, fun ⟨a, b, h1, h2, h3, h4⟩ => ⟨a, b, h1, h2, (DRc_norm x _).2 h3, (DRr_norm z r _).2 h4⟩⟩
end
theorem DRv_norm {w : World} {F : Nat → Prop} (x : D) (v : Value) : DRv w F x.norm v ↔ DRv w F x v := by
  cases x with
  | agg l =>
    simp only [D.norm, DRv]
    exact ⟨fun ⟨cs, h1, h2⟩ => ⟨cs, h1, (DRl_norm l _).1 h2⟩, fun ⟨cs, h1, h2⟩ => ⟨cs, h1, (DRl_norm l _).2 h2⟩⟩
  | sl z l => exact DRc_norm (w := w) (F := F) (.sl z l) [v]
  | ptr x => exact DRc_norm (w := w) (F := F) (.ptr x) [v]
  | clo fn f c => exact DRc_norm (w := w) (F := F) (.clo fn f c) [v]
  | int k n => exact DRc_norm (w := w) (F := F) (.int k n) [v]
  | bool b => exact DRc_norm (w := w) (F := F) (.bool b) [v]
  | str s => exact DRc_norm (w := w) (F := F) (.str s) [v]
  | nilp => exact DRc_norm (w := w) (F := F) .nilp [v]
  | nilm => exact DRc_norm (w := w) (F := F) .nilm [v]
  | nilf => exact DRc_norm (w := w) (F := F) .nilf [v]
def CV.norm : CV → CV
  | .d x => .d x.norm
  | x => x
theorem CR_norm {w : World} {F : Nat → Prop} (x : CV) (v : Value) (fp : List Nat) : CR w F x.norm v fp ↔ CR w F x v fp := by
  cases x with
  | d x => simp only [CV.norm, CR, DRv_norm x v]
  | _ => rfl
theorem CRl_norm {w : World} {F : Nat → Prop} : ∀ (l : List CV) (vs : List Value) (fp : List Nat), CRl w F (l.map CV.norm) vs fp ↔ CRl w F l vs fp
  | [], vs, fp => by simp only [List.map_nil]
  | x :: r, vs, fp => by
    simp only [List.map_cons, CRl]
    exact ⟨fun ⟨v, vs', f1, f2, h1, h2, h3, h4⟩ => ⟨v, vs', f1, f2, h1, (CR_norm x v f1).1 h2, (CRl_norm r vs' f2).1 h3, h4⟩, fun ⟨v, vs', f1, f2, h1, h2, h3, h4⟩ => ⟨v, vs', f1, f2, h1, (CR_norm x v f1).2 h2, (CRl_norm r vs' f2).2 h3, h4⟩⟩
theorem Has.norm {P : Program} {g : FuncId} {args args' : List CV} {R : List CV → List CV → Prop} (h : Has P g args' R) (e : args.map CV.norm = args'.map CV.norm) : Has P g args R :=
  h.weaken fun w F vs fp hc => (CRl_norm args' vs fp).1 (e ▸ (CRl_norm args vs fp).2 hc)
end Go.Fw
namespace Go.Fw
open Go
set_option linter.unusedVariables false
set_option linter.unusedSimpArgs false
def scA : Sc := .mk 4 0 nilB 0 0 [.mk 2 0 ⟨#[97, 98, 99]⟩ 0 0 []]
def scB : Sc := .mk 1 0 nilB 0 0 []
def scZ : Sc := .mk 0 0 nilB 0 0 []
theorem good2 (c : Int) (s : ByteArray) (h : s.size ≤ 4096) : Good c (.mk 2 0 s 0 0 []) := by
  refine .mk ?_ (by simp [Sc.fr]) (by simp [Sc.n]) (fun k hk => by cases hk)
  simp [ShapeP, Odd, Sc.kind, Sc.col, Sc.s, Sc.fr, Sc.n, Sc.kids, h]
theorem good3 (c : Int) : Good c (.mk 3 0 nilB 0 0 []) := by
  refine .mk ?_ (by decide) (by decide) (fun k hk => by cases hk)
  simp [ShapeP, Odd, Sc.kind, Sc.col, Sc.s, Sc.fr, Sc.n, Sc.kids, nilB_size]
theorem goodAc (c : Int) : Good c scA := by
  refine .mk ?_ (by decide) (by decide) (fun k hk => ?_)
  · simp [scA, ShapeP, Odd, Sc.kind, Sc.col, Sc.s, Sc.fr, Sc.n, Sc.kids, nilB_size]
  · simp only [scA, Sc.kids, List.mem_cons, List.not_mem_nil, or_false] at hk
    subst hk
    exact good2 c _ (by decide)
theorem goodA : Good (([] : List Vl).length) scA := goodAc _
theorem goodA1 : Good (([(false, ⟨#[113]⟩)] : List Vl).length) scA := goodAc _
theorem goodB : Good (([(false, ⟨#[113]⟩)] : List Vl).length) scB := by
  refine .mk ?_ (by decide) (by decide) (fun k hk => by cases hk)
  simp [scB, ShapeP, Odd, Sc.kind, Sc.col, Sc.s, Sc.fr, Sc.n, Sc.kids, nilB_size]
theorem val2 (row : List Vl) (s : ByteArray) : valS row (.mk 2 0 s 0 0 []) = ((false, s), 0) := by rw [valS, if_neg (by decide), if_pos rfl]
theorem nilB_app (s : ByteArray) : nilB ++ s = s := ba_ext (by rw [ByteArray.data_append, Array.toList_append]; rfl)
theorem npts3 : npts ⟨#[97, 98, 99]⟩ = 3 := by decide +kernel
theorem itoa3 : itoaS 3 = ⟨#[51]⟩ := by
  unfold itoaS
  rw [Lib.decDigits, dif_pos (by decide)]
  rfl
theorem valAr (row : List Vl) : valS row scA = ((false, ⟨#[51]⟩), 0) := by
  have hw : wholeS row scA.kids nilB true = (⟨#[97, 98, 99]⟩, true, 0) := by
    show wholeS row [.mk 2 0 ⟨#[97, 98, 99]⟩ 0 0 []] nilB true = _
    rw [wholeS, val2, if_neg (fun h => h rfl), wholeS, nilB_app]
    rfl
  have hm : madeS scA.kind scA.fr scA.n ⟨#[97, 98, 99]⟩ = ⟨#[51]⟩ := by
    unfold madeS
    rw [if_pos (show scA.kind = 4 from rfl), npts3, itoa3]
  rw [valS_whole (by decide) (by decide) (by decide) (by decide), hw]
  simp only [hm]
  rfl
theorem valA : valS [] scA = ((false, ⟨#[51]⟩), 0) := valAr _
theorem rowsAB : rowsS [(false, ⟨#[113]⟩)] [scA, scB] [] = ([(false, ⟨#[51]⟩), (false, ⟨#[113]⟩)], 0) := by
  rw [rowsS, valAr, if_neg (fun h => h rfl), rowsS]
  have : valS [(false, ⟨#[113]⟩)] scB = ((false, ⟨#[113]⟩), 0) := by
    unfold scB
    rw [valS, if_pos rfl]
    rfl
  rw [this, if_neg (fun h => h rfl)]
  rfl
theorem rightA : rightD 12 scA 0 = true := by kernel_rfl
theorem rightZ : rightD 12 scZ 1 = false := by kernel_rfl
end Go.Fw
namespace Go.Fw
open Go Go.Proofs
set_option maxHeartbeats 10000000
set_option maxRecDepth 100000
set_option linter.constructorNameAsVariable false
set_option linter.unusedVariables false
set_option linter.unusedSimpArgs false
theorem nilRow {x : Sc} (h : HasVal [] x) : Has Tryd.prog 14 [CV.d (encSc x), CV.d (.sl 0 [])] (fun rs _ => rs = [.d (encV (valS [] x).1), .d (.int .i64 (valS [] x).2)]) :=
  Has.weaken h fun w F => CRl.consI (fun v fp h => h) (CRl.consI CR.nilI (fun v fp h => h))
theorem aw1_con : Has Tryd.prog 14 [CV.d (encSc scA), CV.d (.sl 0 [])] (fun rs _ => rs = [.d (encV (false, ⟨#[51]⟩)), .d (.int .i64 0)]) := by
  have := nilRow (value_con (row := []) (fun v hv => by cases hv) goodA)
  rw [valA] at this
  exact this
theorem aw2_con : Has Tryd.prog 16 [CV.d (.sl 6 ([scA, scB].map encSc)), CV.d (.sl 2 ([(false, ⟨#[113]⟩)].map encV))] (fun rs _ => rs = [.own 32 2 ([(false, ⟨#[51]⟩), (false, ⟨#[113]⟩)].map encV), .d (.int .i64 0)]) := by
  have hr : rowOK [(false, ⟨#[113]⟩)] := fun v hv => by simp at hv; subst hv; decide
  have := row_con [(false, ⟨#[113]⟩)] [scA, scB] (by decide) (fun k hk => by
    simp only [List.mem_cons, List.not_mem_nil, or_false] at hk
    rcases hk with rfl | rfl
    · exact value_con hr goodA1
    · exact value_con hr goodB)
  rw [rowsAB] at this
  exact this
theorem aw3_con : Has Tryd.prog 11 [CV.d (encSc scA), CV.d (.int .i64 0)] (fun rs _ => rs = [.d (.bool true)]) :=
  (scRightTop_con scA 0).mono fun rs bs h => by rw [h.1, rightA]
theorem aw4_con : Has Tryd.prog 11 [CV.d (encSc scZ), CV.d (.int .i64 1)] (fun rs _ => rs = [.d (.bool false)]) :=
  (scRightTop_con scZ 1).mono fun rs bs h => by rw [h.1, rightZ]
theorem awake_con : Has Tryd.prog 9 [] (fun rs _ => rs = [CV.d (D.bool true)]) := by
  refine Has_of_run (fn := Tryd.f9) (M := M0) fol (by kernel_rfl) 1 noPlan [] [] (by kernel_rfl) (Nat.le_of_ble_eq_true rfl) ?_
  (repeat' ((conv => whnf); first | done | (refine And.intro (fun h => ?_) (fun h => ?_) <;> (try simp only [Bool.or_eq_true, Bool.and_eq_true, Bool.or_eq_false_iff, Bool.and_eq_false_iff, toNat_pred, toNat_succ, toNat_addn, toNat_subn, decide_eq_true_eq, decide_eq_false_iff_not, Bool.not_eq_true', Bool.not_eq_false', List.length_map, Int.toNat_natCast, Int.not_lt, Int.not_le, Bool.not_eq_true, Bool.false_eq_true, Bool.true_eq_false, Bool.not_true, Bool.not_false, reduceCtorEq, beq_iff_eq, Bool.not_eq_eq_eq_not, bne_iff_ne, ne_eq, decide_not, Decidable.not_not, Classical.not_not] at h)) | exact (rfl : (_ : AV) = _) | exact (rfl : (_ : St) = _) | refine Exists.intro (α := AV) AV.dead (And.intro (fun h => Bool.noConfusion h) ?_) | apply ex_av | (refine fun (h : (_ : Bool) = true) => ?_; have h' := h; (try simp only [Bool.or_eq_true, Bool.and_eq_true, Bool.or_eq_false_iff, Bool.and_eq_false_iff, toNat_pred, toNat_succ, toNat_addn, toNat_subn, decide_eq_true_eq, decide_eq_false_iff_not, Bool.not_eq_true', Bool.not_eq_false', List.length_map, Int.toNat_natCast, Int.not_lt, Int.not_le, Bool.not_eq_true, Bool.false_eq_true, Bool.true_eq_false, Bool.not_true, Bool.not_false, reduceCtorEq, beq_iff_eq, Bool.not_eq_eq_eq_not, bne_iff_ne, ne_eq, decide_not, Decidable.not_not, Classical.not_not] at h')) | refine And.intro (show Both _ _ _ by (refine ⟨fun h => ?_, fun h => ?_⟩ <;> first | rfl | exact h | exact Bool.noConfusion h | (rw [h]; rfl) | (simp_all; done) | fail)) ?_ | refine And.intro rfl ?_ | refine Two.mk ?_ ?_ | refine And.intro (allU8_bytes _) ?_ | refine And.intro (show (_ : Bool) = true by first | assumption | (simp_all; done) | fail) ?_ | refine And.intro (Or.inr rfl) ?_ | refine And.intro (Nat.le_of_ble_eq_true rfl) ?_ | refine And.intro (decide_eq_false (by omega)) ?_ | refine And.intro (show Program.stoodInHeld _ _ = _ by kernel_rfl) (And.intro (by kernel_rfl) ?_) | refine And.intro (show Nat.beq _ _ = _ from rfl) (And.intro (by decide) ?_) | refine And.intro ⟨rfl, rfl⟩ ?_ | refine And.intro ⟨rfl, rfl, trivial⟩ ?_ | refine And.intro (Int.natCast_nonneg _) ?_ | refine Or.inl (And.intro rfl (And.intro rfl (And.intro rfl (And.intro rfl ?_)))) | refine Or.inl (And.intro rfl (And.intro rfl ?_)) | refine Or.inr (And.intro (Nat.le_of_ble_eq_true rfl) ?_) | refine Or.inl (And.intro (by unfold in64; omega) ?_) | refine And.intro (by first | omega | (simp only [dlen, true_and, and_true, Nat.le_refl, List.length_map, List.length_append, List.length_cons, List.length_nil, List.length_take, List.length_drop, List.length_replicate, Int.toNat_natCast, List.append_nil] <;> omega) | fail) ?_ | refine And.intro (allU8_bytes _) ?_ | refine And.intro (show elemsP _ _ _ by repeat' (first | exact rfl | exact trivial | constructor)) ?_ | (refine Has.mono (Has.norm (aw1_con) (by rfl)) (fun rs bs hr => ?_); subst hr) | (refine Has.mono (Has.norm (aw2_con) (by rfl)) (fun rs bs hr => ?_); subst hr) | (refine Has.mono (Has.norm (aw3_con) (by rfl)) (fun rs bs hr => ?_); subst hr) | (refine Has.mono (Has.norm (aw4_con) (by rfl)) (fun rs bs hr => ?_); subst hr) | (refine fun x hx => ?_; (try simp (disch := omega) only [Int.tdiv_eq_ediv_of_nonneg, Int.tmod_eq_emod_of_nonneg, bx, Bool.true_or, Bool.false_or, Bool.or_false, Bool.or_true, Bool.and_true, Bool.true_and, Bool.false_and, Bool.and_false, cond_true, cond_false, if_true, if_false, Bool.false_eq_true, min_nn, max_nn, min_ln, min_nl, max_ln, max_nl, getD_map, str_of_bytes, take_bytes, take_data, wrap_u64, wrap_u32, wrap_u8, shr_i64, shr_u64, shr_u32, shl_i64, shl_u64, Int.reduceToNat, Int.reducePow, Int.pow_succ, Int.pow_zero, Int.one_mul, Int.reduceMul, wrap_id, wrap_u8_nat, wrap_i64_u8, byteD_mk, map_snoc, map_app, set_map, take_map', drop_map', Nat.sub_zero, List.length_map, List.length_append, List.length_cons, List.length_nil, Int.toNat_natCast, List.drop_zero, List.take_succ_cons, List.take_zero, List.take_length, List.nil_append, List.append_nil, Nat.zero_add, toNat_pred, toNat_succ, toNat_addn, toNat_subn] at hx); subst hx) | rw [List.take_length] | (rw [List.take_of_length_le]; rotate_left; (first | omega | (simp only [dlen, true_and, and_true, Nat.le_refl, List.length_map, List.length_append, List.length_cons, List.length_nil, List.length_take, List.length_drop, List.length_replicate, Int.toNat_natCast, List.append_nil] <;> omega) | fail)) | refine fun h => ?_ | fail)); all_goals (try exact (AV.dead : AV)); all_goals (try (conv => whnf))
  · exact rb rfl
  · exfalso; simp_all
end Go.Fw
namespace Go.Fw
open Go
set_option linter.unusedVariables false
set_option linter.unusedSimpArgs false
section
variable {P : Program}
theorem HasT.asAggL {t : TypeId} {fs : Array Field} {x : D} (hu : P.underlying t = some (.struct fs)) (h : HasT P t x) : ∃ l, x = .agg l ∧ HasTs P (fs.toList.map (·.type)) l := by
  obtain ⟨l, rfl, hl, hy⟩ := h.asAgg hu
  refine ⟨l, rfl, ?_⟩
  have key : ∀ (gs : List Field) (l : List D), l.length = gs.length → (∀ (i : Nat) (f : Field) (y : D), gs[i]? = some f → l[i]? = some y → HasT P f.type y) → HasTs P (gs.map (·.type)) l := by
    intro gs
    induction gs with
    | nil => intro l hl _; rw [List.eq_nil_of_length_eq_zero hl]; exact trivial
    | cons g gs ih =>
      intro l hl hy
      cases l with
      | nil => simp at hl
      | cons y l => exact ⟨hy 0 g y rfl rfl, ih l (by simpa using hl) fun i f z hf hz => hy (i + 1) f z (by simpa using hf) (by simpa using hz)⟩
  exact key fs.toList l (by simpa using hl) fun i f y hf hy' => hy i f y (by simpa using hf) hy'
theorem HasTs.cons {t : TypeId} {ts : List TypeId} {xs : List D} (h : HasTs P (t :: ts) xs) : ∃ y r, xs = y :: r ∧ HasT P t y ∧ HasTs P ts r := by
  cases xs with
  | nil => exact h.elim
  | cons y r => exact ⟨y, r, rfl, h.1, h.2⟩
theorem HasTs.nil {xs : List D} (h : HasTs P [] xs) : xs = [] := by
  cases xs with
  | nil => rfl
  | cons y r => exact h.elim
theorem wf_i64 {n : Int} (h : (Lit.int .i64 n).wf = true) : -9223372036854775808 ≤ n ∧ n ≤ 9223372036854775807 := by
  simp [Lit.wf, IntKind.min, IntKind.max, IntKind.bits, IntKind.signed] at h
  omega
 
theorem HasT.asVl {t tb ts : TypeId} {fs : Array Field} {x : D} (hu : P.underlying t = some (.struct fs)) (hf : fs.toList.map (·.type) = [tb, ts]) (hb : P.underlying tb = some .bool) (hs : P.underlying ts = some .string) (h : HasT P t x) : ∃ v : Vl, x = encV v ∧ v.2.size ≤ maxLen := by
  obtain ⟨l, rfl, hl⟩ := h.asAggL hu
  rw [hf] at hl
  obtain ⟨a, r, rfl, h1, h2⟩ := hl.cons
  obtain ⟨b, r2, rfl, h3, h4⟩ := h2.cons
  obtain rfl := h4.nil
  obtain ⟨q, rfl⟩ := h1.asBool hb
  obtain ⟨s, rfl, hz⟩ := h3.asStr hs
  exact ⟨(q, s), rfl, hz⟩
theorem HasT.asRow {tr t tb ts : TypeId} {fs : Array Field} {x : D} (hr : P.underlying tr = some (.slice t)) (hc : P.cellsOf t = 2) (hu : P.underlying t = some (.struct fs)) (hf : fs.toList.map (·.type) = [tb, ts]) (hb : P.underlying tb = some .bool) (hs : P.underlying ts = some .string) (h : HasT P tr x) : ∃ row : List Vl, x = .sl 2 (row.map encV) ∧ row.length ≤ maxLen := by
  obtain ⟨l, rfl, hl, hy⟩ := h.asSl hr
  obtain ⟨az, rfl, _⟩ := map_of (f := encV) (p := fun _ => True) fun y hy' => by
    obtain ⟨v, e, _⟩ := (hy y hy').asVl hu hf hb hs
    exact ⟨v, e, trivial⟩
  exact ⟨az, by rw [hc], by simpa using hl⟩
 
inductive Wf : Sc → Prop
  | mk {x : Sc} : x.fr ≤ 9223372036854775807 → x.n ≤ 9223372036854775807 → (∀ k ∈ x.kids, Wf k) → Wf x
theorem Wf.good {c : Int} : ∀ (d : Nat) (x : Sc), Wf x → rightD d x c = true → Good c x
  | 0, x, _, h => by simp [rightD] at h
  | d + 1, x, hw, h => by
    rw [rightD, Bool.and_eq_true, decide_eq_true_eq, List.all_eq_true] at h
    cases hw with
    | mk h1 h2 h3 => exact .mk h.1 h1 h2 fun k hk => Wf.good d k (h3 k hk) (h.2 k hk)
theorem HasT.asSc {t ti ts tl : TypeId} {fs : Array Field} (hu : P.underlying t = some (.struct fs)) (hf : fs.toList.map (·.type) = [ti, ti, ts, ti, ti, tl]) (hi : P.underlying ti = some (.int .i64)) (hs : P.underlying ts = some .string) (hl : P.underlying tl = some (.slice t)) (hc : P.cellsOf t = 6) : ∀ (x : D), HasT P t x → ∃ s : Sc, x = encSc s ∧ Wf s := by
  have key : ∀ (n : Nat) (x : D), SizeOf.sizeOf x ≤ n → HasT P t x → ∃ s : Sc, x = encSc s ∧ Wf s := by
    intro n
    induction n with
    | zero =>
      intro x hn h
      obtain ⟨l, rfl, _⟩ := h.asAggL hu
      simp at hn
    | succ n ih =>
      intro x hn h
      obtain ⟨l, rfl, hl'⟩ := h.asAggL hu
      rw [hf] at hl'
      obtain ⟨a0, r0, rfl, h0, hl'⟩ := hl'.cons
      obtain ⟨a1, r1, rfl, h1, hl'⟩ := hl'.cons
      obtain ⟨a2, r2, rfl, h2, hl'⟩ := hl'.cons
      obtain ⟨a3, r3, rfl, h3, hl'⟩ := hl'.cons
      obtain ⟨a4, r4, rfl, h4, hl'⟩ := hl'.cons
      obtain ⟨a5, r5, rfl, h5, hl'⟩ := hl'.cons
      obtain rfl := hl'.nil
      obtain ⟨n0, rfl, _⟩ := h0.asInt hi
      obtain ⟨n1, rfl, _⟩ := h1.asInt hi
      obtain ⟨s2, rfl, _⟩ := h2.asStr hs
      obtain ⟨n3, rfl, w3⟩ := h3.asInt hi
      obtain ⟨n4, rfl, w4⟩ := h4.asInt hi
      obtain ⟨l5, rfl, _, hy⟩ := h5.asSl hl
      obtain ⟨az, rfl, haz⟩ := map_of (f := encSc) (p := Wf) fun y hy' => ih y (by
        have := List.sizeOf_lt_of_mem hy'
        simp at hn
        omega) (hy y hy')
      refine ⟨.mk n0 n1 s2 n3 n4 az, ?_, .mk (wf_i64 w3).2 (wf_i64 w4).2 haz⟩
      rw [encSc_eq, hc]
      rfl
  exact fun x h => key _ x (Nat.le_refl _) h
end
theorem rowOK_of {row : List Vl} {c : Int} (h : rowsB [row] c = true) : rowOK row ∧ (row.length : Int) = c ∧ ∀ v ∈ row, v.2.size ≤ 100 ∧ (v.1 = true → v.2.size = 0) := by
  simp only [rowsB, rowB, List.all_cons, List.all_nil, Bool.and_true, Bool.and_eq_true, decide_eq_true_eq, List.all_eq_true, Bool.or_eq_true, Bool.not_eq_true'] at h
  have key : ∀ v ∈ row, v.2.size ≤ 100 ∧ (v.1 = true → v.2.size = 0) := fun v hv => by
    have := h.2.2 v hv
    refine ⟨this.1, fun hn => this.2.resolve_left (by simp [hn])⟩
  exact ⟨fun v hv => Nat.le_trans (key v hv).1 (by decide), h.2.1, key⟩
end Go.Fw
namespace Go.Fw
open Go Go.Proofs
set_option maxHeartbeats 10000000
set_option maxRecDepth 100000
set_option linter.constructorNameAsVariable false
set_option linter.unusedVariables false
set_option linter.unusedSimpArgs false
theorem refRight12 (x : Sc) (c : Int) : Has Tryd.prog 12 [CV.d (encSc x), CV.d (.int .i64 c), CV.d (.int .i64 12)] (fun rs _ => rs = [.d (.bool (rightD 12 x c))]) :=
  (refRight_all c 12 (by decide) x).mono fun rs bs h => h.1
theorem right12 (x : Sc) (c : Int) : Has Tryd.prog 11 [CV.d (encSc x), CV.d (.int .i64 c)] (fun rs _ => rs = [.d (.bool (rightD 12 x c))]) :=
  (scRightTop_con x c).mono fun rs bs h => h.1
theorem small20 (x : Sc) : Has Tryd.prog 10 [CV.d (encSc x), CV.d (.int .i64 20)] (fun rs _ => rs = [.d (.bool (smallS x 20))]) := small_all x 20 (by decide) (by decide)
def pl3 : Nat → Plan
  | 3 => tks 1 [0] (tks 4 [0] (.tak 0 .rd [2, 5, 6, 7] (.two 2 (tks 3 [1] (.one 5 (tks 6 [0] (.one 7 (.done))))) 3 (.one 2 (.one 5 (tks 6 [0] (.one 7 (.done))))))))
  | _ => .done
theorem scalarRights_con (x : Sc) (c : Int) : Has Tryd.prog 3 [CV.d (encSc x), CV.d (D.int .i64 c)] (fun rs _ => rs = [CV.d (D.bool true)] ) := by
  rw [encSc_eq]
  refine Has_of_run (fn := Tryd.f3) (M := M0) fol (by kernel_rfl) 2 pl3 [] [] (by kernel_rfl) (Nat.le_of_ble_eq_true rfl) ?_
  (repeat' ((conv => whnf); first | done | (refine And.intro (fun h => ?_) (fun h => ?_) <;> (try simp only [Bool.or_eq_true, Bool.and_eq_true, Bool.or_eq_false_iff, Bool.and_eq_false_iff, toNat_pred, toNat_succ, toNat_addn, toNat_subn, decide_eq_true_eq, decide_eq_false_iff_not, Bool.not_eq_true', Bool.not_eq_false', List.length_map, Int.toNat_natCast, Int.not_lt, Int.not_le, Bool.not_eq_true, Bool.false_eq_true, Bool.true_eq_false, Bool.not_true, Bool.not_false, reduceCtorEq, beq_iff_eq, Bool.not_eq_eq_eq_not, bne_iff_ne, ne_eq, decide_not, Decidable.not_not, Classical.not_not] at h)) | exact (rfl : (_ : AV) = _) | exact (rfl : (_ : St) = _) | refine Exists.intro (α := AV) AV.dead (And.intro (fun h => Bool.noConfusion h) ?_) | apply ex_av | (refine fun (h : (_ : Bool) = true) => ?_; have h' := h; (try simp only [Bool.or_eq_true, Bool.and_eq_true, Bool.or_eq_false_iff, Bool.and_eq_false_iff, toNat_pred, toNat_succ, toNat_addn, toNat_subn, decide_eq_true_eq, decide_eq_false_iff_not, Bool.not_eq_true', Bool.not_eq_false', List.length_map, Int.toNat_natCast, Int.not_lt, Int.not_le, Bool.not_eq_true, Bool.false_eq_true, Bool.true_eq_false, Bool.not_true, Bool.not_false, reduceCtorEq, beq_iff_eq, Bool.not_eq_eq_eq_not, bne_iff_ne, ne_eq, decide_not, Decidable.not_not, Classical.not_not] at h')) | refine And.intro (show Both _ _ _ by (refine ⟨fun h => ?_, fun h => ?_⟩ <;> first | rfl | exact h | exact Bool.noConfusion h | (rw [h]; rfl) | (simp_all; done) | fail)) ?_ | refine And.intro rfl ?_ | refine Two.mk ?_ ?_ | refine And.intro (allU8_bytes _) ?_ | refine And.intro (show (_ : Bool) = true by first | assumption | (simp_all; done) | fail) ?_ | refine And.intro (Or.inr rfl) ?_ | refine And.intro (Nat.le_of_ble_eq_true rfl) ?_ | refine And.intro (decide_eq_false (by omega)) ?_ | refine And.intro (show Program.stoodInHeld _ _ = _ by kernel_rfl) (And.intro (by kernel_rfl) ?_) | refine And.intro (show Nat.beq _ _ = _ from rfl) (And.intro (by decide) ?_) | refine And.intro ⟨rfl, rfl⟩ ?_ | refine And.intro ⟨rfl, rfl, trivial⟩ ?_ | refine And.intro (Int.natCast_nonneg _) ?_ | refine Or.inl (And.intro rfl (And.intro rfl (And.intro rfl (And.intro rfl ?_)))) | refine Or.inl (And.intro rfl (And.intro rfl ?_)) | refine Or.inr (And.intro (Nat.le_of_ble_eq_true rfl) ?_) | refine Or.inl (And.intro (by unfold in64; omega) ?_) | refine And.intro (by first | omega | (simp only [dlen, true_and, and_true, Nat.le_refl, List.length_map, List.length_append, List.length_cons, List.length_nil, List.length_take, List.length_drop, List.length_replicate, Int.toNat_natCast, List.append_nil] <;> omega) | fail) ?_ | refine And.intro (allU8_bytes _) ?_ | refine And.intro (show elemsP _ _ _ by repeat' (first | exact rfl | exact trivial | constructor)) ?_ | (refine (awake_con).mono fun rs bs hr => ?_; subst hr) | ((try rw [← encSc_eq]); refine (small20 x).mono fun rs bs hr => ?_; subst hr) | ((try rw [← encSc_eq]); refine (right12 x c).mono fun rs bs hr => ?_; subst hr) | ((try rw [← encSc_eq]); refine (refRight12 x c).mono fun rs bs hr => ?_; subst hr) | (refine fun x hx => ?_; (try simp (disch := omega) only [Int.tdiv_eq_ediv_of_nonneg, Int.tmod_eq_emod_of_nonneg, bx, Bool.true_or, Bool.false_or, Bool.or_false, Bool.or_true, Bool.and_true, Bool.true_and, Bool.false_and, Bool.and_false, cond_true, cond_false, if_true, if_false, Bool.false_eq_true, min_nn, max_nn, min_ln, min_nl, max_ln, max_nl, getD_map, str_of_bytes, take_bytes, take_data, wrap_u64, wrap_u32, wrap_u8, shr_i64, shr_u64, shr_u32, shl_i64, shl_u64, Int.reduceToNat, Int.reducePow, Int.pow_succ, Int.pow_zero, Int.one_mul, Int.reduceMul, wrap_id, wrap_u8_nat, wrap_i64_u8, byteD_mk, map_snoc, map_app, set_map, take_map', drop_map', Nat.sub_zero, List.length_map, List.length_append, List.length_cons, List.length_nil, Int.toNat_natCast, List.drop_zero, List.take_succ_cons, List.take_zero, List.take_length, List.nil_append, List.append_nil, Nat.zero_add, toNat_pred, toNat_succ, toNat_addn, toNat_subn] at hx); subst hx) | rw [List.take_length] | (rw [List.take_of_length_le]; rotate_left; (first | omega | (simp only [dlen, true_and, and_true, Nat.le_refl, List.length_map, List.length_append, List.length_cons, List.length_nil, List.length_take, List.length_drop, List.length_replicate, Int.toNat_natCast, List.append_nil] <;> omega) | fail)) | refine fun h => ?_ | fail)); all_goals (try exact (AV.dead : AV)); all_goals (try (conv => whnf))
  all_goals exact rb (by simp)
theorem scalarRights_law (xs : List D) (h : HasTs Tryd.prog Tryd.f3.params.toList xs) : Has Tryd.prog 3 (xs.map CV.d) (fun rs _ => rs = [.d (.bool true)]) := by
  obtain ⟨x, y, rfl, h1, h2⟩ := two_args (t := 24) (u := 3) h
  obtain ⟨s, rfl, _⟩ := HasT.asSc (P := Tryd.prog) (ti := 3) (ts := 9) (tl := 22) Tryd.underlying24 rfl (by kernel_rfl) (by kernel_rfl) (by kernel_rfl) (by kernel_rfl) x h1
  obtain ⟨c, rfl, _⟩ := h2.asInt (k := .i64) (by kernel_rfl)
  exact scalarRights_con s c
theorem scalarValues_con (x : Sc) (hw : Wf x) (row : List Vl) : Has Tryd.prog 4 [CV.d (encSc x), CV.d (D.sl 2 (row.map encV))] (fun rs _ => rs = [CV.d (D.bool true)] ) := by
  rw [encSc_eq]
  refine Has_of_run (fn := Tryd.f4) (M := M0) fol (by kernel_rfl) 2 noPlan [] [] (by kernel_rfl) (Nat.le_of_ble_eq_true rfl) ?_
  (repeat' ((conv => whnf); first | done | (refine And.intro (fun h => ?_) (fun h => ?_) <;> (try simp only [Bool.or_eq_true, Bool.and_eq_true, Bool.or_eq_false_iff, Bool.and_eq_false_iff, toNat_pred, toNat_succ, toNat_addn, toNat_subn, decide_eq_true_eq, decide_eq_false_iff_not, Bool.not_eq_true', Bool.not_eq_false', List.length_map, Int.toNat_natCast, Int.not_lt, Int.not_le, Bool.not_eq_true, Bool.false_eq_true, Bool.true_eq_false, Bool.not_true, Bool.not_false, reduceCtorEq, beq_iff_eq, Bool.not_eq_eq_eq_not, bne_iff_ne, ne_eq, decide_not, Decidable.not_not, Classical.not_not] at h)) | exact (rfl : (_ : AV) = _) | exact (rfl : (_ : St) = _) | refine Exists.intro (α := AV) AV.dead (And.intro (fun h => Bool.noConfusion h) ?_) | apply ex_av | (refine fun (h : (_ : Bool) = true) => ?_; have h' := h; (try simp only [Bool.or_eq_true, Bool.and_eq_true, Bool.or_eq_false_iff, Bool.and_eq_false_iff, toNat_pred, toNat_succ, toNat_addn, toNat_subn, decide_eq_true_eq, decide_eq_false_iff_not, Bool.not_eq_true', Bool.not_eq_false', List.length_map, Int.toNat_natCast, Int.not_lt, Int.not_le, Bool.not_eq_true, Bool.false_eq_true, Bool.true_eq_false, Bool.not_true, Bool.not_false, reduceCtorEq, beq_iff_eq, Bool.not_eq_eq_eq_not, bne_iff_ne, ne_eq, decide_not, Decidable.not_not, Classical.not_not] at h')) | refine And.intro (show Both _ _ _ by (refine ⟨fun h => ?_, fun h => ?_⟩ <;> first | rfl | exact h | exact Bool.noConfusion h | (rw [h]; rfl) | (simp_all; done) | fail)) ?_ | refine And.intro rfl ?_ | refine Two.mk ?_ ?_ | refine And.intro (allU8_bytes _) ?_ | refine And.intro (show (_ : Bool) = true by first | assumption | (simp_all; done) | fail) ?_ | refine And.intro (Or.inr rfl) ?_ | refine And.intro (Nat.le_of_ble_eq_true rfl) ?_ | refine And.intro (decide_eq_false (by omega)) ?_ | refine And.intro (show Program.stoodInHeld _ _ = _ by kernel_rfl) (And.intro (by kernel_rfl) ?_) | refine And.intro (show Nat.beq _ _ = _ from rfl) (And.intro (by decide) ?_) | refine And.intro ⟨rfl, rfl⟩ ?_ | refine And.intro ⟨rfl, rfl, trivial⟩ ?_ | refine And.intro (Int.natCast_nonneg _) ?_ | refine Or.inl (And.intro rfl (And.intro rfl (And.intro rfl (And.intro rfl ?_)))) | refine Or.inl (And.intro rfl (And.intro rfl ?_)) | refine Or.inr (And.intro (Nat.le_of_ble_eq_true rfl) ?_) | refine Or.inl (And.intro (by unfold in64; omega) ?_) | refine And.intro (by first | omega | (simp only [dlen, true_and, and_true, Nat.le_refl, List.length_map, List.length_append, List.length_cons, List.length_nil, List.length_take, List.length_drop, List.length_replicate, Int.toNat_natCast, List.append_nil] <;> omega) | fail) ?_ | refine And.intro (allU8_bytes _) ?_ | refine And.intro (show elemsP _ _ _ by repeat' (first | exact rfl | exact trivial | constructor)) ?_ | (refine (awake_con).mono fun rs bs hr => ?_; subst hr) | ((try rw [← encSc_eq]); refine (small20 x).mono fun rs bs hr => ?_; subst hr) | ((try rw [← encSc_eq]); refine (refRight12 x _).mono fun rs bs hr => ?_; subst hr) | (refine (rows_con [row] _).mono fun rs bs hr => ?_; subst hr) | ((try rw [← encSc_eq]); refine Has.mono (show HasVal row x from value_con (rowOK_of (by assumption)).1 (hw.good 12 x (by simp_all))) (fun rs bs hr => ?_); subst hr) | ((try rw [← encSc_eq]); refine Has.mono (show HasRef row x from refValue_con (rowOK_of (by assumption)).1 (hw.good 12 x (by simp_all))) (fun rs bs hr => ?_); subst hr) | (refine fun x hx => ?_; (try simp (disch := omega) only [Int.tdiv_eq_ediv_of_nonneg, Int.tmod_eq_emod_of_nonneg, bx, Bool.true_or, Bool.false_or, Bool.or_false, Bool.or_true, Bool.and_true, Bool.true_and, Bool.false_and, Bool.and_false, cond_true, cond_false, if_true, if_false, Bool.false_eq_true, min_nn, max_nn, min_ln, min_nl, max_ln, max_nl, getD_map, str_of_bytes, take_bytes, take_data, wrap_u64, wrap_u32, wrap_u8, shr_i64, shr_u64, shr_u32, shl_i64, shl_u64, Int.reduceToNat, Int.reducePow, Int.pow_succ, Int.pow_zero, Int.one_mul, Int.reduceMul, wrap_id, wrap_u8_nat, wrap_i64_u8, byteD_mk, map_snoc, map_app, set_map, take_map', drop_map', Nat.sub_zero, List.length_map, List.length_append, List.length_cons, List.length_nil, Int.toNat_natCast, List.drop_zero, List.take_succ_cons, List.take_zero, List.take_length, List.nil_append, List.append_nil, Nat.zero_add, toNat_pred, toNat_succ, toNat_addn, toNat_subn] at hx); subst hx) | rw [List.take_length] | (rw [List.take_of_length_le]; rotate_left; (first | omega | (simp only [dlen, true_and, and_true, Nat.le_refl, List.length_map, List.length_append, List.length_cons, List.length_nil, List.length_take, List.length_drop, List.length_replicate, Int.toNat_natCast, List.append_nil] <;> omega) | fail)) | refine fun h => ?_ | fail)); all_goals (try exact (AV.dead : AV)); all_goals (try (conv => whnf))
  · have hv := (hw.good (c := row.length) 12 x (by simp_all)).valI (rowOK_of (by assumption)).1
    have h6 := hv.1.resolve_left h
    rw [h6, hv.2.2 h6]; rfl
  · exact rb (by rw [h]; simp)
theorem scalarValues_law (xs : List D) (h : HasTs Tryd.prog Tryd.f4.params.toList xs) : Has Tryd.prog 4 (xs.map CV.d) (fun rs _ => rs = [.d (.bool true)]) := by
  obtain ⟨x, y, rfl, h1, h2⟩ := two_args (t := 24) (u := 28) h
  obtain ⟨s, rfl, hw⟩ := HasT.asSc (P := Tryd.prog) (ti := 3) (ts := 9) (tl := 22) Tryd.underlying24 rfl (by kernel_rfl) (by kernel_rfl) (by kernel_rfl) (by kernel_rfl) x h1
  obtain ⟨row, rfl, _⟩ := HasT.asRow (P := Tryd.prog) (t := 32) (tb := 4) (ts := 9) (by kernel_rfl) (by kernel_rfl) Tryd.underlying32 rfl (by kernel_rfl) (by kernel_rfl) h2
  exact scalarValues_con s hw row
end Go.Fw
namespace Go.Fw
open Go
set_option linter.unusedVariables false
set_option linter.unusedSimpArgs false
theorem rowsS_spec {row : List Vl} : ∀ (l : List Sc) (acc : List Vl), (∀ x ∈ l, ValI (valS row x)) → rowsS row l acc = if (l.any fun x => !decide ((valS row x).2 = 0)) = true then ([], 6) else (acc ++ l.map (fun x => (valS row x).1), 0)
  | [], acc, _ => by simp [rowsS]
  | x :: r, acc, h => by
    rw [rowsS]
    have hx := h x (by simp)
    by_cases h0 : (valS row x).2 = 0
    · rw [if_neg (fun hc => hc h0), rowsS_spec r _ fun y hy => h y (by simp [hy])]
      simp only [List.any_cons, h0, decide_true, Bool.not_true, Bool.false_or, List.map_cons, List.append_assoc, List.singleton_append]
    · rw [if_pos h0, hx.1.resolve_left h0]
      simp only [List.any_cons, decide_eq_false h0, Bool.not_false, Bool.true_or, if_true]
theorem take_snoc_map {α β : Type} [Inhabited α] {l : List α} {i : Nat} (h : i < l.length) (f : α → β) : (l.take i).map f ++ [f (l.getD i default)] = (l.take (i + 1)).map f := by
  rw [List.take_succ_eq_append_getElem h, List.map_append]
  simp [List.getD_eq_getElem?_getD, h]
theorem take_snoc_any {α : Type} [Inhabited α] {l : List α} {i : Nat} (h : i < l.length) (p : α → Bool) : ((l.take i).any p || p (l.getD i default)) = (l.take (i + 1)).any p := by
  rw [List.take_succ_eq_append_getElem h, List.any_append]
  simp [List.getD_eq_getElem?_getD, h]
theorem mem_at {α : Type} [Inhabited α] {l : List α} {x : α} (h : x ∈ l) : ∃ j, j < l.length ∧ l.getD j default = x := by
  obtain ⟨j, hj, rfl⟩ := List.mem_iff_getElem.1 h
  exact ⟨j, hj, by simp [List.getD_eq_getElem?_getD, hj]⟩
theorem sameV_refl (a : List Vl) : sameV a a = true := decide_eq_true rfl
 
def NullI (r : Vl × Int) : Prop := r.1.1 = true → r.1.2.size = 0
theorem firstS_null (row : List Vl) : ∀ l : List Sc, (∀ x ∈ l, NullI (valS row x)) → NullI (firstS row l)
  | [], _ => fun _ => rfl
  | x :: r, h => by
    rw [firstS]
    split
    · exact h x (by simp)
    · exact firstS_null row r fun y hy => h y (by simp [hy])
theorem Good.nullI {row : List Vl} (hr : ∀ v ∈ row, v.1 = true → v.2.size = 0) {x : Sc} (h : Good row.length x) : NullI (valS row x) := by
  induction h with
  | @mk x hs hf hn hk ih =>
    rw [valS_eq]
    unfold ShapeP at hs
    split
    · exact hr _ (getD_mem (by omega))
    · split
      · intro h; simp at h
      · split
        · intro _; rfl
        · split
          · exact firstS_null row _ ih
          · split
            split
            · intro h; simp at h
            · split
              · intro _; rfl
              · split
                · intro h; simp at h
                · intro h; simp at h
 
def txS (s : ByteArray) : Sc := .mk 2 0 s 0 0 []
def noS : Sc := .mk 3 0 nilB 0 0 []
def catS (l : List Sc) : Sc := .mk 5 0 nilB 0 0 l
def frsS (l : List Sc) : Sc := .mk 8 0 nilB 0 0 l
def partS (t : Sc) (fr n : Int) : Sc := .mk 6 0 nilB fr n [t]
def colS (j : Nat) : Sc := .mk 1 j nilB 0 0 []
theorem good_cat {c : Int} {l : List Sc} (h1 : 1 ≤ l.length) (h2 : l.length ≤ 8) (h : ∀ k ∈ l, Good c k) : Good c (catS l) := by
  refine .mk ?_ (by simp [catS, Sc.fr]) (by simp [catS, Sc.n]) h
  simp [catS, ShapeP, Odd, Sc.kind, Sc.col, Sc.s, Sc.fr, Sc.n, Sc.kids, nilB_size]
  omega
theorem good_frs {c : Int} {l : List Sc} (h1 : 1 ≤ l.length) (h2 : l.length ≤ 8) (h : ∀ k ∈ l, Good c k) : Good c (frsS l) := by
  refine .mk ?_ (by simp [frsS, Sc.fr]) (by simp [frsS, Sc.n]) h
  simp [frsS, ShapeP, Odd, Sc.kind, Sc.col, Sc.s, Sc.fr, Sc.n, Sc.kids, nilB_size]
  omega
theorem good_part {c : Int} {t : Sc} {fr n : Int} (h1 : 0 ≤ fr ∧ fr ≤ 9223372036854775807) (h2 : 0 ≤ n ∧ n ≤ 9223372036854775807) (h : Good c t) : Good c (partS t fr n) := by
  refine .mk ?_ h1.2 h2.2 (fun k hk => ?_)
  · simp [partS, ShapeP, Odd, Sc.kind, Sc.col, Sc.s, Sc.fr, Sc.n, Sc.kids, nilB_size]
    omega
  · simp only [partS, Sc.kids, List.mem_cons, List.not_mem_nil, or_false] at hk
    subst hk
    exact h
theorem good_col {c : Int} {j : Nat} (h : (j : Int) < c) : Good c (colS j) := by
  refine .mk ?_ (by simp [colS, Sc.fr]) (by simp [colS, Sc.n]) (fun k hk => by cases hk)
  simp [colS, ShapeP, Odd, Sc.kind, Sc.col, Sc.s, Sc.fr, Sc.n, Sc.kids, nilB_size]
  omega
theorem val_tx (row : List Vl) (s : ByteArray) : valS row (txS s) = ((false, s), 0) := val2 row s
theorem val_no (row : List Vl) : valS row noS = ((true, nilB), 0) := by
  unfold noS
  rw [valS, if_neg (by decide), if_neg (by decide), if_pos rfl]
theorem val_col (row : List Vl) (j : Nat) : valS row (colS j) = (row.getD j default, 0) := by
  unfold colS
  rw [valS, if_pos rfl]
  simp
theorem val_part (row : List Vl) (s : ByteArray) (fr n : Int) (h : s.size ≤ 4096) : valS row (partS (txS s) fr n) = ((false, subS s fr.toNat n.toNat), 0) := by
  have hw : wholeS row (partS (txS s) fr n).kids nilB true = (s, true, 0) := by
    show wholeS row [txS s] nilB true = _
    rw [wholeS, val_tx, if_neg (fun h => h rfl), wholeS, nilB_app]
    rfl
  have hm : madeS (partS (txS s) fr n).kind (partS (txS s) fr n).fr (partS (txS s) fr n).n s = subS s fr.toNat n.toNat := by
    unfold madeS
    rw [if_neg (show ¬ (partS (txS s) fr n).kind = 4 by simp [partS, Sc.kind]), if_pos (show (partS (txS s) fr n).kind = 6 from rfl)]
    rfl
  have hz : ¬ 4096 < (subS s fr.toNat n.toNat).size := by
    have := ext_size_le s (ppos s fr.toNat) (ppos s (fr.toNat + n.toNat))
    unfold subS
    omega
  rw [valS_whole (by simp [partS, Sc.kind]) (by simp [partS, Sc.kind]) (by simp [partS, Sc.kind]) (by simp [partS, Sc.kind]), hw]
  simp only [hm]
  rw [if_neg (by simp), if_neg (by simp), if_neg hz]
theorem val_cat2 {row : List Vl} {x y : Sc} {a b : ByteArray} (hx : valS row x = ((false, a), 0)) (hy : valS row y = ((false, b), 0)) : valS row (catS [x, y]) = if 4096 < (a ++ b).size then ((false, nilB), 6) else ((false, a ++ b), 0) := by
  have hw : wholeS row (catS [x, y]).kids nilB true = (a ++ b, true, 0) := by
    show wholeS row [x, y] nilB true = _
    rw [wholeS, hx, if_neg (fun h => h rfl), wholeS, hy, if_neg (fun h => h rfl), wholeS, nilB_app]
    rfl
  have hm : ∀ s, madeS (catS [x, y]).kind (catS [x, y]).fr (catS [x, y]).n s = s := fun s => by
    unfold madeS
    rw [if_neg (by simp [catS, Sc.kind]), if_neg (by simp [catS, Sc.kind]), if_neg (by simp [catS, Sc.kind])]
  rw [valS_whole (by simp [catS, Sc.kind]) (by simp [catS, Sc.kind]) (by simp [catS, Sc.kind]) (by simp [catS, Sc.kind]), hw]
  simp only [hm]
  rw [if_neg (by simp), if_neg (by simp)]
theorem val_catNo {row : List Vl} {x : Sc} {a : ByteArray} (hx : valS row x = ((false, a), 0)) : valS row (catS [x, noS]) = ((true, nilB), 0) := by
  have hw : wholeS row (catS [x, noS]).kids nilB true = (a ++ nilB, false, 0) := by
    show wholeS row [x, noS] nilB true = _
    rw [wholeS, hx, if_neg (fun h => h rfl), wholeS, val_no, if_neg (fun h => h rfl), wholeS, nilB_app]
    rfl
  rw [valS_whole (by simp [catS, Sc.kind]) (by simp [catS, Sc.kind]) (by simp [catS, Sc.kind]) (by simp [catS, Sc.kind]), hw]
  rw [if_neg (by simp), if_pos rfl]
theorem val_frs {row : List Vl} {x : Sc} {a : ByteArray} (hx : valS row x = ((false, a), 0)) : valS row (frsS [noS, x, noS]) = ((false, a), 0) := by
  rw [valS_eq, if_neg (by simp [frsS, Sc.kind]), if_neg (by simp [frsS, Sc.kind]), if_neg (by simp [frsS, Sc.kind]), if_pos (by simp [frsS, Sc.kind])]
  show firstS row [noS, x, noS] = _
  rw [firstS, val_no, if_neg (by simp), firstS, hx, if_pos (by simp)]
theorem sub_two {s : ByteArray} {n : Nat} (h : s.size ≤ 4096) : subS s 0 n ++ subS s n 5000 = s := by
  unfold subS
  have h1 : ppos s (n + 5000) = s.size := by
    have := ppos_ge s (n + 5000)
    have := ppos_le s (n + 5000)
    omega
  have h0 : ppos s 0 = 0 := rfl
  rw [h1, Nat.zero_add, h0, ext_app (Nat.zero_le _) (ppos_le s n) (Nat.le_refl _), ext_all]
 
def colD (j : Nat) : D := .agg [.int .i64 1, .int .i64 j, .str nilB, .int .i64 0, .int .i64 0, .sl 0 []]
theorem colD_snoc (i : Nat) : (List.range i).map colD ++ [D.agg [.int .i64 1, .int .i64 i, .str ⟨#[]⟩, .int .i64 0, .int .i64 0, .sl 0 []]] = (List.range (i + 1)).map colD := map_range_snoc colD i
theorem norms_map {α : Type} (f : α → D) : ∀ l : List α, norms (l.map f) = l.map fun x => (f x).norm
  | [] => rfl
  | x :: r => by simp only [List.map_cons, norms, norms_map f r]
theorem col_norm (j : Nat) : (encSc (colS j)).norm = (colD j).norm := rfl
theorem cols_norm (n : Nat) : (D.sl 6 ((List.range n).map colD)).norm = (D.sl 6 (((List.range n).map colS).map encSc)).norm := by
  simp only [D.norm, norms_map, List.map_map, List.isEmpty_iff, List.map_eq_nil_iff]
  congr 1
theorem range_getD {α : Type} [Inhabited α] (l : List α) : (List.range l.length).map (fun j => l.getD j default) = l := by
  apply List.ext_getElem
  · simp
  · intro i h1 h2
    simp [List.getD_eq_getElem?_getD, h2]
theorem rows_cols (row : List Vl) (hr : rowOK row) : rowsS row ((List.range row.length).map colS) [] = (row, 0) := by
  rw [rowsS_spec]
  · rw [if_neg]
    · simp only [List.map_map, List.nil_append, Function.comp_def, val_col, range_getD]
    · simp [val_col]
  · intro x hx
    obtain ⟨j, hj, rfl⟩ := List.mem_map.1 hx
    exact (good_col (by simpa using hj)).valI hr
end Go.Fw
namespace Go.Fw
open Go Go.Proofs
set_option maxHeartbeats 10000000
set_option maxRecDepth 100000
set_option linter.constructorNameAsVariable false
set_option linter.unusedVariables false
set_option linter.unusedSimpArgs false
theorem scalarRows_con (l : List Sc) (hw : ∀ x ∈ l, Wf x) (row : List Vl) : Has Tryd.prog 5 [CV.d (D.sl 6 (l.map encSc)), CV.d (D.sl 2 (row.map encV))] (fun rs _ => rs = [CV.d (D.bool true)]) := by
  have hb32 : Tryd.prog.bytesOf 32 = 24 := by kernel_rfl
  refine Has_of_run (fn := Tryd.f5) (M := M0) fol (by kernel_rfl) 8 noPlan [] [] (by kernel_rfl) (Nat.le_of_ble_eq_true rfl) ?_
  (repeat' ((conv => whnf); first | done | (refine And.intro (fun h => ?_) (fun h => ?_) <;> (try simp only [Bool.or_eq_true, Bool.and_eq_true, Bool.or_eq_false_iff, Bool.and_eq_false_iff, toNat_pred, toNat_succ, toNat_addn, toNat_subn, decide_eq_true_eq, decide_eq_false_iff_not, Bool.not_eq_true', Bool.not_eq_false', List.length_map, Int.toNat_natCast, Int.not_lt, Int.not_le, Bool.not_eq_true, Bool.false_eq_true, Bool.true_eq_false, Bool.not_true, Bool.not_false, reduceCtorEq, beq_iff_eq, Bool.not_eq_eq_eq_not, bne_iff_ne, ne_eq, decide_not, Decidable.not_not, Classical.not_not] at h)) | exact (rfl : (_ : AV) = _) | exact (rfl : (_ : St) = _) | refine Exists.intro (α := AV) AV.dead (And.intro (fun h => Bool.noConfusion h) ?_) | apply ex_av | (refine fun (h : (_ : Bool) = true) => ?_; have h' := h; (try simp only [Bool.or_eq_true, Bool.and_eq_true, Bool.or_eq_false_iff, Bool.and_eq_false_iff, toNat_pred, toNat_succ, toNat_addn, toNat_subn, decide_eq_true_eq, decide_eq_false_iff_not, Bool.not_eq_true', Bool.not_eq_false', List.length_map, Int.toNat_natCast, Int.not_lt, Int.not_le, Bool.not_eq_true, Bool.false_eq_true, Bool.true_eq_false, Bool.not_true, Bool.not_false, reduceCtorEq, beq_iff_eq, Bool.not_eq_eq_eq_not, bne_iff_ne, ne_eq, decide_not, Decidable.not_not, Classical.not_not] at h')) | refine And.intro (show Both _ _ _ by (refine ⟨fun h => ?_, fun h => ?_⟩ <;> first | rfl | exact h | exact Bool.noConfusion h | (rw [h]; rfl) | (simp_all; done) | fail)) ?_ | refine And.intro rfl ?_ | refine Two.mk ?_ ?_ | refine And.intro (allU8_bytes _) ?_ | refine And.intro (show (_ : Bool) = true by first | assumption | (simp_all; done) | fail) ?_ | refine And.intro (Or.inr rfl) ?_ | refine And.intro (Nat.le_of_ble_eq_true rfl) ?_ | refine And.intro (decide_eq_false (by omega)) ?_ | refine And.intro (show Program.stoodInHeld _ _ = _ by kernel_rfl) (And.intro (by kernel_rfl) ?_) | refine And.intro (show Nat.beq _ _ = _ from rfl) (And.intro (by decide) ?_) | refine And.intro ⟨rfl, rfl⟩ ?_ | refine And.intro ⟨rfl, rfl, trivial⟩ ?_ | refine And.intro (Int.natCast_nonneg _) ?_ | refine Or.inl (And.intro rfl (And.intro rfl (And.intro rfl (And.intro rfl ?_)))) | refine Or.inl (And.intro rfl (And.intro rfl ?_)) | refine Or.inr (And.intro (Nat.le_of_ble_eq_true rfl) ?_) | refine Or.inl (And.intro (by unfold in64; omega) ?_) | refine And.intro (by first | omega | (simp only [dlen, true_and, and_true, Nat.le_refl, List.length_map, List.length_append, List.length_cons, List.length_nil, List.length_take, List.length_drop, List.length_replicate, Int.toNat_natCast, List.append_nil, hb32] <;> omega) | fail) ?_ | refine And.intro (allU8_bytes _) ?_ | refine And.intro (show elemsP _ _ _ by repeat' (first | exact rfl | exact trivial | constructor)) ?_ | (refine (awake_con).mono fun rs bs hr => ?_; subst hr) | ((try rw [← encSc_eq]); refine (small20 _).mono fun rs bs hr => ?_; subst hr) | ((try rw [← encSc_eq]); refine (refRight12 _ _).mono fun rs bs hr => ?_; subst hr) | (refine (rows_con [row] _).mono fun rs bs hr => ?_; subst hr) | (refine (same17_con _ _).mono fun rs bs hr => ?_; subst hr) | ((try rw [← encSc_eq]); refine Has.mono (show HasRef row (l.getD i default) from refValue_con (rowOK_of (by assumption)).1 ((hw _ (getD_mem (by omega))).good 12 _ (by simp_all))) (fun rs bs hr => ?_); subst hr) | (refine (row_con row l (by omega) (fun k hk => ?_)).mono (fun rs bs hr => ?_); rotate_left; subst hr) | (refine Loops.by (M := M0) 8 noPlan fol (by kernel_rfl) (ι := Nat × List Vl × Bool) (fun ⟨i, o, lg⟩ => ⟨[(0, AV.d (D.sl 6 (l.map encSc))), (1, AV.d (D.sl 2 (row.map encV))), (5, AV.ref [5] 16 2 0 (o.map encV).length), (6, AV.d (D.bool lg)), (7, AV.d (D.int .i64 i))], [([5], 16, AO.row 32 2 (o.map encV))], 17⟩) (fun ⟨i, o, lg⟩ => i ≤ l.length ∧ (∀ j, j < i → rightD 12 (l.getD j default) row.length = true) ∧ o = (l.take i).map (fun x => (valS row x).1) ∧ lg = (l.take i).any (fun x => !decide ((valS row x).2 = 0))) (fun ⟨i, o, lg⟩ => l.length - i) (fun p hI => ?_) ((0, [], false)) ⟨Nat.zero_le _, fun j h => absurd h (Nat.not_lt_zero _), rfl, rfl⟩ (Forget.mk' ⟨⟨rfl, rfl⟩, ⟨rfl, rfl⟩, ⟨rfl, rfl⟩, ⟨rfl, rfl⟩, ⟨rfl, rfl⟩, trivial⟩ ⟨⟨rfl, rfl, rfl⟩, trivial⟩ rfl rfl); obtain ⟨i, o, lg⟩ := p; obtain ⟨hi, hok, ho, hlg⟩ := hI; have hol : o.length ≤ i := (by rw [ho]; simp; omega)) | (refine fun x hx => ?_; (try simp (disch := omega) only [Int.tdiv_eq_ediv_of_nonneg, Int.tmod_eq_emod_of_nonneg, bx, Bool.true_or, Bool.false_or, Bool.or_false, Bool.or_true, Bool.and_true, Bool.true_and, Bool.false_and, Bool.and_false, cond_true, cond_false, if_true, if_false, Bool.false_eq_true, min_nn, max_nn, min_ln, min_nl, max_ln, max_nl, getD_map, str_of_bytes, take_bytes, take_data, wrap_u64, wrap_u32, wrap_u8, shr_i64, shr_u64, shr_u32, shl_i64, shl_u64, Int.reduceToNat, Int.reducePow, Int.pow_succ, Int.pow_zero, Int.one_mul, Int.reduceMul, wrap_id, wrap_u8_nat, wrap_i64_u8, byteD_mk, map_snoc, map_app, set_map, take_map', drop_map', Nat.sub_zero, List.length_map, List.length_append, List.length_cons, List.length_nil, Int.toNat_natCast, List.drop_zero, List.take_succ_cons, List.take_zero, List.take_length, List.nil_append, List.append_nil, Nat.zero_add, toNat_pred, toNat_succ, toNat_addn, toNat_subn, encSc_eq] at hx); subst hx) | rw [List.take_length] | (rw [List.take_of_length_le]; rotate_left; (first | omega | (simp only [dlen, true_and, and_true, Nat.le_refl, List.length_map, List.length_append, List.length_cons, List.length_nil, List.length_take, List.length_drop, List.length_replicate, Int.toNat_natCast, List.append_nil, hb32] <;> omega) | fail)) | refine fun h => ?_ | fail)); all_goals (try exact (AV.dead : AV)); all_goals (try (conv => whnf))
  · refine ⟨(i + 1, o ++ [(valS row (l.getD i default)).1], lg || !decide ((valS row (l.getD i default)).2 = 0)), ⟨⟨by omega, all_below hok (by simp_all), by rw [ho]; exact take_snoc_map (by omega) (fun x => (valS row x).1), by rw [hlg]; exact take_snoc_any (by omega) (fun x => !decide ((valS row x).2 = 0))⟩, by show l.length - (i + 1) < l.length - i; omega⟩, ?_⟩
    rw [encV_snoc]
    exact (Forget.mk' ⟨⟨rfl, rfl⟩, ⟨rfl, rfl⟩, ⟨rfl, rfl⟩, ⟨rfl, rfl⟩, ⟨rfl, rfl⟩, trivial⟩ ⟨⟨rfl, rfl, rfl⟩, trivial⟩ rfl rfl)
  all_goals first
    | (obtain ⟨j, hj, rfl⟩ := mem_at hk; exact value_con (rowOK_of (by assumption)).1 ((hw _ hk).good 12 _ (hok j (by omega))))
    | skip
  all_goals have hvl : ∀ x ∈ l, ValI (valS row x) := (fun x hx => by obtain ⟨j, hj, rfl⟩ := mem_at hx; exact ((hw _ hx).good 12 _ (hok j (by omega))).valI (rowOK_of (by assumption)).1)
  all_goals have hs := rowsS_spec l [] hvl
  all_goals rw [List.take_of_length_le (by omega)] at ho hlg
  · have hl2 : (l.any fun x => !decide ((valS row x).2 = 0)) = true := by rw [← hlg]; assumption
    rw [if_pos hl2] at hs
    rw [hs]; rfl
  · have hl2 : ¬ (l.any fun x => !decide ((valS row x).2 = 0)) = true := by rw [← hlg]; simp_all
    rw [if_neg hl2, List.nil_append, ← ho] at hs
    rw [hs, sameV_refl]
  · have hl2 : ¬ (l.any fun x => !decide ((valS row x).2 = 0)) = true := by rw [← hlg]; simp_all
    rw [if_neg hl2] at hs
    have h0 : (rowsS row l []).2 = 0 := by rw [hs]
    first
      | exact absurd h0 (by assumption)
      | (exfalso; simp_all; done)
      | trace_state
theorem scalarRows_law (xs : List D) (h : HasTs Tryd.prog Tryd.f5.params.toList xs) : Has Tryd.prog 5 (xs.map CV.d) (fun rs _ => rs = [.d (.bool true)]) := by
  obtain ⟨x, y, rfl, h1, h2⟩ := two_args (t := 22) (u := 28) h
  obtain ⟨l0, rfl, hl, hy⟩ := h1.asSl (e := 24) (by kernel_rfl)
  obtain ⟨l, rfl, hw⟩ := map_of (f := encSc) (p := Wf) fun y hy' => HasT.asSc (P := Tryd.prog) (ti := 3) (ts := 9) (tl := 22) Tryd.underlying24 rfl (by kernel_rfl) (by kernel_rfl) (by kernel_rfl) (by kernel_rfl) y (hy y hy')
  obtain ⟨row, rfl, _⟩ := HasT.asRow (P := Tryd.prog) (t := 32) (tb := 4) (ts := 9) (by kernel_rfl) (by kernel_rfl) Tryd.underlying32 rfl (by kernel_rfl) (by kernel_rfl) h2
  have e : Program.cellsOf Tryd.prog 24 = 6 := by kernel_rfl
  rw [e]
  exact scalarRows_con l hw row
end Go.Fw
namespace Go.Fw
open Go Go.Proofs
set_option maxHeartbeats 10000000
set_option maxRecDepth 100000
set_option linter.constructorNameAsVariable false
set_option linter.unusedVariables false
set_option linter.unusedSimpArgs false
theorem lsub_con (t : Sc) (fr n : Int) : Has Tryd.prog 18 [CV.d (encSc t), CV.d (D.int .i64 fr), CV.d (D.int .i64 n)] (fun rs _ => rs = [CV.d (encSc (partS t fr n))] ) := by
  rw [encSc_eq]
  refine Has_of_run (fn := Tryd.f18) (M := M0) fol (by kernel_rfl) 3 noPlan [] [] (by kernel_rfl) (Nat.le_of_ble_eq_true rfl) ?_
  (repeat' ((conv => whnf); first | done | (refine And.intro (fun h => ?_) (fun h => ?_) <;> (try simp only [Bool.or_eq_true, Bool.and_eq_true, Bool.or_eq_false_iff, Bool.and_eq_false_iff, toNat_pred, toNat_succ, toNat_addn, toNat_subn, decide_eq_true_eq, decide_eq_false_iff_not, Bool.not_eq_true', Bool.not_eq_false', List.length_map, Int.toNat_natCast, Int.not_lt, Int.not_le, Bool.not_eq_true, Bool.false_eq_true, Bool.true_eq_false, Bool.not_true, Bool.not_false, reduceCtorEq, beq_iff_eq, Bool.not_eq_eq_eq_not, bne_iff_ne, ne_eq, decide_not, Decidable.not_not, Classical.not_not] at h)) | exact (rfl : (_ : AV) = _) | exact (rfl : (_ : St) = _) | refine Exists.intro (α := AV) AV.dead (And.intro (fun h => Bool.noConfusion h) ?_) | apply ex_av | (refine fun (h : (_ : Bool) = true) => ?_; have h' := h; (try simp only [Bool.or_eq_true, Bool.and_eq_true, Bool.or_eq_false_iff, Bool.and_eq_false_iff, toNat_pred, toNat_succ, toNat_addn, toNat_subn, decide_eq_true_eq, decide_eq_false_iff_not, Bool.not_eq_true', Bool.not_eq_false', List.length_map, Int.toNat_natCast, Int.not_lt, Int.not_le, Bool.not_eq_true, Bool.false_eq_true, Bool.true_eq_false, Bool.not_true, Bool.not_false, reduceCtorEq, beq_iff_eq, Bool.not_eq_eq_eq_not, bne_iff_ne, ne_eq, decide_not, Decidable.not_not, Classical.not_not] at h')) | refine And.intro (show Both _ _ _ by (refine ⟨fun h => ?_, fun h => ?_⟩ <;> first | rfl | exact h | exact Bool.noConfusion h | (rw [h]; rfl) | (simp_all; done) | fail)) ?_ | refine And.intro rfl ?_ | refine Two.mk ?_ ?_ | refine And.intro (allU8_bytes _) ?_ | refine And.intro (show (_ : Bool) = true by first | assumption | (simp_all; done) | fail) ?_ | refine And.intro (Or.inr rfl) ?_ | refine And.intro (Nat.le_of_ble_eq_true rfl) ?_ | refine And.intro (decide_eq_false (by omega)) ?_ | refine And.intro (show Program.stoodInHeld _ _ = _ by kernel_rfl) (And.intro (by kernel_rfl) ?_) | refine And.intro (show Nat.beq _ _ = _ from rfl) (And.intro (by decide) ?_) | refine And.intro ⟨rfl, rfl⟩ ?_ | refine And.intro ⟨rfl, rfl, trivial⟩ ?_ | refine And.intro (Int.natCast_nonneg _) ?_ | refine Or.inl (And.intro rfl (And.intro rfl (And.intro rfl (And.intro rfl ?_)))) | refine Or.inl (And.intro rfl (And.intro rfl ?_)) | refine Or.inr (And.intro (Nat.le_of_ble_eq_true rfl) ?_) | refine Or.inl (And.intro (by unfold in64; omega) ?_) | refine And.intro (by first | omega | (simp only [dlen, true_and, and_true, Nat.le_refl, List.length_map, List.length_append, List.length_cons, List.length_nil, List.length_take, List.length_drop, List.length_replicate, Int.toNat_natCast, List.append_nil] <;> omega) | fail) ?_ | refine And.intro (allU8_bytes _) ?_ | refine And.intro (show elemsP _ _ _ by repeat' (first | exact rfl | exact trivial | constructor)) ?_ | (refine fun x hx => ?_; (try simp (disch := omega) only [Int.tdiv_eq_ediv_of_nonneg, Int.tmod_eq_emod_of_nonneg, bx, Bool.true_or, Bool.false_or, Bool.or_false, Bool.or_true, Bool.and_true, Bool.true_and, Bool.false_and, Bool.and_false, cond_true, cond_false, if_true, if_false, Bool.false_eq_true, min_nn, max_nn, min_ln, min_nl, max_ln, max_nl, getD_map, str_of_bytes, take_bytes, take_data, wrap_u64, wrap_u32, wrap_u8, shr_i64, shr_u64, shr_u32, shl_i64, shl_u64, Int.reduceToNat, Int.reducePow, Int.pow_succ, Int.pow_zero, Int.one_mul, Int.reduceMul, wrap_id, wrap_u8_nat, wrap_i64_u8, byteD_mk, map_snoc, map_app, set_map, take_map', drop_map', Nat.sub_zero, List.length_map, List.length_append, List.length_cons, List.length_nil, Int.toNat_natCast, List.drop_zero, List.take_succ_cons, List.take_zero, List.take_length, List.nil_append, List.append_nil, Nat.zero_add, toNat_pred, toNat_succ, toNat_addn, toNat_subn] at hx); subst hx) | rw [List.take_length] | (rw [List.take_of_length_le]; rotate_left; (first | omega | (simp only [dlen, true_and, and_true, Nat.le_refl, List.length_map, List.length_append, List.length_cons, List.length_nil, List.length_take, List.length_drop, List.length_replicate, Int.toNat_natCast, List.append_nil] <;> omega) | fail)) | refine fun h => ?_ | fail)); all_goals (try exact (AV.dead : AV)); all_goals (try (conv => whnf))
  rw [← encSc_eq]; rfl
theorem pv1 {s : ByteArray} (n : Nat) (h : s.size ≤ 4096) (hn : n < 256) : Has Tryd.prog 14 [CV.d (encSc (catS [partS (txS s) 0 n, partS (txS s) n 5000])), CV.d (.sl 2 (([] : List Vl).map encV))] (fun rs _ => rs = [.d (encV (false, s)), .d (.int .i64 0)]) := by
  have hg : Good (([] : List Vl).length) (catS [partS (txS s) 0 n, partS (txS s) n 5000]) := good_cat (by simp) (by simp) (fun k hk => by
    simp only [List.mem_cons, List.not_mem_nil, or_false] at hk
    rcases hk with rfl | rfl
    · exact good_part (by omega) (by omega) (good2 _ _ h)
    · exact good_part (by omega) (by omega) (good2 _ _ h))
  have hv : HasVal [] (catS [partS (txS s) 0 n, partS (txS s) n 5000]) := value_con (fun v hv => by cases hv) hg
  unfold HasVal at hv
  have e := val_cat2 (val_part [] s 0 n h) (val_part [] s n 5000 h)
  have e2 : subS s (0 : Int).toNat (n : Int).toNat ++ subS s (n : Int).toNat (5000 : Int).toNat = s := by
    simp only [Int.toNat_natCast]
    exact sub_two h
  rw [e2, if_neg (by omega)] at e
  rw [e] at hv
  exact hv
theorem pv2 {s : ByteArray} (h : s.size ≤ 4096) : Has Tryd.prog 14 [CV.d (encSc (frsS [noS, txS s, noS])), CV.d (.sl 2 (([] : List Vl).map encV))] (fun rs _ => rs = [.d (encV (false, s)), .d (.int .i64 0)]) := by
  have hg : Good (([] : List Vl).length) (frsS [noS, txS s, noS]) := good_frs (by simp) (by simp) (fun k hk => by
    simp only [List.mem_cons, List.not_mem_nil, or_false] at hk
    rcases hk with rfl | rfl | rfl
    · exact good3 _
    · exact good2 _ _ h
    · exact good3 _)
  have hv : HasVal [] (frsS [noS, txS s, noS]) := value_con (fun v hv => by cases hv) hg
  unfold HasVal at hv
  rw [val_frs (val_tx [] s)] at hv
  exact hv
theorem pv3 {s : ByteArray} (h : s.size ≤ 4096) : Has Tryd.prog 14 [CV.d (encSc (catS [txS s, noS])), CV.d (.sl 2 (([] : List Vl).map encV))] (fun rs _ => rs = [.d (encV (true, nilB)), .d (.int .i64 0)]) := by
  have hg : Good (([] : List Vl).length) (catS [txS s, noS]) := good_cat (by simp) (by simp) (fun k hk => by
    simp only [List.mem_cons, List.not_mem_nil, or_false] at hk
    rcases hk with rfl | rfl
    · exact good2 _ _ h
    · exact good3 _)
  have hv : HasVal [] (catS [txS s, noS]) := value_con (fun v hv => by cases hv) hg
  unfold HasVal at hv
  rw [val_catNo (val_tx [] s)] at hv
  exact hv
def pl7 : Nat → Plan
  | 5 => tks 1 [0, 0] (tks 5 [0, 0] (.tak 0 .rd [3, 7, 8, 9, 10, 11, 12, 13, 15, 16] (.three 3 (.tak 4 .rd [7, 8, 9, 10, 11, 12, 13, 15, 16] (.two 7 (.two 8 (tks 9 [0] (.two 10 (tks 11 [0, 0, 0] (.one 14 (.one 15 (.one 16 (.done))))) 14 (.one 10 (tks 11 [0, 0, 0] (.one 15 (.one 16 (.done))))))) 14 (.one 8 (tks 9 [0] (.one 10 (tks 11 [0, 0, 0] (.one 15 (.one 16 (.done)))))))) 14 (.one 7 (.one 8 (tks 9 [0] (.one 10 (tks 11 [0, 0, 0] (.one 15 (.one 16 (.done)))))))))) 4 (.two 3 (.two 7 (.two 8 (tks 9 [0] (.two 10 (tks 11 [0, 0, 0] (.one 14 (.one 15 (.one 16 (.done))))) 14 (.one 10 (tks 11 [0, 0, 0] (.one 15 (.one 16 (.done))))))) 14 (.one 8 (tks 9 [0] (.one 10 (tks 11 [0, 0, 0] (.one 15 (.one 16 (.done)))))))) 14 (.one 7 (.one 8 (tks 9 [0] (.one 10 (tks 11 [0, 0, 0] (.one 15 (.one 16 (.done))))))))) 14 (.one 3 (.one 7 (.one 8 (tks 9 [0] (.one 10 (tks 11 [0, 0, 0] (.one 15 (.one 16 (.done)))))))))) 14 (.two 3 (.tak 4 .rd [7, 8, 9, 10, 11, 12, 13, 15, 16] (.one 7 (.one 8 (tks 9 [0] (.one 10 (tks 11 [0, 0, 0] (.one 15 (.one 16 (.done))))))))) 4 (.one 3 (.one 7 (.one 8 (tks 9 [0] (.one 10 (tks 11 [0, 0, 0] (.one 15 (.one 16 (.done)))))))))))))
  | 1000005 => .one 0 .done
  | _ => .done
theorem scalarParts_con (s : ByteArray) (n : Nat) (hn : n < 256) : Has Tryd.prog 7 [CV.d (D.str s), CV.d (D.int .u8 n)] (fun rs _ => rs = [CV.d (D.bool true)] ) := by
  refine Has_of_run (fn := Tryd.f7) (M := M0) fol (by kernel_rfl) 5 pl7 [] [] (by kernel_rfl) (Nat.le_of_ble_eq_true rfl) ?_
  (repeat' ((conv => whnf); first | done | (refine And.intro (fun h => ?_) (fun h => ?_) <;> (try simp only [Bool.or_eq_true, Bool.and_eq_true, Bool.or_eq_false_iff, Bool.and_eq_false_iff, toNat_pred, toNat_succ, toNat_addn, toNat_subn, decide_eq_true_eq, decide_eq_false_iff_not, Bool.not_eq_true', Bool.not_eq_false', List.length_map, Int.toNat_natCast, Int.not_lt, Int.not_le, Bool.not_eq_true, Bool.false_eq_true, Bool.true_eq_false, Bool.not_true, Bool.not_false, reduceCtorEq, beq_iff_eq, Bool.not_eq_eq_eq_not, bne_iff_ne, ne_eq, decide_not, Decidable.not_not, Classical.not_not] at h)) | exact (rfl : (_ : AV) = _) | exact (rfl : (_ : St) = _) | refine Exists.intro (α := AV) AV.dead (And.intro (fun h => Bool.noConfusion h) ?_) | apply ex_av | (refine fun (h : (_ : Bool) = true) => ?_; have h' := h; (try simp only [Bool.or_eq_true, Bool.and_eq_true, Bool.or_eq_false_iff, Bool.and_eq_false_iff, toNat_pred, toNat_succ, toNat_addn, toNat_subn, decide_eq_true_eq, decide_eq_false_iff_not, Bool.not_eq_true', Bool.not_eq_false', List.length_map, Int.toNat_natCast, Int.not_lt, Int.not_le, Bool.not_eq_true, Bool.false_eq_true, Bool.true_eq_false, Bool.not_true, Bool.not_false, reduceCtorEq, beq_iff_eq, Bool.not_eq_eq_eq_not, bne_iff_ne, ne_eq, decide_not, Decidable.not_not, Classical.not_not] at h')) | refine And.intro (show Both _ _ _ by (refine ⟨fun h => ?_, fun h => ?_⟩ <;> first | rfl | exact h | exact Bool.noConfusion h | (rw [h]; rfl) | (simp_all; done) | fail)) ?_ | refine And.intro rfl ?_ | refine Two.mk ?_ ?_ | refine And.intro (allU8_bytes _) ?_ | refine And.intro (show (_ : Bool) = true by first | assumption | (simp_all; done) | fail) ?_ | refine And.intro (Or.inr rfl) ?_ | refine And.intro (Nat.le_of_ble_eq_true rfl) ?_ | refine And.intro (decide_eq_false (by omega)) ?_ | refine And.intro (show Program.stoodInHeld _ _ = _ by kernel_rfl) (And.intro (by kernel_rfl) ?_) | refine And.intro (show Nat.beq _ _ = _ from rfl) (And.intro (by decide) ?_) | refine And.intro ⟨rfl, rfl⟩ ?_ | refine And.intro ⟨rfl, rfl, trivial⟩ ?_ | refine And.intro (Int.natCast_nonneg _) ?_ | refine Or.inl (And.intro rfl (And.intro rfl (And.intro rfl (And.intro rfl ?_)))) | refine Or.inl (And.intro rfl (And.intro rfl ?_)) | refine Or.inr (And.intro (Nat.le_of_ble_eq_true rfl) ?_) | refine Or.inl (And.intro (by unfold in64; omega) ?_) | refine And.intro (by first | omega | (simp only [dlen, true_and, and_true, Nat.le_refl, List.length_map, List.length_append, List.length_cons, List.length_nil, List.length_take, List.length_drop, List.length_replicate, Int.toNat_natCast, List.append_nil] <;> omega) | fail) ?_ | refine And.intro (allU8_bytes _) ?_ | refine And.intro (show elemsP _ _ _ by repeat' (first | exact rfl | exact trivial | constructor)) ?_ | (refine Cuts.by (M := M0) 5 pl7 fol (by kernel_rfl) (ι := Unit) (fun u => ⟨[(0, AV.d (D.str s)), (5, AV.addr [5] 16 0), (6, AV.addr [6] 17 0), (7, AV.addr [7] 18 0), (8, AV.d (D.int .i64 0))], [([5], 16, AO.box 24 [AV.d (D.int .i64 2), AV.d (D.int .i64 0), AV.d (D.str s), AV.d (D.int .i64 0), AV.d (D.int .i64 0), AV.nils]), ([6], 17, AO.box 24 [AV.d (D.int .i64 3), AV.d (D.int .i64 0), AV.d (D.str (⟨#[]⟩)), AV.d (D.int .i64 0), AV.d (D.int .i64 0), AV.nils]), ([7], 18, AO.box 32 [AV.d (D.bool false), AV.d (D.str s)])], 19⟩) (fun u => True) ?_ (fun u hI => ?_); rotate_left) | (refine (awake_con).mono fun rs bs hr => ?_; subst hr) | (refine Has.mono (Has.norm (lsub_con (txS s) 0 n) (by rfl)) (fun rs bs hr => ?_); subst hr) | (refine Has.mono (Has.norm (lsub_con (txS s) n 5000) (by rfl)) (fun rs bs hr => ?_); subst hr) | (refine Has.mono (Has.norm (pv1 (s := s) n (by omega) hn) (by rfl)) (fun rs bs hr => ?_); subst hr) | (refine Has.mono (Has.norm (pv2 (s := s) (by omega)) (by rfl)) (fun rs bs hr => ?_); subst hr) | (refine Has.mono (Has.norm (pv3 (s := s) (by omega)) (by rfl)) (fun rs bs hr => ?_); subst hr) | (refine fun x hx => ?_; (try simp (disch := omega) only [Int.tdiv_eq_ediv_of_nonneg, Int.tmod_eq_emod_of_nonneg, bx, Bool.true_or, Bool.false_or, Bool.or_false, Bool.or_true, Bool.and_true, Bool.true_and, Bool.false_and, Bool.and_false, cond_true, cond_false, if_true, if_false, Bool.false_eq_true, min_nn, max_nn, min_ln, min_nl, max_ln, max_nl, getD_map, str_of_bytes, take_bytes, take_data, wrap_u64, wrap_u32, wrap_u8, shr_i64, shr_u64, shr_u32, shl_i64, shl_u64, Int.reduceToNat, Int.reducePow, Int.pow_succ, Int.pow_zero, Int.one_mul, Int.reduceMul, wrap_id, wrap_u8_nat, wrap_i64_u8, byteD_mk, map_snoc, map_app, set_map, take_map', drop_map', Nat.sub_zero, List.length_map, List.length_append, List.length_cons, List.length_nil, Int.toNat_natCast, List.drop_zero, List.take_succ_cons, List.take_zero, List.take_length, List.nil_append, List.append_nil, Nat.zero_add, toNat_pred, toNat_succ, toNat_addn, toNat_subn] at hx); subst hx) | rw [List.take_length] | (rw [List.take_of_length_le]; rotate_left; (first | omega | (simp only [dlen, true_and, and_true, Nat.le_refl, List.length_map, List.length_append, List.length_cons, List.length_nil, List.length_take, List.length_drop, List.length_replicate, Int.toNat_natCast, List.append_nil] <;> omega) | fail)) | refine fun h => ?_ | fail)); all_goals (try exact (AV.dead : AV)); all_goals (try (conv => whnf))
  all_goals try (exact ⟨(), trivial, (Forget.mk' ⟨⟨rfl, rfl⟩, ⟨rfl, rfl⟩, ⟨rfl, rfl⟩, ⟨rfl, rfl⟩, ⟨rfl, rfl⟩, trivial⟩ ⟨⟨rfl, rfl, rfl⟩, ⟨rfl, rfl, rfl⟩, ⟨rfl, rfl, rfl⟩, trivial⟩ rfl rfl)⟩)
  all_goals try (exact rb (by simp))
theorem wf_u8' {n : Int} (h : (Lit.int .u8 n).wf = true) : ∃ k : Nat, n = k ∧ k < 256 := by
  have := wf_u8 h
  exact ⟨n.toNat, by omega, by omega⟩
theorem scalarParts_law (xs : List D) (h : HasTs Tryd.prog Tryd.f7.params.toList xs) : Has Tryd.prog 7 (xs.map CV.d) (fun rs _ => rs = [.d (.bool true)]) := by
  obtain ⟨x, y, rfl, h1, h2⟩ := two_args (t := 9) (u := 5) h
  obtain ⟨s, rfl, _⟩ := h1.asStr (by kernel_rfl)
  obtain ⟨n, rfl, hw⟩ := h2.asInt (k := .u8) (by kernel_rfl)
  obtain ⟨k, rfl, hk⟩ := wf_u8' hw
  exact scalarParts_con s k hk
end Go.Fw
namespace Go.Fw
open Go Go.Proofs
set_option maxHeartbeats 10000000
set_option maxRecDepth 100000
set_option linter.constructorNameAsVariable false
set_option linter.unusedVariables false
set_option linter.unusedSimpArgs false
 
def zs (n : Nat) : ByteArray := ⟨(List.map dByte (List.replicate ((n : Int) % 4097).toNat (D.int .u8 0))).toArray⟩
theorem zs_size (n : Nat) : (zs n).size = n % 4097 := by
  simp [zs, ByteArray.size]
  omega
theorem allU8_rep : ∀ (k : Nat) (v : Int), allU8 (List.replicate k (D.int .u8 v)) = true
  | 0, _ => rfl
  | k + 1, v => by rw [List.replicate_succ, allU8]; exact allU8_rep k v
theorem longVal (row : List Vl) (hr : rowOK row) (n : Nat) : Has Tryd.prog 14 [CV.d (encSc (catS [txS (zs n), txS (zs n)])), CV.d (.sl 2 (row.map encV))] (fun rs _ => rs = [.d (encV (valS row (catS [txS (zs n), txS (zs n)])).1), .d (.int .i64 (valS row (catS [txS (zs n), txS (zs n)])).2)]) := by
  have hz := zs_size n
  exact value_con hr (good_cat (by simp) (by simp) (fun k hk => by
    simp only [List.mem_cons, List.not_mem_nil, or_false, or_self] at hk
    subst hk
    exact good2 _ _ (by omega)))
theorem scalarLong_con (x : Sc) (hw : Wf x) (row : List Vl) (n : Nat) (hn : n < 65536) : Has Tryd.prog 6 [CV.d (encSc x), CV.d (D.sl 2 (row.map encV)), CV.d (D.int .u16 n)] (fun rs _ => rs = [CV.d (D.bool true)] ) := by
  rw [encSc_eq]
  have hb5 : Tryd.prog.bytesOf 5 = 1 := by kernel_rfl
  refine Has_of_run (fn := Tryd.f6) (M := M0) fol (by kernel_rfl) 3 noPlan [] [] (by kernel_rfl) (Nat.le_of_ble_eq_true rfl) ?_
  (repeat' ((conv => whnf); first | done | (refine And.intro (fun h => ?_) (fun h => ?_) <;> (try simp only [Bool.or_eq_true, Bool.and_eq_true, Bool.or_eq_false_iff, Bool.and_eq_false_iff, toNat_pred, toNat_succ, toNat_addn, toNat_subn, decide_eq_true_eq, decide_eq_false_iff_not, Bool.not_eq_true', Bool.not_eq_false', List.length_map, Int.toNat_natCast, Int.not_lt, Int.not_le, Bool.not_eq_true, Bool.false_eq_true, Bool.true_eq_false, Bool.not_true, Bool.not_false, reduceCtorEq, beq_iff_eq, Bool.not_eq_eq_eq_not, bne_iff_ne, ne_eq, decide_not, Decidable.not_not, Classical.not_not] at h)) | exact (rfl : (_ : AV) = _) | exact (rfl : (_ : St) = _) | refine Exists.intro (α := AV) AV.dead (And.intro (fun h => Bool.noConfusion h) ?_) | apply ex_av | (refine fun (h : (_ : Bool) = true) => ?_; have h' := h; (try simp only [Bool.or_eq_true, Bool.and_eq_true, Bool.or_eq_false_iff, Bool.and_eq_false_iff, toNat_pred, toNat_succ, toNat_addn, toNat_subn, decide_eq_true_eq, decide_eq_false_iff_not, Bool.not_eq_true', Bool.not_eq_false', List.length_map, Int.toNat_natCast, Int.not_lt, Int.not_le, Bool.not_eq_true, Bool.false_eq_true, Bool.true_eq_false, Bool.not_true, Bool.not_false, reduceCtorEq, beq_iff_eq, Bool.not_eq_eq_eq_not, bne_iff_ne, ne_eq, decide_not, Decidable.not_not, Classical.not_not] at h')) | refine And.intro (show Both _ _ _ by (refine ⟨fun h => ?_, fun h => ?_⟩ <;> first | rfl | exact h | exact Bool.noConfusion h | (rw [h]; rfl) | (simp_all; done) | fail)) ?_ | refine And.intro rfl ?_ | refine Two.mk ?_ ?_ | refine And.intro (allU8_bytes _) ?_ | refine And.intro (show (_ : Bool) = true by first | assumption | (simp_all; done) | fail) ?_ | refine And.intro (Or.inr rfl) ?_ | refine And.intro (Nat.le_of_ble_eq_true rfl) ?_ | refine And.intro (decide_eq_false (by omega)) ?_ | refine And.intro (show Program.stoodInHeld _ _ = _ by kernel_rfl) (And.intro (by kernel_rfl) ?_) | refine And.intro (show Nat.beq _ _ = _ from rfl) (And.intro (by decide) ?_) | refine And.intro ⟨rfl, rfl⟩ ?_ | refine And.intro ⟨rfl, rfl, trivial⟩ ?_ | refine And.intro (Int.natCast_nonneg _) ?_ | refine Or.inl (And.intro rfl (And.intro rfl (And.intro rfl (And.intro rfl ?_)))) | refine Or.inl (And.intro rfl (And.intro rfl ?_)) | refine Or.inr (And.intro (Nat.le_of_ble_eq_true rfl) ?_) | refine Or.inl (And.intro (by unfold in64; omega) ?_) | refine And.intro (by first | omega | (simp only [dlen, true_and, and_true, Nat.le_refl, List.length_map, List.length_append, List.length_cons, List.length_nil, List.length_take, List.length_drop, List.length_replicate, Int.toNat_natCast, List.append_nil, hb5] <;> omega) | fail) ?_ | refine And.intro (allU8_bytes _) ?_ | refine And.intro (show elemsP _ _ _ by repeat' (first | exact rfl | exact trivial | constructor)) ?_ | (refine And.intro (allU8_rep _ _) ?_) | (refine Has.mono (Has.norm (longVal row (rowOK_of (by assumption)).1 n) (by rfl)) (fun rs bs hr => ?_); subst hr) | (refine (awake_con).mono fun rs bs hr => ?_; subst hr) | ((try rw [← encSc_eq]); refine (small20 x).mono fun rs bs hr => ?_; subst hr) | ((try rw [← encSc_eq]); refine (right12 x _).mono fun rs bs hr => ?_; subst hr) | (refine (rows_con [row] _).mono fun rs bs hr => ?_; subst hr) | ((try rw [← encSc_eq]); refine Has.mono (show HasVal row x from value_con (rowOK_of (by assumption)).1 (hw.good 12 x (by simp_all))) (fun rs bs hr => ?_); subst hr) | (refine fun x hx => ?_; (try simp (disch := omega) only [Int.tdiv_eq_ediv_of_nonneg, Int.tmod_eq_emod_of_nonneg, bx, Bool.true_or, Bool.false_or, Bool.or_false, Bool.or_true, Bool.and_true, Bool.true_and, Bool.false_and, Bool.and_false, cond_true, cond_false, if_true, if_false, Bool.false_eq_true, min_nn, max_nn, min_ln, min_nl, max_ln, max_nl, getD_map, str_of_bytes, take_bytes, take_data, wrap_u64, wrap_u32, wrap_u8, shr_i64, shr_u64, shr_u32, shl_i64, shl_u64, Int.reduceToNat, Int.reducePow, Int.pow_succ, Int.pow_zero, Int.one_mul, Int.reduceMul, wrap_id, wrap_u8_nat, wrap_i64_u8, byteD_mk, map_snoc, map_app, set_map, take_map', drop_map', Nat.sub_zero, List.length_map, List.length_append, List.length_cons, List.length_nil, Int.toNat_natCast, List.drop_zero, List.take_succ_cons, List.take_zero, List.take_length, List.nil_append, List.append_nil, Nat.zero_add, toNat_pred, toNat_succ, toNat_addn, toNat_subn] at hx); subst hx) | rw [List.take_length] | (rw [List.take_of_length_le]; rotate_left; (first | omega | (simp only [dlen, true_and, and_true, Nat.le_refl, List.length_map, List.length_append, List.length_cons, List.length_nil, List.length_take, List.length_drop, List.length_replicate, Int.toNat_natCast, List.append_nil, hb5] <;> omega) | fail)) | refine fun h => ?_ | fail)); all_goals (try exact (AV.dead : AV)); all_goals (try (conv => whnf))
  · exfalso
    have hr := rowOK_of (row := row) (by assumption)
    have hg : Good row.length x := hw.good 12 x (by simp_all)
    have h1 := (hg.valI hr.1).2.1
    have h2 := hg.nullI (fun v hv => (hr.2.2 v hv).2)
    rcases h.2 with h3 | h3
    · omega
    · exact h3.2 (emp_iff.2 (h2 h3.1))
  · rw [val_cat2 (val_tx row (zs n)) (val_tx row (zs n)), ByteArray.size_append, zs_size]
    by_cases hc : 4096 < n % 4097 + n % 4097
    · rw [if_pos hc]
      exact rb (by simp; omega)
    · rw [if_neg hc]
      exact rb (by simp; omega)
theorem wf_u16 {n : Int} (h : (Lit.int .u16 n).wf = true) : ∃ k : Nat, n = k ∧ k < 65536 := by
  simp [Lit.wf, IntKind.min, IntKind.max, IntKind.bits, IntKind.signed] at h
  exact ⟨n.toNat, by omega, by omega⟩
theorem scalarLong_law (xs : List D) (h : HasTs Tryd.prog Tryd.f6.params.toList xs) : Has Tryd.prog 6 (xs.map CV.d) (fun rs _ => rs = [.d (.bool true)]) := by
  have h' : HasTs Tryd.prog [24, 28, 43] xs := h
  obtain ⟨x, r, rfl, h1, h'⟩ := h'.cons
  obtain ⟨y, z, rfl, h2, h3⟩ := two_args h'
  obtain ⟨s, rfl, hw⟩ := HasT.asSc (P := Tryd.prog) (ti := 3) (ts := 9) (tl := 22) Tryd.underlying24 rfl (by kernel_rfl) (by kernel_rfl) (by kernel_rfl) (by kernel_rfl) x h1
  obtain ⟨row, rfl, _⟩ := HasT.asRow (P := Tryd.prog) (t := 32) (tb := 4) (ts := 9) (by kernel_rfl) (by kernel_rfl) Tryd.underlying32 rfl (by kernel_rfl) (by kernel_rfl) h2
  obtain ⟨n, rfl, hn⟩ := h3.asInt (k := .u16) (by kernel_rfl)
  obtain ⟨k, rfl, hk⟩ := wf_u16 hn
  exact scalarLong_con s hw row k hk
end Go.Fw
namespace Go.Fw
open Go Go.Proofs
set_option maxHeartbeats 10000000
set_option maxRecDepth 100000
set_option linter.constructorNameAsVariable false
set_option linter.unusedVariables false
set_option linter.unusedSimpArgs false
theorem same_ro (a b : List Vl) : Has Tryd.prog 17 [CV.d (.sl 2 (a.map encV)), CV.d (.sl 2 (b.map encV))] (fun rs bs => rs = [.d (.bool (sameV a b))] ∧ bs = [.gone, .gone]) :=
  (same17_con a b).gone.mono fun rs bs h => by obtain ⟨⟨_, h1⟩, h2⟩ := h; exact ⟨h1, h2⟩
theorem row_cols (row : List Vl) (hr : rowOK row) (hl : row.length ≤ 8) : Has Tryd.prog 16 [CV.d (.sl 6 ((List.range row.length).map colD)), CV.d (.sl 2 (row.map encV))] (fun rs _ => rs = [.own 32 2 (row.map encV), .d (.int .i64 0)]) := by
  have h := row_con row ((List.range row.length).map colS) (by simp; omega) (fun k hk => by
    obtain ⟨j, hj, rfl⟩ := List.mem_map.1 hk
    exact value_con hr (good_col (by simpa using hj)))
  rw [rows_cols row hr] at h
  refine h.norm ?_
  simp only [List.map_cons, List.map_nil, CV.norm, cols_norm]
def M8 : FuncId → List Mode := fun g => if g = 17 then [.ro, .ro] else []
theorem scalarKeeps_con (row : List Vl) : Has Tryd.prog 8 [CV.d (D.sl 2 (row.map encV))] (fun rs _ => rs = [CV.d (D.bool true)]) := by
  have hb24 : Tryd.prog.bytesOf 24 = 72 := by kernel_rfl
  have hb32 : Tryd.prog.bytesOf 32 = 24 := by kernel_rfl
  refine Has_of_run (fn := Tryd.f8) (M := M8) fol (by kernel_rfl) 10 noPlan [] [] (by kernel_rfl) (Nat.le_of_ble_eq_true rfl) ?_
  (repeat' ((conv => whnf); first | done | (refine And.intro (fun h => ?_) (fun h => ?_) <;> (try simp only [Bool.or_eq_true, Bool.and_eq_true, Bool.or_eq_false_iff, Bool.and_eq_false_iff, toNat_pred, toNat_succ, toNat_addn, toNat_subn, decide_eq_true_eq, decide_eq_false_iff_not, Bool.not_eq_true', Bool.not_eq_false', List.length_map, Int.toNat_natCast, Int.not_lt, Int.not_le, Bool.not_eq_true, Bool.false_eq_true, Bool.true_eq_false, Bool.not_true, Bool.not_false, reduceCtorEq, beq_iff_eq, Bool.not_eq_eq_eq_not, bne_iff_ne, ne_eq, decide_not, Decidable.not_not, Classical.not_not, List.length_range] at h)) | exact (rfl : (_ : AV) = _) | exact (rfl : (_ : St) = _) | refine Exists.intro (α := AV) AV.dead (And.intro (fun h => Bool.noConfusion h) ?_) | apply ex_av | (refine fun (h : (_ : Bool) = true) => ?_; have h' := h; (try simp only [Bool.or_eq_true, Bool.and_eq_true, Bool.or_eq_false_iff, Bool.and_eq_false_iff, toNat_pred, toNat_succ, toNat_addn, toNat_subn, decide_eq_true_eq, decide_eq_false_iff_not, Bool.not_eq_true', Bool.not_eq_false', List.length_map, Int.toNat_natCast, Int.not_lt, Int.not_le, Bool.not_eq_true, Bool.false_eq_true, Bool.true_eq_false, Bool.not_true, Bool.not_false, reduceCtorEq, beq_iff_eq, Bool.not_eq_eq_eq_not, bne_iff_ne, ne_eq, decide_not, Decidable.not_not, Classical.not_not, List.length_range] at h')) | refine And.intro (show Both _ _ _ by (refine ⟨fun h => ?_, fun h => ?_⟩ <;> first | rfl | exact h | exact Bool.noConfusion h | (rw [h]; rfl) | (simp_all; done) | fail)) ?_ | refine And.intro rfl ?_ | refine Two.mk ?_ ?_ | refine And.intro (allU8_bytes _) ?_ | refine And.intro (show (_ : Bool) = true by first | assumption | (simp_all; done) | fail) ?_ | refine And.intro (Or.inr rfl) ?_ | refine And.intro (Nat.le_of_ble_eq_true rfl) ?_ | refine And.intro (decide_eq_false (by omega)) ?_ | refine And.intro (show Program.stoodInHeld _ _ = _ by kernel_rfl) (And.intro (by kernel_rfl) ?_) | refine And.intro (show Nat.beq _ _ = _ from rfl) (And.intro (by decide) ?_) | refine And.intro ⟨rfl, rfl⟩ ?_ | refine And.intro ⟨rfl, rfl, trivial⟩ ?_ | refine And.intro (Int.natCast_nonneg _) ?_ | refine Or.inl (And.intro rfl (And.intro rfl (And.intro rfl (And.intro rfl ?_)))) | refine Or.inl (And.intro rfl (And.intro rfl ?_)) | refine Or.inr (And.intro (Nat.le_of_ble_eq_true rfl) ?_) | refine Or.inl (And.intro (by unfold in64; omega) ?_) | refine And.intro (by first | omega | (simp only [dlen, true_and, and_true, Nat.le_refl, List.length_map, List.length_append, List.length_cons, List.length_nil, List.length_take, List.length_drop, List.length_replicate, Int.toNat_natCast, List.append_nil, hb24, hb32, List.length_range] <;> omega) | fail) ?_ | refine And.intro (allU8_bytes _) ?_ | refine And.intro (show elemsP _ _ _ by repeat' (first | exact rfl | exact trivial | constructor)) ?_ | (refine (awake_con).mono fun rs bs hr => ?_; subst hr) | (refine (rows_con [row] _).mono fun rs bs hr => ?_; subst hr) | (refine (same_ro _ _).mono fun rs bs hr => ?_; obtain ⟨rfl, rfl⟩ := hr) | (rw [show i = row.length by omega]; refine Has.mono (show Has Tryd.prog 16 _ _ from row_cols row (rowOK_of (by assumption)).1 (by omega)) (fun rs bs hr => ?_); subst hr) | (refine Loops.by (M := M8) 10 noPlan fol (by kernel_rfl) (ι := Nat) (fun i => ⟨[(0, AV.d (D.sl 2 (row.map encV))), (3, AV.ref [3] 16 2 0 (row.map encV).length), (4, AV.ref [4] 17 6 0 ((List.range i).map colD).length), (5, AV.d (D.int .i64 i))], [([3], 16, AO.row 32 2 (row.map encV)), ([4], 17, AO.row 24 6 ((List.range i).map colD))], 18⟩) (fun i => i ≤ row.length) (fun i => row.length - i) (fun i hI => ?_) (0) (Nat.zero_le _) (Forget.mk' ⟨⟨rfl, rfl⟩, ⟨rfl, rfl⟩, ⟨rfl, rfl⟩, ⟨rfl, rfl⟩, trivial⟩ ⟨⟨rfl, rfl, rfl⟩, ⟨rfl, rfl, rfl⟩, trivial⟩ rfl rfl); have hi := hI) | (refine Loops.by (M := M8) 10 noPlan fol (by kernel_rfl) (ι := Nat × List Vl) (fun ⟨k, o⟩ => ⟨[(0, AV.d (D.sl 2 (row.map encV))), (3, AV.ref [3] 16 2 0 (row.map encV).length), (6, AV.ref [6] 17 2 0 ((row.map encV).length)), (7, AV.d (D.int .i64 0)), (8, AV.d (D.bool (sameV row row))), (9, AV.d (D.int .i64 k))], [([3], 16, AO.row 32 2 (row.map encV)), ([6], 17, AO.row 32 2 (o.map encV))], 18⟩) (fun ⟨k, o⟩ => k ≤ row.length ∧ o.length = row.length) (fun ⟨k, o⟩ => row.length - k) (fun p hI => ?_) ((0, row)) ⟨Nat.zero_le _, rfl⟩ (Forget.mk' ⟨⟨rfl, rfl⟩, ⟨rfl, rfl⟩, ⟨rfl, rfl⟩, ⟨rfl, rfl⟩, ⟨rfl, rfl⟩, ⟨rfl, rfl⟩, trivial⟩ ⟨⟨rfl, rfl, rfl⟩, ⟨rfl, rfl, rfl⟩, trivial⟩ rfl rfl); obtain ⟨k, o⟩ := p; obtain ⟨hk, ho⟩ := hI) | (refine fun x hx => ?_; (try simp (disch := omega) only [Int.tdiv_eq_ediv_of_nonneg, Int.tmod_eq_emod_of_nonneg, bx, Bool.true_or, Bool.false_or, Bool.or_false, Bool.or_true, Bool.and_true, Bool.true_and, Bool.false_and, Bool.and_false, cond_true, cond_false, if_true, if_false, Bool.false_eq_true, min_nn, max_nn, min_ln, min_nl, max_ln, max_nl, getD_map, str_of_bytes, take_bytes, take_data, wrap_u64, wrap_u32, wrap_u8, shr_i64, shr_u64, shr_u32, shl_i64, shl_u64, Int.reduceToNat, Int.reducePow, Int.pow_succ, Int.pow_zero, Int.one_mul, Int.reduceMul, wrap_id, wrap_u8_nat, wrap_i64_u8, byteD_mk, map_snoc, map_app, set_map, take_map', drop_map', Nat.sub_zero, List.length_map, List.length_append, List.length_cons, List.length_nil, Int.toNat_natCast, List.drop_zero, List.take_succ_cons, List.take_zero, List.take_length, List.nil_append, List.append_nil, Nat.zero_add, toNat_pred, toNat_succ, toNat_addn, toNat_subn, List.length_range] at hx); subst hx) | rw [List.take_length] | (rw [List.take_of_length_le]; rotate_left; (first | omega | (simp only [dlen, true_and, and_true, Nat.le_refl, List.length_map, List.length_append, List.length_cons, List.length_nil, List.length_take, List.length_drop, List.length_replicate, Int.toNat_natCast, List.append_nil, hb24, hb32, List.length_range] <;> omega) | fail)) | refine fun h => ?_ | fail)); all_goals (try exact (AV.dead : AV)); all_goals (try (conv => whnf))
  · refine ⟨i + 1, ⟨by omega, by omega⟩, ?_⟩
    rw [colD_snoc]
    exact (Forget.mk' ⟨⟨rfl, rfl⟩, ⟨rfl, rfl⟩, ⟨rfl, rfl⟩, ⟨rfl, rfl⟩, trivial⟩ ⟨⟨rfl, rfl, rfl⟩, ⟨rfl, rfl, rfl⟩, trivial⟩ rfl rfl)
  · refine ⟨(k + 1, o.set k (false, ⟨#[63]⟩)), ⟨⟨by omega, by simp [ho]⟩, by show row.length - (k + 1) < row.length - k; omega⟩, ?_⟩
    rw [show D.agg [.bool false, .str ⟨#[63]⟩] = encV (false, ⟨#[63]⟩) from rfl, set_map]
    exact (Forget.mk' ⟨⟨rfl, rfl⟩, ⟨rfl, rfl⟩, ⟨rfl, rfl⟩, ⟨rfl, rfl⟩, ⟨rfl, rfl⟩, ⟨rfl, rfl⟩, trivial⟩ ⟨⟨rfl, rfl, rfl⟩, ⟨rfl, rfl, rfl⟩, trivial⟩ rfl rfl)
  all_goals first
    | (refine rb ?_; simp [sameV_refl]; done)
    | (exfalso; simp_all [sameV_refl]; done)
    | (trace_state; fail "leaf")
theorem scalarKeeps_law (xs : List D) (h : HasTs Tryd.prog Tryd.f8.params.toList xs) : Has Tryd.prog 8 (xs.map CV.d) (fun rs _ => rs = [.d (.bool true)]) := by
  obtain ⟨x, rfl, h1⟩ := one_arg (t := 28) h
  obtain ⟨row, rfl, _⟩ := HasT.asRow (P := Tryd.prog) (t := 32) (tb := 4) (ts := 9) (by kernel_rfl) (by kernel_rfl) Tryd.underlying32 rfl (by kernel_rfl) (by kernel_rfl) h1
  exact scalarKeeps_con row
end Go.Fw
