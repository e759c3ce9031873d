/- What the proofs of this seat lean on, part 21: a symbolic machine that is shown sound, walks through functions, plain laws. -/
import Derived.Shelf.Small.Bits
import Derived.Shelf.Strconv.Itoa0
import Derived.Shelf.Strconv.Itoa1
import Derived.Shelf.LaysM
import Derived.Shelf.Strconv.Itoa2
import Derived.Shelf.Strconv.Itoa3
import Derived.Shelf.Sort.Plain
import Derived.Shelf.Slices.CompactS
import Derived.Ground.Names2Prog
import Derived.Shelf.Slices.MinMaxS
import Derived.Shelf.Slices.Cells
import Derived.Shelf.Slices.In.SortNone
import Derived.Test.YtcmbobdkilcjeaaDoorProg
import Derived.Test.YtcmbobdkilcjeaaDoorZ18
import Derived.Test.YtcmbobdkilcjeaaDoorZ19
import Derived.Test.YtcmbobdkilcjeaaDoorZ20
import Derived.Test.YtcmbobdkilcjeaaDoorZ14
namespace Go.Proofs
open Go.Shelf
def Tryd.lays128_ren : Go.Shelf.Ren := ⟨fun | 128 => 56 | n => n, fun | 51 => 81 | 3 => 3 | 4 => 4 | 46 => 70 | 5 => 5 | 9 => 9 | n => n, fun | n => n⟩
theorem Tryd.lays128 : Go.Proofs.Lays.n128 Tryd.prog Tryd.lays128_ren := {
  mixed := by kernel_rfl
  f128 := Tryd.func56.trans (congrArg some (by kernel_rfl))
  t3 := Tryd.underlying3
  a3 := Tryd.isAgg3
  z3 := Tryd.sizeOf3
  v3 := Tryd.zeroValue3
  t4 := Tryd.underlying4
  a4 := Tryd.isAgg4
  z4 := Tryd.sizeOf4
  v4 := Tryd.zeroValue4
  t5 := Tryd.underlying5
  a5 := Tryd.isAgg5
  z5 := Tryd.sizeOf5
  v5 := Tryd.zeroValue5
  t9 := Tryd.underlying9
  a9 := Tryd.isAgg9
  z9 := Tryd.sizeOf9
  v9 := Tryd.zeroValue9
  t46 := Tryd.underlying70
  a46 := Tryd.isAgg70
  z46 := Tryd.sizeOf70
  v46 := Tryd.zeroValue70
  t51 := Tryd.underlying81
  a51 := Tryd.isAgg81
  z51 := Tryd.sizeOf81
  v51 := Tryd.zeroValue81 }
 
theorem Tryd.bits_Len32 (x : Int) (w : World) (h0 : 0 ≤ x) (h1 : x ≤ 4294967295) :
    Calls Tryd.prog 56 #[.int .u32 x] w fun e w' => e = .returned (.int .i64 (Lib.bitLen x.toNat)) ∧ w' = w := Any.bits_Len32 Tryd.lays128 x w h0 h1
def Tryd.lays125_ren : Go.Shelf.Ren := ⟨fun | 125 => 44 | 128 => 56 | 129 => 57 | n => n, fun | 46 => 70 | 3 => 3 | 51 => 81 | 53 => 43 | 4 => 4 | 5 => 5 | 9 => 9 | n => n, fun | n => n⟩
theorem Tryd.lays125 : Go.Proofs.Lays.n125 Tryd.prog Tryd.lays125_ren := {
  mixed := by kernel_rfl
  f125 := Tryd.func44.trans (congrArg some (by kernel_rfl))
  f128 := Tryd.func56.trans (congrArg some (by kernel_rfl))
  f129 := Tryd.func57.trans (congrArg some (by kernel_rfl))
  t3 := Tryd.underlying3
  a3 := Tryd.isAgg3
  z3 := Tryd.sizeOf3
  v3 := Tryd.zeroValue3
  t4 := Tryd.underlying4
  a4 := Tryd.isAgg4
  z4 := Tryd.sizeOf4
  v4 := Tryd.zeroValue4
  t5 := Tryd.underlying5
  a5 := Tryd.isAgg5
  z5 := Tryd.sizeOf5
  v5 := Tryd.zeroValue5
  t9 := Tryd.underlying9
  a9 := Tryd.isAgg9
  z9 := Tryd.sizeOf9
  v9 := Tryd.zeroValue9
  t46 := Tryd.underlying70
  a46 := Tryd.isAgg70
  z46 := Tryd.sizeOf70
  v46 := Tryd.zeroValue70
  t51 := Tryd.underlying81
  a51 := Tryd.isAgg81
  z51 := Tryd.sizeOf81
  v51 := Tryd.zeroValue81
  t53 := Tryd.underlying43
  a53 := Tryd.isAgg43
  z53 := Tryd.sizeOf43
  v53 := Tryd.zeroValue43 }
 
theorem Tryd.bits_Len (x : Int) (w : World) (h0 : 0 ≤ x) (h1 : x ≤ 18446744073709551615) :
    Calls Tryd.prog 44 #[.int .u64 x] w fun e w' => e = .returned (.int .i64 (Lib.bitLen x.toNat)) ∧ w' = w := Any.bits_Len Tryd.lays125 x w h0 h1
def Tryd.lays129_ren : Go.Shelf.Ren := ⟨fun | 129 => 57 | n => n, fun | 53 => 43 | 3 => 3 | 4 => 4 | 46 => 70 | 5 => 5 | 9 => 9 | n => n, fun | n => n⟩
theorem Tryd.lays129 : Go.Proofs.Lays.n129 Tryd.prog Tryd.lays129_ren := {
  mixed := by kernel_rfl
  f129 := Tryd.func57.trans (congrArg some (by kernel_rfl))
  t3 := Tryd.underlying3
  a3 := Tryd.isAgg3
  z3 := Tryd.sizeOf3
  v3 := Tryd.zeroValue3
  t4 := Tryd.underlying4
  a4 := Tryd.isAgg4
  z4 := Tryd.sizeOf4
  v4 := Tryd.zeroValue4
  t5 := Tryd.underlying5
  a5 := Tryd.isAgg5
  z5 := Tryd.sizeOf5
  v5 := Tryd.zeroValue5
  t9 := Tryd.underlying9
  a9 := Tryd.isAgg9
  z9 := Tryd.sizeOf9
  v9 := Tryd.zeroValue9
  t46 := Tryd.underlying70
  a46 := Tryd.isAgg70
  z46 := Tryd.sizeOf70
  v46 := Tryd.zeroValue70
  t53 := Tryd.underlying43
  a53 := Tryd.isAgg43
  z53 := Tryd.sizeOf43
  v53 := Tryd.zeroValue43 }
 
theorem Tryd.bits_Len64 (x : Int) (w : World) (h0 : 0 ≤ x) (h1 : x ≤ 18446744073709551615) :
    Calls Tryd.prog 57 #[.int .u64 x] w fun e w' => e = .returned (.int .i64 (Lib.bitLen x.toNat)) ∧ w' = w := Any.bits_Len64 Tryd.lays129 x w h0 h1
def Tryd.lays317_ren : Go.Shelf.Ren := ⟨fun | 317 => 70 | n => n, fun | 3 => 3 | 46 => 70 | n => n, fun | n => n⟩
theorem Tryd.lays317 : Go.Proofs.Lays.n317 Tryd.prog Tryd.lays317_ren := {
  mixed := by kernel_rfl
  f317 := Tryd.func70.trans (congrArg some (by kernel_rfl))
  t3 := Tryd.underlying3
  a3 := Tryd.isAgg3
  z3 := Tryd.sizeOf3
  v3 := Tryd.zeroValue3
  t46 := Tryd.underlying70
  a46 := Tryd.isAgg70
  z46 := Tryd.sizeOf70
  v46 := Tryd.zeroValue70 }
open Go.Lib in
 
theorem Tryd.internal_strconv_log10Pow2 (x : Nat) (h : x ≤ 64) (w : World) :
    Calls Tryd.prog 70 #[.int .i64 x] w fun e w' => e = .returned (.int .i64 (Lib.l10 x)) ∧ w' = w := Any.internal_strconv_log10Pow2 Tryd.lays317 x h w
def Tryd.lays318_ren : Go.Shelf.Ren := ⟨fun | 318 => 71 | n => n, fun | 3 => 3 | 4 => 4 | n => n, fun | n => n⟩
theorem Tryd.lays318 : Go.Proofs.Lays.n318 Tryd.prog Tryd.lays318_ren := {
  mixed := by kernel_rfl
  f318 := Tryd.func71.trans (congrArg some (by kernel_rfl))
  t3 := Tryd.underlying3
  a3 := Tryd.isAgg3
  z3 := Tryd.sizeOf3
  v3 := Tryd.zeroValue3
  t4 := Tryd.underlying4
  a4 := Tryd.isAgg4
  z4 := Tryd.sizeOf4
  v4 := Tryd.zeroValue4 }
open Go.Lib in
 
theorem Tryd.internal_strconv_bool2_int (b : Bool) (w : World) :
    Calls Tryd.prog 71 #[.bool b] w fun e w' => e = .returned (.int .i64 (if b then 1 else 0)) ∧ w' = w := Any.internal_strconv_bool2_int Tryd.lays318 b w
def Tryd.lays283_ren : Go.Shelf.Ren := ⟨fun | 283 => 65 | n => n, fun | 3 => 3 | 9 => 9 | 4 => 4 | n => n, fun | n => n⟩
theorem Tryd.lays283 : Go.Proofs.Lays.n283 Tryd.prog Tryd.lays283_ren := {
  mixed := by kernel_rfl
  f283 := Tryd.func65.trans (congrArg some (by kernel_rfl))
  t3 := Tryd.underlying3
  a3 := Tryd.isAgg3
  z3 := Tryd.sizeOf3
  v3 := Tryd.zeroValue3
  t4 := Tryd.underlying4
  a4 := Tryd.isAgg4
  z4 := Tryd.sizeOf4
  v4 := Tryd.zeroValue4
  t9 := Tryd.underlying9
  a9 := Tryd.isAgg9
  z9 := Tryd.sizeOf9
  v9 := Tryd.zeroValue9 }
open Go.Lib in
 
theorem Tryd.internal_strconv_small (i : Nat) (h : i < 100) (w : World) :
    Calls Tryd.prog 65 #[.int .i64 i] w fun e w' => e = .returned (.string ⟨(Lib.decDigits i).toArray⟩) ∧ w' = w := Any.internal_strconv_small Tryd.lays283 i h w
def Tryd.laysM284_ren : Go.Shelf.Ren := ⟨fun | 284 => 66 | 129 => 57 | 317 => 70 | 318 => 71 | n => n, fun | 53 => 43 | 3 => 3 | 212 => 100 | 0 => 0 | 4 => 4 | 46 => 70 | 5 => 5 | 9 => 9 | n => n, fun | 17 => 0 | n => n⟩
theorem Tryd.laysM284 : Go.Proofs.LaysM.n284 Tryd.prog Tryd.laysM284_ren := {
  mixed := by kernel_rfl
  f129 := Tryd.func57.trans (congrArg some (by kernel_rfl))
  f284 := Tryd.func66.trans (congrArg some (by kernel_rfl))
  f317 := Tryd.func70.trans (congrArg some (by kernel_rfl))
  f318 := Tryd.func71.trans (congrArg some (by kernel_rfl))
  t0 := Tryd.underlying0
  a0 := Tryd.isAgg0
  z0 := Tryd.sizeOf0
  v0 := Tryd.zeroValue0
  t3 := Tryd.underlying3
  a3 := Tryd.isAgg3
  z3 := Tryd.sizeOf3
  v3 := Tryd.zeroValue3
  t4 := Tryd.underlying4
  a4 := Tryd.isAgg4
  z4 := Tryd.sizeOf4
  v4 := Tryd.zeroValue4
  t5 := Tryd.underlying5
  a5 := Tryd.isAgg5
  z5 := Tryd.sizeOf5
  v5 := Tryd.zeroValue5
  t9 := Tryd.underlying9
  a9 := Tryd.isAgg9
  z9 := Tryd.sizeOf9
  v9 := Tryd.zeroValue9
  t46 := Tryd.underlying70
  a46 := Tryd.isAgg70
  z46 := Tryd.sizeOf70
  v46 := Tryd.zeroValue70
  t53 := Tryd.underlying43
  a53 := Tryd.isAgg43
  z53 := Tryd.sizeOf43
  v53 := Tryd.zeroValue43
  t212 := Tryd.underlying100
  a212 := Tryd.isAgg100
  z212 := Tryd.sizeOf100
  v212 := Tryd.zeroValue100
  g17 := by kernel_rfl
  i0 := by kernel_rfl
  i3 := by kernel_rfl
  i4 := by kernel_rfl
  i5 := by kernel_rfl
  i9 := by kernel_rfl
  i46 := by kernel_rfl
  i53 := by kernel_rfl
  i212 := by kernel_rfl
  m17 := by kernel_rfl }
open Go.Lib in
 
theorem Tryd.internal_strconv_numDigits (u : Nat) (h1 : 1 ≤ u) (h2 : u < 18446744073709551616) (w : World) (htab : Lib.TabIs Tryd.prog w "internal/strconv.uint64pow10" .u64 Lib.pow10Tab) :
    Calls Tryd.prog 66 #[.int .u64 u] w fun e w' => e = .returned (.int .i64 (Lib.nDigits u)) ∧ w' = w := Any.internal_strconv_numDigits Tryd.laysM284 u h1 h2 w htab
def Tryd.lays285_ren : Go.Shelf.Ren := ⟨fun | 285 => 67 | n => n, fun | 37 => 53 | 53 => 43 | 3 => 3 | 4 => 4 | 51 => 81 | 9 => 9 | 5 => 5 | 0 => 0 | n => n, fun | n => n⟩
theorem Tryd.lays285 : Go.Proofs.Lays.n285 Tryd.prog Tryd.lays285_ren := {
  mixed := by kernel_rfl
  f285 := Tryd.func67.trans (congrArg some (by kernel_rfl))
  t0 := Tryd.underlying0
  a0 := Tryd.isAgg0
  z0 := Tryd.sizeOf0
  v0 := Tryd.zeroValue0
  t3 := Tryd.underlying3
  a3 := Tryd.isAgg3
  z3 := Tryd.sizeOf3
  v3 := Tryd.zeroValue3
  t4 := Tryd.underlying4
  a4 := Tryd.isAgg4
  z4 := Tryd.sizeOf4
  v4 := Tryd.zeroValue4
  t5 := Tryd.underlying5
  a5 := Tryd.isAgg5
  z5 := Tryd.sizeOf5
  v5 := Tryd.zeroValue5
  t9 := Tryd.underlying9
  a9 := Tryd.isAgg9
  z9 := Tryd.sizeOf9
  v9 := Tryd.zeroValue9
  t37 := Tryd.underlying53
  a37 := Tryd.isAgg53
  z37 := Tryd.sizeOf53
  v37 := Tryd.zeroValue53
  t51 := Tryd.underlying81
  a51 := Tryd.isAgg81
  z51 := Tryd.sizeOf81
  v51 := Tryd.zeroValue81
  t53 := Tryd.underlying43
  a53 := Tryd.isAgg43
  z53 := Tryd.sizeOf43
  v53 := Tryd.zeroValue43 }
open Go.RowKit Go.Sort Go.Lib in
 
theorem Tryd.internal_strconv_formatBase10 (blk off cap : Nat) (u : Nat) (d : Array UInt8) (w : World) (hH : Holds (fun (b : UInt8) => Value.int .u8 (b.toNat : Int)) w blk off d) (hu : u < 10 ^ d.size) (hu64 : u < 18446744073709551616) (hsz : d.size < 4611686018427387904) :
    Calls Tryd.prog 67 #[.slice (some ⟨blk, off, none⟩) d.size cap, .int .u64 u] w fun e w' =>
      e = .returned (.tuple #[]) ∧ ∃ (n v' : Nat) (dk : Array UInt8), w' = (putRow (fun (b : UInt8) => Value.int .u8 (b.toNat : Int)) w blk off dk).drewN n ∧ FmtInv d.size u 0 v' dk := Any.internal_strconv_formatBase10 Tryd.lays285 blk off cap u d w hH hu hu64 hsz
def Tryd.laysM246_ren : Go.Shelf.Ren := ⟨fun | 246 => 58 | 283 => 65 | 284 => 66 | 285 => 67 | 286 => 68 | 129 => 57 | 317 => 70 | 318 => 71 | 319 => 72 | 320 => 73 | 337 => 74 | 338 => 75 | n => n, fun | 2 => 2 | 3 => 3 | 9 => 9 | 4 => 4 | 171 => 91 | 0 => 0 | 53 => 43 | 37 => 53 | 5 => 5 | 173 => 93 | 212 => 100 | 51 => 81 | 20 => 20 | 213 => 101 | 46 => 70 | 232 => 102 | 233 => 103 | n => n, fun | 17 => 0 | 18 => 1 | 19 => 2 | n => n⟩
theorem Tryd.laysM246 : Go.Proofs.LaysM.n246 Tryd.prog Tryd.laysM246_ren := {
  mixed := by kernel_rfl
  f129 := Tryd.func57.trans (congrArg some (by kernel_rfl))
  f246 := Tryd.func58.trans (congrArg some (by kernel_rfl))
  f283 := Tryd.func65.trans (congrArg some (by kernel_rfl))
  f284 := Tryd.func66.trans (congrArg some (by kernel_rfl))
  f285 := Tryd.func67.trans (congrArg some (by kernel_rfl))
  f286 := Tryd.func68.trans (congrArg some (by kernel_rfl))
  f317 := Tryd.func70.trans (congrArg some (by kernel_rfl))
  f318 := Tryd.func71.trans (congrArg some (by kernel_rfl))
  f319 := Tryd.func72.trans (congrArg some (by kernel_rfl))
  f320 := Tryd.func73.trans (congrArg some (by kernel_rfl))
  f337 := Tryd.func74.trans (congrArg some (by kernel_rfl))
  f338 := Tryd.func75.trans (congrArg some (by kernel_rfl))
  t0 := Tryd.underlying0
  a0 := Tryd.isAgg0
  z0 := Tryd.sizeOf0
  v0 := Tryd.zeroValue0
  t2 := Tryd.underlying2
  a2 := Tryd.isAgg2
  z2 := Tryd.sizeOf2
  v2 := Tryd.zeroValue2
  t3 := Tryd.underlying3
  a3 := Tryd.isAgg3
  z3 := Tryd.sizeOf3
  v3 := Tryd.zeroValue3
  t4 := Tryd.underlying4
  a4 := Tryd.isAgg4
  z4 := Tryd.sizeOf4
  v4 := Tryd.zeroValue4
  t5 := Tryd.underlying5
  a5 := Tryd.isAgg5
  z5 := Tryd.sizeOf5
  v5 := Tryd.zeroValue5
  t9 := Tryd.underlying9
  a9 := Tryd.isAgg9
  z9 := Tryd.sizeOf9
  v9 := Tryd.zeroValue9
  t20 := Tryd.underlying20
  a20 := Tryd.isAgg20
  z20 := Tryd.sizeOf20
  v20 := Tryd.zeroValue20
  t37 := Tryd.underlying53
  a37 := Tryd.isAgg53
  z37 := Tryd.sizeOf53
  v37 := Tryd.zeroValue53
  t46 := Tryd.underlying70
  a46 := Tryd.isAgg70
  z46 := Tryd.sizeOf70
  v46 := Tryd.zeroValue70
  t51 := Tryd.underlying81
  a51 := Tryd.isAgg81
  z51 := Tryd.sizeOf81
  v51 := Tryd.zeroValue81
  t53 := Tryd.underlying43
  a53 := Tryd.isAgg43
  z53 := Tryd.sizeOf43
  v53 := Tryd.zeroValue43
  t171 := Tryd.underlying91
  a171 := Tryd.isAgg91
  z171 := Tryd.sizeOf91
  v171 := Tryd.zeroValue91
  t173 := Tryd.underlying93
  a173 := Tryd.isAgg93
  z173 := Tryd.sizeOf93
  v173 := Tryd.zeroValue93
  t212 := Tryd.underlying100
  a212 := Tryd.isAgg100
  z212 := Tryd.sizeOf100
  v212 := Tryd.zeroValue100
  t213 := Tryd.underlying101
  a213 := Tryd.isAgg101
  z213 := Tryd.sizeOf101
  t232 := Tryd.underlying102
  a232 := Tryd.isAgg102
  z232 := Tryd.sizeOf102
  v232 := Tryd.zeroValue102
  t233 := Tryd.underlying103
  a233 := Tryd.isAgg103
  z233 := Tryd.sizeOf103
  v233 := Tryd.zeroValue103
  g17 := by kernel_rfl
  g18 := by kernel_rfl
  g19 := by kernel_rfl
  i0 := by kernel_rfl
  i2 := by kernel_rfl
  i3 := by kernel_rfl
  i4 := by kernel_rfl
  i5 := by kernel_rfl
  i9 := by kernel_rfl
  i20 := by kernel_rfl
  i37 := by kernel_rfl
  i46 := by kernel_rfl
  i51 := by kernel_rfl
  i53 := by kernel_rfl
  i171 := by kernel_rfl
  i173 := by kernel_rfl
  i212 := by kernel_rfl
  i232 := by kernel_rfl
  i233 := by kernel_rfl
  m17 := by kernel_rfl
  m18 := by kernel_rfl
  m19 := by kernel_rfl }
open Go.RowKit Go.Sort Go.Lib in
 
theorem Tryd.internal_strconv_FormatInt_10 (n : Int) (h0 : -9223372036854775808 ≤ n) (h1 : n ≤ 9223372036854775807) (w : World) (htab : Lib.TabIs Tryd.prog w "internal/strconv.uint64pow10" .u64 Lib.pow10Tab) :
    Calls Tryd.prog 58 #[.int .i64 n, .int .i64 10] w fun e w' => e = .returned (.string ⟨(Lib.itoa n).toArray⟩) ∧ ∃ k os, w' = grow (w.drewN k) os := Any.internal_strconv_FormatInt_10 Tryd.laysM246 n h0 h1 w htab
def Tryd.lays246_ren : Go.Shelf.Ren := ⟨fun | 246 => 58 | 283 => 65 | 284 => 66 | 285 => 67 | 286 => 68 | 129 => 57 | 317 => 70 | 318 => 71 | 319 => 72 | 320 => 73 | 337 => 74 | 338 => 75 | n => n, fun | 2 => 2 | 3 => 3 | 9 => 9 | 4 => 4 | 171 => 91 | 0 => 0 | 53 => 43 | 37 => 53 | 5 => 5 | 173 => 93 | 212 => 100 | 51 => 81 | 20 => 20 | 213 => 101 | 46 => 70 | 232 => 102 | 233 => 103 | n => n, fun | 17 => 0 | 18 => 1 | 19 => 2 | n => n⟩
theorem Tryd.lays246 : Go.Proofs.Lays.n246 Tryd.prog Tryd.lays246_ren := {
  mixed := by kernel_rfl
  f129 := Tryd.func57.trans (congrArg some (by kernel_rfl))
  f246 := Tryd.func58.trans (congrArg some (by kernel_rfl))
  f283 := Tryd.func65.trans (congrArg some (by kernel_rfl))
  f284 := Tryd.func66.trans (congrArg some (by kernel_rfl))
  f285 := Tryd.func67.trans (congrArg some (by kernel_rfl))
  f286 := Tryd.func68.trans (congrArg some (by kernel_rfl))
  f317 := Tryd.func70.trans (congrArg some (by kernel_rfl))
  f318 := Tryd.func71.trans (congrArg some (by kernel_rfl))
  f319 := Tryd.func72.trans (congrArg some (by kernel_rfl))
  f320 := Tryd.func73.trans (congrArg some (by kernel_rfl))
  f337 := Tryd.func74.trans (congrArg some (by kernel_rfl))
  f338 := Tryd.func75.trans (congrArg some (by kernel_rfl))
  t0 := Tryd.underlying0
  a0 := Tryd.isAgg0
  z0 := Tryd.sizeOf0
  v0 := Tryd.zeroValue0
  t2 := Tryd.underlying2
  a2 := Tryd.isAgg2
  z2 := Tryd.sizeOf2
  v2 := Tryd.zeroValue2
  t3 := Tryd.underlying3
  a3 := Tryd.isAgg3
  z3 := Tryd.sizeOf3
  v3 := Tryd.zeroValue3
  t4 := Tryd.underlying4
  a4 := Tryd.isAgg4
  z4 := Tryd.sizeOf4
  v4 := Tryd.zeroValue4
  t5 := Tryd.underlying5
  a5 := Tryd.isAgg5
  z5 := Tryd.sizeOf5
  v5 := Tryd.zeroValue5
  t9 := Tryd.underlying9
  a9 := Tryd.isAgg9
  z9 := Tryd.sizeOf9
  v9 := Tryd.zeroValue9
  t20 := Tryd.underlying20
  a20 := Tryd.isAgg20
  z20 := Tryd.sizeOf20
  v20 := Tryd.zeroValue20
  t37 := Tryd.underlying53
  a37 := Tryd.isAgg53
  z37 := Tryd.sizeOf53
  v37 := Tryd.zeroValue53
  t46 := Tryd.underlying70
  a46 := Tryd.isAgg70
  z46 := Tryd.sizeOf70
  v46 := Tryd.zeroValue70
  t51 := Tryd.underlying81
  a51 := Tryd.isAgg81
  z51 := Tryd.sizeOf81
  v51 := Tryd.zeroValue81
  t53 := Tryd.underlying43
  a53 := Tryd.isAgg43
  z53 := Tryd.sizeOf43
  v53 := Tryd.zeroValue43
  t171 := Tryd.underlying91
  a171 := Tryd.isAgg91
  z171 := Tryd.sizeOf91
  v171 := Tryd.zeroValue91
  t173 := Tryd.underlying93
  a173 := Tryd.isAgg93
  z173 := Tryd.sizeOf93
  v173 := Tryd.zeroValue93
  t212 := Tryd.underlying100
  a212 := Tryd.isAgg100
  z212 := Tryd.sizeOf100
  v212 := Tryd.zeroValue100
  t213 := Tryd.underlying101
  a213 := Tryd.isAgg101
  z213 := Tryd.sizeOf101
  t232 := Tryd.underlying102
  a232 := Tryd.isAgg102
  z232 := Tryd.sizeOf102
  v232 := Tryd.zeroValue102
  t233 := Tryd.underlying103
  a233 := Tryd.isAgg103
  z233 := Tryd.sizeOf103
  v233 := Tryd.zeroValue103
  g17 := by kernel_rfl
  g18 := by kernel_rfl
  g19 := by kernel_rfl }
open Go.RowKit Go.Sort Go.Lib in
 
theorem Tryd.internal_strconv_FormatInt_10_small (i : Nat) (hi : i < 100) (w : World) :
    Calls Tryd.prog 58 #[.int .i64 i, .int .i64 10] w fun e w' => e = .returned (.string ⟨(Lib.decDigits i).toArray⟩) ∧ w' = w := Any.internal_strconv_FormatInt_10_small Tryd.lays246 i hi w
def Tryd.laysM243_ren : Go.Shelf.Ren := ⟨fun | 243 => 46 | 246 => 58 | 283 => 65 | 284 => 66 | 285 => 67 | 286 => 68 | 129 => 57 | 317 => 70 | 318 => 71 | 319 => 72 | 320 => 73 | 337 => 74 | 338 => 75 | n => n, fun | 3 => 3 | 9 => 9 | 2 => 2 | 4 => 4 | 171 => 91 | 0 => 0 | 53 => 43 | 37 => 53 | 5 => 5 | 173 => 93 | 212 => 100 | 51 => 81 | 20 => 20 | 213 => 101 | 46 => 70 | 232 => 102 | 233 => 103 | n => n, fun | 17 => 0 | 18 => 1 | 19 => 2 | n => n⟩
theorem Tryd.laysM243 : Go.Proofs.LaysM.n243 Tryd.prog Tryd.laysM243_ren := {
  mixed := by kernel_rfl
  f129 := Tryd.func57.trans (congrArg some (by kernel_rfl))
  f243 := Tryd.func46.trans (congrArg some (by kernel_rfl))
  f246 := Tryd.func58.trans (congrArg some (by kernel_rfl))
  f283 := Tryd.func65.trans (congrArg some (by kernel_rfl))
  f284 := Tryd.func66.trans (congrArg some (by kernel_rfl))
  f285 := Tryd.func67.trans (congrArg some (by kernel_rfl))
  f286 := Tryd.func68.trans (congrArg some (by kernel_rfl))
  f317 := Tryd.func70.trans (congrArg some (by kernel_rfl))
  f318 := Tryd.func71.trans (congrArg some (by kernel_rfl))
  f319 := Tryd.func72.trans (congrArg some (by kernel_rfl))
  f320 := Tryd.func73.trans (congrArg some (by kernel_rfl))
  f337 := Tryd.func74.trans (congrArg some (by kernel_rfl))
  f338 := Tryd.func75.trans (congrArg some (by kernel_rfl))
  t0 := Tryd.underlying0
  a0 := Tryd.isAgg0
  z0 := Tryd.sizeOf0
  v0 := Tryd.zeroValue0
  t2 := Tryd.underlying2
  a2 := Tryd.isAgg2
  z2 := Tryd.sizeOf2
  v2 := Tryd.zeroValue2
  t3 := Tryd.underlying3
  a3 := Tryd.isAgg3
  z3 := Tryd.sizeOf3
  v3 := Tryd.zeroValue3
  t4 := Tryd.underlying4
  a4 := Tryd.isAgg4
  z4 := Tryd.sizeOf4
  v4 := Tryd.zeroValue4
  t5 := Tryd.underlying5
  a5 := Tryd.isAgg5
  z5 := Tryd.sizeOf5
  v5 := Tryd.zeroValue5
  t9 := Tryd.underlying9
  a9 := Tryd.isAgg9
  z9 := Tryd.sizeOf9
  v9 := Tryd.zeroValue9
  t20 := Tryd.underlying20
  a20 := Tryd.isAgg20
  z20 := Tryd.sizeOf20
  v20 := Tryd.zeroValue20
  t37 := Tryd.underlying53
  a37 := Tryd.isAgg53
  z37 := Tryd.sizeOf53
  v37 := Tryd.zeroValue53
  t46 := Tryd.underlying70
  a46 := Tryd.isAgg70
  z46 := Tryd.sizeOf70
  v46 := Tryd.zeroValue70
  t51 := Tryd.underlying81
  a51 := Tryd.isAgg81
  z51 := Tryd.sizeOf81
  v51 := Tryd.zeroValue81
  t53 := Tryd.underlying43
  a53 := Tryd.isAgg43
  z53 := Tryd.sizeOf43
  v53 := Tryd.zeroValue43
  t171 := Tryd.underlying91
  a171 := Tryd.isAgg91
  z171 := Tryd.sizeOf91
  v171 := Tryd.zeroValue91
  t173 := Tryd.underlying93
  a173 := Tryd.isAgg93
  z173 := Tryd.sizeOf93
  v173 := Tryd.zeroValue93
  t212 := Tryd.underlying100
  a212 := Tryd.isAgg100
  z212 := Tryd.sizeOf100
  v212 := Tryd.zeroValue100
  t213 := Tryd.underlying101
  a213 := Tryd.isAgg101
  z213 := Tryd.sizeOf101
  t232 := Tryd.underlying102
  a232 := Tryd.isAgg102
  z232 := Tryd.sizeOf102
  v232 := Tryd.zeroValue102
  t233 := Tryd.underlying103
  a233 := Tryd.isAgg103
  z233 := Tryd.sizeOf103
  v233 := Tryd.zeroValue103
  g17 := by kernel_rfl
  g18 := by kernel_rfl
  g19 := by kernel_rfl
  i0 := by kernel_rfl
  i2 := by kernel_rfl
  i3 := by kernel_rfl
  i4 := by kernel_rfl
  i5 := by kernel_rfl
  i9 := by kernel_rfl
  i20 := by kernel_rfl
  i37 := by kernel_rfl
  i46 := by kernel_rfl
  i51 := by kernel_rfl
  i53 := by kernel_rfl
  i171 := by kernel_rfl
  i173 := by kernel_rfl
  i212 := by kernel_rfl
  i232 := by kernel_rfl
  i233 := by kernel_rfl
  m17 := by kernel_rfl
  m18 := by kernel_rfl
  m19 := by kernel_rfl }
open Go.RowKit Go.Sort Go.Lib in
 
theorem Tryd.internal_strconv_Itoa (n : Int) (h0 : -9223372036854775808 ≤ n) (h1 : n ≤ 9223372036854775807) (w : World) (htab : Lib.TabIs Tryd.prog w "internal/strconv.uint64pow10" .u64 Lib.pow10Tab) :
    Calls Tryd.prog 46 #[.int .i64 n] w fun e w' => e = .returned (.string ⟨(Lib.itoa n).toArray⟩) ∧ ∃ k os, w' = grow (w.drewN k) os := Any.internal_strconv_Itoa Tryd.laysM243 n h0 h1 w htab
def Tryd.lays243_ren : Go.Shelf.Ren := ⟨fun | 243 => 46 | 246 => 58 | 283 => 65 | 284 => 66 | 285 => 67 | 286 => 68 | 129 => 57 | 317 => 70 | 318 => 71 | 319 => 72 | 320 => 73 | 337 => 74 | 338 => 75 | n => n, fun | 3 => 3 | 9 => 9 | 2 => 2 | 4 => 4 | 171 => 91 | 0 => 0 | 53 => 43 | 37 => 53 | 5 => 5 | 173 => 93 | 212 => 100 | 51 => 81 | 20 => 20 | 213 => 101 | 46 => 70 | 232 => 102 | 233 => 103 | n => n, fun | 17 => 0 | 18 => 1 | 19 => 2 | n => n⟩
theorem Tryd.lays243 : Go.Proofs.Lays.n243 Tryd.prog Tryd.lays243_ren := {
  mixed := by kernel_rfl
  f129 := Tryd.func57.trans (congrArg some (by kernel_rfl))
  f243 := Tryd.func46.trans (congrArg some (by kernel_rfl))
  f246 := Tryd.func58.trans (congrArg some (by kernel_rfl))
  f283 := Tryd.func65.trans (congrArg some (by kernel_rfl))
  f284 := Tryd.func66.trans (congrArg some (by kernel_rfl))
  f285 := Tryd.func67.trans (congrArg some (by kernel_rfl))
  f286 := Tryd.func68.trans (congrArg some (by kernel_rfl))
  f317 := Tryd.func70.trans (congrArg some (by kernel_rfl))
  f318 := Tryd.func71.trans (congrArg some (by kernel_rfl))
  f319 := Tryd.func72.trans (congrArg some (by kernel_rfl))
  f320 := Tryd.func73.trans (congrArg some (by kernel_rfl))
  f337 := Tryd.func74.trans (congrArg some (by kernel_rfl))
  f338 := Tryd.func75.trans (congrArg some (by kernel_rfl))
  t0 := Tryd.underlying0
  a0 := Tryd.isAgg0
  z0 := Tryd.sizeOf0
  v0 := Tryd.zeroValue0
  t2 := Tryd.underlying2
  a2 := Tryd.isAgg2
  z2 := Tryd.sizeOf2
  v2 := Tryd.zeroValue2
  t3 := Tryd.underlying3
  a3 := Tryd.isAgg3
  z3 := Tryd.sizeOf3
  v3 := Tryd.zeroValue3
  t4 := Tryd.underlying4
  a4 := Tryd.isAgg4
  z4 := Tryd.sizeOf4
  v4 := Tryd.zeroValue4
  t5 := Tryd.underlying5
  a5 := Tryd.isAgg5
  z5 := Tryd.sizeOf5
  v5 := Tryd.zeroValue5
  t9 := Tryd.underlying9
  a9 := Tryd.isAgg9
  z9 := Tryd.sizeOf9
  v9 := Tryd.zeroValue9
  t20 := Tryd.underlying20
  a20 := Tryd.isAgg20
  z20 := Tryd.sizeOf20
  v20 := Tryd.zeroValue20
  t37 := Tryd.underlying53
  a37 := Tryd.isAgg53
  z37 := Tryd.sizeOf53
  v37 := Tryd.zeroValue53
  t46 := Tryd.underlying70
  a46 := Tryd.isAgg70
  z46 := Tryd.sizeOf70
  v46 := Tryd.zeroValue70
  t51 := Tryd.underlying81
  a51 := Tryd.isAgg81
  z51 := Tryd.sizeOf81
  v51 := Tryd.zeroValue81
  t53 := Tryd.underlying43
  a53 := Tryd.isAgg43
  z53 := Tryd.sizeOf43
  v53 := Tryd.zeroValue43
  t171 := Tryd.underlying91
  a171 := Tryd.isAgg91
  z171 := Tryd.sizeOf91
  v171 := Tryd.zeroValue91
  t173 := Tryd.underlying93
  a173 := Tryd.isAgg93
  z173 := Tryd.sizeOf93
  v173 := Tryd.zeroValue93
  t212 := Tryd.underlying100
  a212 := Tryd.isAgg100
  z212 := Tryd.sizeOf100
  v212 := Tryd.zeroValue100
  t213 := Tryd.underlying101
  a213 := Tryd.isAgg101
  z213 := Tryd.sizeOf101
  t232 := Tryd.underlying102
  a232 := Tryd.isAgg102
  z232 := Tryd.sizeOf102
  v232 := Tryd.zeroValue102
  t233 := Tryd.underlying103
  a233 := Tryd.isAgg103
  z233 := Tryd.sizeOf103
  v233 := Tryd.zeroValue103
  g17 := by kernel_rfl
  g18 := by kernel_rfl
  g19 := by kernel_rfl }
open Go.RowKit Go.Sort Go.Lib in
 
theorem Tryd.internal_strconv_Itoa_small (i : Nat) (hi : i < 100) (w : World) :
    Calls Tryd.prog 46 #[.int .i64 i] w fun e w' => e = .returned (.string ⟨(Lib.decDigits i).toArray⟩) ∧ w' = w := Any.internal_strconv_Itoa_small Tryd.lays243 i hi w
def Tryd.laysM171_ren : Go.Shelf.Ren := ⟨fun | 171 => 42 | 243 => 46 | 246 => 58 | 283 => 65 | 284 => 66 | 285 => 67 | 286 => 68 | 129 => 57 | 317 => 70 | 318 => 71 | 319 => 72 | 320 => 73 | 337 => 74 | 338 => 75 | n => n, fun | 3 => 3 | 9 => 9 | 2 => 2 | 4 => 4 | 171 => 91 | 0 => 0 | 53 => 43 | 37 => 53 | 5 => 5 | 173 => 93 | 212 => 100 | 51 => 81 | 20 => 20 | 213 => 101 | 46 => 70 | 232 => 102 | 233 => 103 | n => n, fun | 17 => 0 | 18 => 1 | 19 => 2 | n => n⟩
theorem Tryd.laysM171 : Go.Proofs.LaysM.n171 Tryd.prog Tryd.laysM171_ren := {
  mixed := by kernel_rfl
  f129 := Tryd.func57.trans (congrArg some (by kernel_rfl))
  f171 := Tryd.func42.trans (congrArg some (by kernel_rfl))
  f243 := Tryd.func46.trans (congrArg some (by kernel_rfl))
  f246 := Tryd.func58.trans (congrArg some (by kernel_rfl))
  f283 := Tryd.func65.trans (congrArg some (by kernel_rfl))
  f284 := Tryd.func66.trans (congrArg some (by kernel_rfl))
  f285 := Tryd.func67.trans (congrArg some (by kernel_rfl))
  f286 := Tryd.func68.trans (congrArg some (by kernel_rfl))
  f317 := Tryd.func70.trans (congrArg some (by kernel_rfl))
  f318 := Tryd.func71.trans (congrArg some (by kernel_rfl))
  f319 := Tryd.func72.trans (congrArg some (by kernel_rfl))
  f320 := Tryd.func73.trans (congrArg some (by kernel_rfl))
  f337 := Tryd.func74.trans (congrArg some (by kernel_rfl))
  f338 := Tryd.func75.trans (congrArg some (by kernel_rfl))
  t0 := Tryd.underlying0
  a0 := Tryd.isAgg0
  z0 := Tryd.sizeOf0
  v0 := Tryd.zeroValue0
  t2 := Tryd.underlying2
  a2 := Tryd.isAgg2
  z2 := Tryd.sizeOf2
  v2 := Tryd.zeroValue2
  t3 := Tryd.underlying3
  a3 := Tryd.isAgg3
  z3 := Tryd.sizeOf3
  v3 := Tryd.zeroValue3
  t4 := Tryd.underlying4
  a4 := Tryd.isAgg4
  z4 := Tryd.sizeOf4
  v4 := Tryd.zeroValue4
  t5 := Tryd.underlying5
  a5 := Tryd.isAgg5
  z5 := Tryd.sizeOf5
  v5 := Tryd.zeroValue5
  t9 := Tryd.underlying9
  a9 := Tryd.isAgg9
  z9 := Tryd.sizeOf9
  v9 := Tryd.zeroValue9
  t20 := Tryd.underlying20
  a20 := Tryd.isAgg20
  z20 := Tryd.sizeOf20
  v20 := Tryd.zeroValue20
  t37 := Tryd.underlying53
  a37 := Tryd.isAgg53
  z37 := Tryd.sizeOf53
  v37 := Tryd.zeroValue53
  t46 := Tryd.underlying70
  a46 := Tryd.isAgg70
  z46 := Tryd.sizeOf70
  v46 := Tryd.zeroValue70
  t51 := Tryd.underlying81
  a51 := Tryd.isAgg81
  z51 := Tryd.sizeOf81
  v51 := Tryd.zeroValue81
  t53 := Tryd.underlying43
  a53 := Tryd.isAgg43
  z53 := Tryd.sizeOf43
  v53 := Tryd.zeroValue43
  t171 := Tryd.underlying91
  a171 := Tryd.isAgg91
  z171 := Tryd.sizeOf91
  v171 := Tryd.zeroValue91
  t173 := Tryd.underlying93
  a173 := Tryd.isAgg93
  z173 := Tryd.sizeOf93
  v173 := Tryd.zeroValue93
  t212 := Tryd.underlying100
  a212 := Tryd.isAgg100
  z212 := Tryd.sizeOf100
  v212 := Tryd.zeroValue100
  t213 := Tryd.underlying101
  a213 := Tryd.isAgg101
  z213 := Tryd.sizeOf101
  t232 := Tryd.underlying102
  a232 := Tryd.isAgg102
  z232 := Tryd.sizeOf102
  v232 := Tryd.zeroValue102
  t233 := Tryd.underlying103
  a233 := Tryd.isAgg103
  z233 := Tryd.sizeOf103
  v233 := Tryd.zeroValue103
  g17 := by kernel_rfl
  g18 := by kernel_rfl
  g19 := by kernel_rfl
  i0 := by kernel_rfl
  i2 := by kernel_rfl
  i3 := by kernel_rfl
  i4 := by kernel_rfl
  i5 := by kernel_rfl
  i9 := by kernel_rfl
  i20 := by kernel_rfl
  i37 := by kernel_rfl
  i46 := by kernel_rfl
  i51 := by kernel_rfl
  i53 := by kernel_rfl
  i171 := by kernel_rfl
  i173 := by kernel_rfl
  i212 := by kernel_rfl
  i232 := by kernel_rfl
  i233 := by kernel_rfl
  m17 := by kernel_rfl
  m18 := by kernel_rfl
  m19 := by kernel_rfl }
open Go.RowKit Go.Sort Go.Lib in
 
theorem Tryd.strconv_Itoa (n : Int) (h0 : -9223372036854775808 ≤ n) (h1 : n ≤ 9223372036854775807) (w : World) (htab : Lib.TabIs Tryd.prog w "internal/strconv.uint64pow10" .u64 Lib.pow10Tab) :
    Calls Tryd.prog 42 #[.int .i64 n] w fun e w' => e = .returned (.string ⟨(Lib.itoa n).toArray⟩) ∧ ∃ k os, w' = grow (w.drewN k) os := Any.strconv_Itoa Tryd.laysM171 n h0 h1 w htab
def Tryd.lays171_ren : Go.Shelf.Ren := ⟨fun | 171 => 42 | 243 => 46 | 246 => 58 | 283 => 65 | 284 => 66 | 285 => 67 | 286 => 68 | 129 => 57 | 317 => 70 | 318 => 71 | 319 => 72 | 320 => 73 | 337 => 74 | 338 => 75 | n => n, fun | 3 => 3 | 9 => 9 | 2 => 2 | 4 => 4 | 171 => 91 | 0 => 0 | 53 => 43 | 37 => 53 | 5 => 5 | 173 => 93 | 212 => 100 | 51 => 81 | 20 => 20 | 213 => 101 | 46 => 70 | 232 => 102 | 233 => 103 | n => n, fun | 17 => 0 | 18 => 1 | 19 => 2 | n => n⟩
theorem Tryd.lays171 : Go.Proofs.Lays.n171 Tryd.prog Tryd.lays171_ren := {
  mixed := by kernel_rfl
  f129 := Tryd.func57.trans (congrArg some (by kernel_rfl))
  f171 := Tryd.func42.trans (congrArg some (by kernel_rfl))
  f243 := Tryd.func46.trans (congrArg some (by kernel_rfl))
  f246 := Tryd.func58.trans (congrArg some (by kernel_rfl))
  f283 := Tryd.func65.trans (congrArg some (by kernel_rfl))
  f284 := Tryd.func66.trans (congrArg some (by kernel_rfl))
  f285 := Tryd.func67.trans (congrArg some (by kernel_rfl))
  f286 := Tryd.func68.trans (congrArg some (by kernel_rfl))
  f317 := Tryd.func70.trans (congrArg some (by kernel_rfl))
  f318 := Tryd.func71.trans (congrArg some (by kernel_rfl))
  f319 := Tryd.func72.trans (congrArg some (by kernel_rfl))
  f320 := Tryd.func73.trans (congrArg some (by kernel_rfl))
  f337 := Tryd.func74.trans (congrArg some (by kernel_rfl))
  f338 := Tryd.func75.trans (congrArg some (by kernel_rfl))
  t0 := Tryd.underlying0
  a0 := Tryd.isAgg0
  z0 := Tryd.sizeOf0
  v0 := Tryd.zeroValue0
  t2 := Tryd.underlying2
  a2 := Tryd.isAgg2
  z2 := Tryd.sizeOf2
  v2 := Tryd.zeroValue2
  t3 := Tryd.underlying3
  a3 := Tryd.isAgg3
  z3 := Tryd.sizeOf3
  v3 := Tryd.zeroValue3
  t4 := Tryd.underlying4
  a4 := Tryd.isAgg4
  z4 := Tryd.sizeOf4
  v4 := Tryd.zeroValue4
  t5 := Tryd.underlying5
  a5 := Tryd.isAgg5
  z5 := Tryd.sizeOf5
  v5 := Tryd.zeroValue5
  t9 := Tryd.underlying9
  a9 := Tryd.isAgg9
  z9 := Tryd.sizeOf9
  v9 := Tryd.zeroValue9
  t20 := Tryd.underlying20
  a20 := Tryd.isAgg20
  z20 := Tryd.sizeOf20
  v20 := Tryd.zeroValue20
  t37 := Tryd.underlying53
  a37 := Tryd.isAgg53
  z37 := Tryd.sizeOf53
  v37 := Tryd.zeroValue53
  t46 := Tryd.underlying70
  a46 := Tryd.isAgg70
  z46 := Tryd.sizeOf70
  v46 := Tryd.zeroValue70
  t51 := Tryd.underlying81
  a51 := Tryd.isAgg81
  z51 := Tryd.sizeOf81
  v51 := Tryd.zeroValue81
  t53 := Tryd.underlying43
  a53 := Tryd.isAgg43
  z53 := Tryd.sizeOf43
  v53 := Tryd.zeroValue43
  t171 := Tryd.underlying91
  a171 := Tryd.isAgg91
  z171 := Tryd.sizeOf91
  v171 := Tryd.zeroValue91
  t173 := Tryd.underlying93
  a173 := Tryd.isAgg93
  z173 := Tryd.sizeOf93
  v173 := Tryd.zeroValue93
  t212 := Tryd.underlying100
  a212 := Tryd.isAgg100
  z212 := Tryd.sizeOf100
  v212 := Tryd.zeroValue100
  t213 := Tryd.underlying101
  a213 := Tryd.isAgg101
  z213 := Tryd.sizeOf101
  t232 := Tryd.underlying102
  a232 := Tryd.isAgg102
  z232 := Tryd.sizeOf102
  v232 := Tryd.zeroValue102
  t233 := Tryd.underlying103
  a233 := Tryd.isAgg103
  z233 := Tryd.sizeOf103
  v233 := Tryd.zeroValue103
  g17 := by kernel_rfl
  g18 := by kernel_rfl
  g19 := by kernel_rfl }
open Go.RowKit Go.Sort Go.Lib in
 
theorem Tryd.strconv_Itoa_small (i : Nat) (hi : i < 100) (w : World) :
    Calls Tryd.prog 42 #[.int .i64 i] w fun e w' => e = .returned (.string ⟨(Lib.decDigits i).toArray⟩) ∧ w' = w := Any.strconv_Itoa_small Tryd.lays171 i hi w
def Tryd.lays190_ren : Go.Shelf.Ren := ⟨fun | 190 => 32 | 125 => 44 | 258 => 43 | 128 => 56 | 129 => 57 | 302 => 47 | 303 => 48 | 304 => 49 | 305 => 50 | 306 => 51 | 307 => 52 | 308 => 53 | 309 => 54 | 310 => 55 | 333 => 59 | 329 => 60 | 330 => 61 | 334 => 62 | 335 => 63 | 336 => 64 | 344 => 69 | n => n, fun | 31 => 60 | 9 => 9 | 3 => 3 | 46 => 70 | 0 => 0 | 51 => 81 | 53 => 43 | 4 => 4 | 183 => 73 | 182 => 72 | 131 => 78 | 5 => 5 | 218 => 84 | 222 => 88 | 228 => 95 | 229 => 96 | n => n, fun | n => n⟩
theorem Tryd.lays190 : Go.Proofs.Lays.n190 Tryd.prog Tryd.lays190_ren := {
  mixed := by kernel_rfl
  f125 := Tryd.func44.trans (congrArg some (by kernel_rfl))
  f128 := Tryd.func56.trans (congrArg some (by kernel_rfl))
  f129 := Tryd.func57.trans (congrArg some (by kernel_rfl))
  f190 := Tryd.func32.trans (congrArg some (by kernel_rfl))
  f258 := Tryd.func43.trans (congrArg some (by kernel_rfl))
  f302 := Tryd.func47.trans (congrArg some (by kernel_rfl))
  f303 := Tryd.func48.trans (congrArg some (by kernel_rfl))
  f304 := Tryd.func49.trans (congrArg some (by kernel_rfl))
  f305 := Tryd.func50.trans (congrArg some (by kernel_rfl))
  f306 := Tryd.func51.trans (congrArg some (by kernel_rfl))
  f307 := Tryd.func52.trans (congrArg some (by kernel_rfl))
  f308 := Tryd.func53.trans (congrArg some (by kernel_rfl))
  f309 := Tryd.func54.trans (congrArg some (by kernel_rfl))
  f310 := Tryd.func55.trans (congrArg some (by kernel_rfl))
  f329 := Tryd.func60.trans (congrArg some (by kernel_rfl))
  f330 := Tryd.func61.trans (congrArg some (by kernel_rfl))
  f333 := Tryd.func59.trans (congrArg some (by kernel_rfl))
  f334 := Tryd.func62.trans (congrArg some (by kernel_rfl))
  f335 := Tryd.func63.trans (congrArg some (by kernel_rfl))
  f336 := Tryd.func64.trans (congrArg some (by kernel_rfl))
  f344 := Tryd.func69.trans (congrArg some (by kernel_rfl))
  t0 := Tryd.underlying0
  a0 := Tryd.isAgg0
  z0 := Tryd.sizeOf0
  v0 := Tryd.zeroValue0
  t3 := Tryd.underlying3
  a3 := Tryd.isAgg3
  z3 := Tryd.sizeOf3
  v3 := Tryd.zeroValue3
  t4 := Tryd.underlying4
  a4 := Tryd.isAgg4
  z4 := Tryd.sizeOf4
  v4 := Tryd.zeroValue4
  t5 := Tryd.underlying5
  a5 := Tryd.isAgg5
  z5 := Tryd.sizeOf5
  v5 := Tryd.zeroValue5
  t9 := Tryd.underlying9
  a9 := Tryd.isAgg9
  z9 := Tryd.sizeOf9
  v9 := Tryd.zeroValue9
  t31 := Tryd.underlying60
  a31 := Tryd.isAgg60
  z31 := Tryd.sizeOf60
  v31 := Tryd.zeroValue60
  t46 := Tryd.underlying70
  a46 := Tryd.isAgg70
  z46 := Tryd.sizeOf70
  v46 := Tryd.zeroValue70
  t51 := Tryd.underlying81
  a51 := Tryd.isAgg81
  z51 := Tryd.sizeOf81
  v51 := Tryd.zeroValue81
  t53 := Tryd.underlying43
  a53 := Tryd.isAgg43
  z53 := Tryd.sizeOf43
  v53 := Tryd.zeroValue43
  t131 := Tryd.underlying78
  a131 := Tryd.isAgg78
  z131 := Tryd.sizeOf78
  v131 := Tryd.zeroValue78
  t182 := Tryd.underlying72
  a182 := Tryd.isAgg72
  z182 := Tryd.sizeOf72
  v182 := Tryd.zeroValue72
  t183 := Tryd.underlying73
  a183 := Tryd.isAgg73
  z183 := Tryd.sizeOf73
  v183 := Tryd.zeroValue73
  t218 := Tryd.underlying84
  a218 := Tryd.isAgg84
  z218 := Tryd.sizeOf84
  v218 := Tryd.zeroValue84
  t222 := Tryd.underlying88
  a222 := Tryd.isAgg88
  z222 := Tryd.sizeOf88
  v222 := Tryd.zeroValue88
  t228 := Tryd.underlying95
  a228 := Tryd.isAgg95
  z228 := Tryd.sizeOf95
  v228 := Tryd.zeroValue95
  t229 := Tryd.underlying96
  a229 := Tryd.isAgg96
  z229 := Tryd.sizeOf96
  v229 := Tryd.zeroValue96 }
open Go.Sort Go.RowKit in
theorem Tryd.slices_Sort_string (blk off cap : Nat) (ss : List (List UInt8)) (w : World) (hH : Holds encStr w blk off ss.toArray) (hblk : blk < w.heap.size) (hsz : ss.length < 4611686018427387904) :
    Calls Tryd.prog 32 #[.slice (some ⟨blk, off, none⟩) ss.length cap] w fun e w' =>
      e = .returned (.tuple #[]) ∧ ∃ n os, w' = grow (putRow encStr (Sort.ahead w n) blk off (ss.mergeSort fun x y => decide (x ≤ y)).toArray) os := Any.slices_Sort_string Tryd.lays190 blk off cap ss w hH hblk hsz
def Tryd.lays194_ren : Go.Shelf.Ren := ⟨fun | 194 => 33 | n => n, fun | 31 => 60 | 9 => 9 | 3 => 3 | 4 => 4 | 0 => 0 | n => n, fun | n => n⟩
theorem Tryd.lays194 : Go.Proofs.Lays.n194 Tryd.prog Tryd.lays194_ren := {
  mixed := by kernel_rfl
  f194 := Tryd.func33.trans (congrArg some (by kernel_rfl))
  t0 := Tryd.underlying0
  a0 := Tryd.isAgg0
  z0 := Tryd.sizeOf0
  v0 := Tryd.zeroValue0
  t3 := Tryd.underlying3
  a3 := Tryd.isAgg3
  z3 := Tryd.sizeOf3
  v3 := Tryd.zeroValue3
  t4 := Tryd.underlying4
  a4 := Tryd.isAgg4
  z4 := Tryd.sizeOf4
  v4 := Tryd.zeroValue4
  t9 := Tryd.underlying9
  a9 := Tryd.isAgg9
  z9 := Tryd.sizeOf9
  v9 := Tryd.zeroValue9
  t31 := Tryd.underlying60
  a31 := Tryd.isAgg60
  z31 := Tryd.sizeOf60
  v31 := Tryd.zeroValue60 }
open Go.RowKit Go.Lib Go.Sort in
 
theorem Tryd.slices_Compact_string_arr (blk off cap : Nat) (d : Array (List UInt8)) (w : World) (hH : Holds encStr w blk off d) (hsz : d.size ≤ 9223372036854775807) (hcap : d.size ≤ cap) :
    Calls Tryd.prog 33 #[.slice (some ⟨blk, off, none⟩) d.size cap] w fun e w' => e = .returned (.slice (some ⟨blk, off, none⟩) (compactUpTo d d.size).length cap) ∧ ∃ q, w' = putRow encStr (Sort.ahead w q) blk off (compactUpTo d d.size ++ List.replicate (d.size - (compactUpTo d d.size).length) []).toArray := Any.slices_Compact_string_arr Tryd.lays194 blk off cap d w hH hsz hcap
open Go.RowKit Go.Lib Go.Sort in
 
theorem Tryd.slices_Compact_string (blk off cap : Nat) (zs : List (List UInt8)) (w : World) (hH : Holds encStr w blk off zs.toArray) (hsz : zs.length ≤ 9223372036854775807) (hcap : zs.length ≤ cap) :
    Calls Tryd.prog 33 #[.slice (some ⟨blk, off, none⟩) zs.length cap] w fun e w' => e = .returned (.slice (some ⟨blk, off, none⟩) (Lib.compact zs).length cap) ∧ ∃ q, w' = putRow encStr (Sort.ahead w q) blk off (Lib.compact zs ++ List.replicate (zs.length - (Lib.compact zs).length) []).toArray := Any.slices_Compact_string Tryd.lays194 blk off cap zs w hH hsz hcap
open Go.RowKit Go.Lib Go.Sort in
 
theorem Tryd.slices_Compact_string_empty (a : Option Addr) (cap : Nat) (w : World) :
    Calls Tryd.prog 33 #[.slice a 0 cap] w fun e w' => e = .returned (.slice a 0 cap) ∧ w' = w := Any.slices_Compact_string_empty Tryd.lays194 a cap w
def Tryd.laysNm218_ren : Go.Shelf.Ren := ⟨fun | 18 => 35 | n => n, fun | 24 => 60 | 9 => 9 | 3 => 3 | 4 => 4 | 20 => 20 | 0 => 0 | n => n, fun | n => n⟩
theorem Tryd.laysNm218 : Go.Proofs.Lays2.n18 Tryd.prog Tryd.laysNm218_ren := {
  mixed := by kernel_rfl
  f18 := Tryd.func35.trans (congrArg some (by kernel_rfl))
  t0 := Tryd.underlying0
  a0 := Tryd.isAgg0
  z0 := Tryd.sizeOf0
  v0 := Tryd.zeroValue0
  t3 := Tryd.underlying3
  a3 := Tryd.isAgg3
  z3 := Tryd.sizeOf3
  v3 := Tryd.zeroValue3
  t4 := Tryd.underlying4
  a4 := Tryd.isAgg4
  z4 := Tryd.sizeOf4
  v4 := Tryd.zeroValue4
  t9 := Tryd.underlying9
  a9 := Tryd.isAgg9
  z9 := Tryd.sizeOf9
  v9 := Tryd.zeroValue9
  t20 := Tryd.underlying20
  a20 := Tryd.isAgg20
  z20 := Tryd.sizeOf20
  v20 := Tryd.zeroValue20
  t24 := Tryd.underlying60
  a24 := Tryd.isAgg60
  z24 := Tryd.sizeOf60
  v24 := Tryd.zeroValue60 }
open Go.RowKit Go.Lib in
 
theorem Tryd.slices_Max_string (b off n c : Nat) (zs : List ByteArray) (w : World) (hn : 0 < n) (hz : n ≤ zs.length) (hbig : n ≤ 9223372036854775807) (hc : ∀ j, j < zs.length → w.cell? ⟨b, off + j, none⟩ = some (.string (zs.getD j ByteArray.empty))) :
    Calls Tryd.prog 35 #[.slice (some ⟨b, off, none⟩) n c] w fun e w' => e = .returned (.string (Lib.maxOfS (zs.take n))) ∧ w' = w := Any.slices_Max_string Tryd.laysNm218 b off n c zs w hn hz hbig hc
def Tryd.laysNm219_ren : Go.Shelf.Ren := ⟨fun | 19 => 34 | n => n, fun | 24 => 60 | 9 => 9 | 3 => 3 | 4 => 4 | 20 => 20 | 0 => 0 | n => n, fun | n => n⟩
theorem Tryd.laysNm219 : Go.Proofs.Lays2.n19 Tryd.prog Tryd.laysNm219_ren := {
  mixed := by kernel_rfl
  f19 := Tryd.func34.trans (congrArg some (by kernel_rfl))
  t0 := Tryd.underlying0
  a0 := Tryd.isAgg0
  z0 := Tryd.sizeOf0
  v0 := Tryd.zeroValue0
  t3 := Tryd.underlying3
  a3 := Tryd.isAgg3
  z3 := Tryd.sizeOf3
  v3 := Tryd.zeroValue3
  t4 := Tryd.underlying4
  a4 := Tryd.isAgg4
  z4 := Tryd.sizeOf4
  v4 := Tryd.zeroValue4
  t9 := Tryd.underlying9
  a9 := Tryd.isAgg9
  z9 := Tryd.sizeOf9
  v9 := Tryd.zeroValue9
  t20 := Tryd.underlying20
  a20 := Tryd.isAgg20
  z20 := Tryd.sizeOf20
  v20 := Tryd.zeroValue20
  t24 := Tryd.underlying60
  a24 := Tryd.isAgg60
  z24 := Tryd.sizeOf60
  v24 := Tryd.zeroValue60 }
open Go.RowKit Go.Lib in
 
theorem Tryd.slices_Min_string (b off n c : Nat) (zs : List ByteArray) (w : World) (hn : 0 < n) (hz : n ≤ zs.length) (hbig : n ≤ 9223372036854775807) (hc : ∀ j, j < zs.length → w.cell? ⟨b, off + j, none⟩ = some (.string (zs.getD j ByteArray.empty))) :
    Calls Tryd.prog 34 #[.slice (some ⟨b, off, none⟩) n c] w fun e w' => e = .returned (.string (Lib.minOfS (zs.take n))) ∧ w' = w := Any.slices_Min_string Tryd.laysNm219 b off n c zs w hn hz hbig hc
open Go.RowKit Go.Lib Go.Sort in
 
theorem Tryd.slices_Compact_string_cells (b off n c : Nat) (Sx : Nat → ByteArray) (w : World) (hbig : n ≤ 9223372036854775807) (hcap : n ≤ c) (hc : ∀ i, i < n → w.cell? ⟨b, off + i, none⟩ = some (.string (Sx i))) (hf : ∀ j, j < n → w.frozen? ⟨b, off + j, none⟩ = false) :
    Calls Tryd.prog 33 #[.slice (some ⟨b, off, none⟩) n c] w fun e w' => e = .returned (.slice (some ⟨b, off, none⟩) (Lib.compact (Lib.strsOf Sx n)).length c) ∧ ∃ q, w' = (w.drewN q).setCells b off ((Lib.compact (Lib.strsOf Sx n) ++ List.replicate (n - (Lib.compact (Lib.strsOf Sx n)).length) []).map encStr) := Any.slices_Compact_string_cells Tryd.lays194 b off n c Sx w hbig hcap hc hf
open Go.RowKit Go.Sort in
 
theorem Tryd.slices_Sort_string_none (p : Option Addr) (cap : Nat) (w : World) :
    Calls Tryd.prog 32 #[.slice p 0 cap] w fun e w' => e = .returned (.tuple #[]) ∧ w' = w := Any.slices_Sort_string_none Tryd.lays190 p cap w
end Go.Proofs
namespace Go.Fw
open Go Go.Proofs
set_option maxHeartbeats 10000000
set_option maxRecDepth 100000
set_option linter.constructorNameAsVariable false
set_option linter.unusedVariables false
set_option linter.unusedSimpArgs false
theorem sort_con (e : Nat) (ss : List ByteArray) (hlen : ss.length < 4611686018427387904) :
    Has Tryd.prog 32 [.own e 1 (ss.map D.str)] (fun rs bs => rs = [] ∧ bs = [.own e 1 ((sortS ss).map D.str)]) :=
  sort_has (fn := Tryd.f32) (by kernel_rfl) (by kernel_rfl) (by kernel_rfl) Tryd.slices_Sort_string Tryd.slices_Sort_string_none e ss hlen
theorem compact_con (e : Nat) (ss : List ByteArray) :
    Has Tryd.prog 33 [.own e 1 (ss.map D.str)] (fun rs bs => rs = [.own e 1 ((compactS ss).map D.str)] ∧ bs = [.gone]) :=
  compact_has (fn := Tryd.f33) (by kernel_rfl) (by kernel_rfl) (by kernel_rfl) Tryd.slices_Compact_string Tryd.slices_Compact_string_empty e ss
theorem min_con (e : Nat) (ss : List ByteArray) (hne : 0 < ss.length) :
    Has Tryd.prog 34 [.own e 1 (ss.map D.str)] (fun rs bs => rs = [.d (.str (Lib.minOfS ss))] ∧ bs = [.own e 1 (ss.map D.str)]) :=
  pick_has (fn := Tryd.f34) (by kernel_rfl) (by kernel_rfl) (by kernel_rfl) Lib.minOfS Tryd.slices_Min_string e ss hne
theorem max_con (e : Nat) (ss : List ByteArray) (hne : 0 < ss.length) :
    Has Tryd.prog 35 [.own e 1 (ss.map D.str)] (fun rs bs => rs = [.d (.str (Lib.maxOfS ss))] ∧ bs = [.own e 1 (ss.map D.str)]) :=
  pick_has (fn := Tryd.f35) (by kernel_rfl) (by kernel_rfl) (by kernel_rfl) Lib.maxOfS Tryd.slices_Max_string e ss hne
theorem itoa_con (n : Nat) (hn : n ≤ 9223372036854775807) : Has Tryd.prog 42 [CV.d (.int .i64 n)] (fun rs _ => rs = [.d (.str (itoaS n))]) := by
  have e : Lib.itoa (n : Int) = Lib.decDigits n := by unfold Lib.itoa; rw [if_neg (by omega), Int.toNat_natCast]
  have := itoa_has (fn := Tryd.f42) (by kernel_rfl) (by kernel_rfl) (by kernel_rfl) (gt := 0) (by kernel_rfl) (by simp [tabList]) Tryd.strconv_Itoa n (by omega) (by omega)
  rw [e] at this
  exact this
theorem digits0_con (n : Nat) (hn : n ≤ 9223372036854775807) (ih : 10 ≤ n → ∀ k : Nat, k < n → Has Tryd.prog 14 [CV.d (.int .i64 k)] (fun rs _ => rs = [.d (.str (itoaS k))])) : Has Tryd.prog 14 [CV.d (D.int .i64 n)] (fun rs _ => rs = [CV.d (D.str (itoaS n))]) := by
  refine Has_of_run (fn := Tryd.f14) (M := M0) fol (by kernel_rfl) 3 noPlan [] [] (by kernel_rfl) (Nat.le_of_ble_eq_true rfl) ?_
  (repeat' ((conv => whnf); first | done | (refine And.intro (fun h => ?_) (fun h => ?_) <;> (try simp only [Bool.or_eq_true, Bool.and_eq_true, Bool.or_eq_false_iff, Bool.and_eq_false_iff, toNat_pred, toNat_succ, toNat_addn, toNat_subn, decide_eq_true_eq, decide_eq_false_iff_not, Bool.not_eq_true', Bool.not_eq_false', List.length_map, Int.toNat_natCast, Int.not_lt, Int.not_le, Bool.not_eq_true, Bool.false_eq_true, Bool.true_eq_false, Bool.not_true, Bool.not_false, reduceCtorEq, beq_iff_eq, Bool.not_eq_eq_eq_not, bne_iff_ne, ne_eq, decide_not, Decidable.not_not, Classical.not_not] at h)) | exact (rfl : (_ : AV) = _) | exact (rfl : (_ : St) = _) | refine Exists.intro (α := AV) AV.dead (And.intro (fun h => Bool.noConfusion h) ?_) | apply ex_av | (refine fun (h : (_ : Bool) = true) => ?_; have h' := h; (try simp only [Bool.or_eq_true, Bool.and_eq_true, Bool.or_eq_false_iff, Bool.and_eq_false_iff, toNat_pred, toNat_succ, toNat_addn, toNat_subn, decide_eq_true_eq, decide_eq_false_iff_not, Bool.not_eq_true', Bool.not_eq_false', List.length_map, Int.toNat_natCast, Int.not_lt, Int.not_le, Bool.not_eq_true, Bool.false_eq_true, Bool.true_eq_false, Bool.not_true, Bool.not_false, reduceCtorEq, beq_iff_eq, Bool.not_eq_eq_eq_not, bne_iff_ne, ne_eq, decide_not, Decidable.not_not, Classical.not_not] at h')) | (refine And.intro (a := Both _ _ _) ?_ ?_; (refine ⟨fun h => ?_, fun h => ?_⟩ <;> first | rfl | exact h | exact Bool.noConfusion h | (rw [h]; rfl) | (rw [h]; simp only [Bool.not_false, Bool.not_true, Bool.and_true]; assumption) | (simp_all; done) | fail); skip) | refine And.intro rfl ?_ | refine Two.mk ?_ ?_ | refine And.intro (allU8_bytes _) ?_ | (refine And.intro (a := (_ : Bool) = true) ?_ ?_; (first | assumption | exact decide_eq_true (by assumption) | (rw [Bool.not_eq_true']; exact decide_eq_false (by assumption)) | (rw [Bool.not_not]; exact decide_eq_true (by assumption)) | (simp_all; done) | fail); skip) | refine And.intro (Or.inr rfl) ?_ | refine And.intro (Nat.le_of_ble_eq_true rfl) ?_ | refine And.intro (decide_eq_false (by omega)) ?_ | refine And.intro (show Program.stoodInHeld _ _ = _ by kernel_rfl) (And.intro (by kernel_rfl) ?_) | refine And.intro (show Nat.beq _ _ = _ from rfl) (And.intro (by decide) ?_) | refine And.intro ⟨rfl, rfl⟩ ?_ | refine And.intro ⟨rfl, rfl, trivial⟩ ?_ | refine And.intro (Int.natCast_nonneg _) ?_ | refine Or.inl (And.intro rfl (And.intro rfl (And.intro rfl (And.intro rfl ?_)))) | refine Or.inl (And.intro rfl (And.intro rfl ?_)) | refine Or.inr (And.intro (Nat.le_of_ble_eq_true rfl) ?_) | refine Or.inl (And.intro (by unfold in64; omega) ?_) | refine And.intro (by first | omega | (simp only [dlen, true_and, and_true, Nat.le_refl, List.length_map, List.length_append, List.length_cons, List.length_nil, List.length_take, List.length_drop, List.length_replicate, Int.toNat_natCast, List.append_nil] <;> omega) | fail) ?_ | refine And.intro (allU8_bytes _) ?_ | refine And.intro (show elemsP _ _ _ by repeat' (first | exact rfl | exact trivial | constructor)) ?_ | (rw [show (n : Int) / 10 = ((n / 10 : Nat) : Int) by omega]; refine (ih (by omega) (n / 10) (by omega)).mono fun rs bs hr => ?_; subst hr) | (rw [show (n : Int) % 10 = ((n % 10 : Nat) : Int) by omega]; refine (ih (by omega) (n % 10) (by omega)).mono fun rs bs hr => ?_; subst hr) | (refine And.intro (itoaS_room hn) ?_) | (refine fun x hx => ?_; (try simp (disch := omega) only [Int.tdiv_eq_ediv_of_nonneg, Int.tmod_eq_emod_of_nonneg, bx, Bool.true_or, Bool.false_or, Bool.or_false, Bool.or_true, Bool.and_true, Bool.true_and, Bool.false_and, Bool.and_false, cond_true, cond_false, if_true, if_false, Bool.false_eq_true, min_nn, max_nn, min_ln, min_nl, max_ln, max_nl, getD_map, str_of_bytes, take_bytes, take_data, wrap_u64, wrap_u32, wrap_u8, shr_i64, shr_u64, shr_u32, shl_i64, shl_u64, Int.reduceToNat, Int.reducePow, Int.pow_succ, Int.pow_zero, Int.one_mul, Int.reduceMul, wrap_id, wrap_u8_nat, wrap_i64_u8, byteD_mk, map_snoc, map_app, set_map, take_map', drop_map', Nat.sub_zero, List.length_map, List.length_append, List.length_cons, List.length_nil, Int.toNat_natCast, List.drop_zero, List.take_succ_cons, List.take_zero, List.take_length, List.nil_append, List.append_nil, Nat.zero_add, toNat_pred, toNat_succ, toNat_addn, toNat_subn] at hx); subst hx) | rw [List.take_length] | (rw [List.take_of_length_le]; rotate_left; (first | omega | (simp only [dlen, true_and, and_true, Nat.le_refl, List.length_map, List.length_append, List.length_cons, List.length_nil, List.length_take, List.length_drop, List.length_replicate, Int.toNat_natCast, List.append_nil] <;> omega) | fail)) | refine fun h => ?_ | fail)); all_goals (try exact (AV.dead : AV)); all_goals (try (conv => whnf))
  · rw [itoaS_one (by omega)]
  · rw [itoaS_more (n := n) (by omega)]
theorem digits_con : ∀ (n : Nat), n ≤ 9223372036854775807 → Has Tryd.prog 14 [CV.d (.int .i64 n)] (fun rs _ => rs = [.d (.str (itoaS n))]) := by
  intro n
  induction n using Nat.strongRecOn with
  | _ n ih => exact fun hn => digits0_con n hn fun _ k hk => ih k hk (by omega)
theorem count_con (n : Nat) (hn : n ≤ 9223372036854775807) : Has Tryd.prog 30 [CV.d (D.int .i64 n)] (fun rs _ => rs = [CV.d (encV (false, itoaS n))]) := by
  refine Has_of_run (fn := Tryd.f30) (M := M0) fol (by kernel_rfl) 2 noPlan [] [] (by kernel_rfl) (Nat.le_of_ble_eq_true rfl) ?_
  (repeat' ((conv => whnf); first | done | (refine And.intro (fun h => ?_) (fun h => ?_) <;> (try simp only [Bool.or_eq_true, Bool.and_eq_true, Bool.or_eq_false_iff, Bool.and_eq_false_iff, toNat_pred, toNat_succ, toNat_addn, toNat_subn, decide_eq_true_eq, decide_eq_false_iff_not, Bool.not_eq_true', Bool.not_eq_false', List.length_map, Int.toNat_natCast, Int.not_lt, Int.not_le, Bool.not_eq_true, Bool.false_eq_true, Bool.true_eq_false, Bool.not_true, Bool.not_false, reduceCtorEq, beq_iff_eq, Bool.not_eq_eq_eq_not, bne_iff_ne, ne_eq, decide_not, Decidable.not_not, Classical.not_not] at h)) | exact (rfl : (_ : AV) = _) | exact (rfl : (_ : St) = _) | refine Exists.intro (α := AV) AV.dead (And.intro (fun h => Bool.noConfusion h) ?_) | apply ex_av | (refine fun (h : (_ : Bool) = true) => ?_; have h' := h; (try simp only [Bool.or_eq_true, Bool.and_eq_true, Bool.or_eq_false_iff, Bool.and_eq_false_iff, toNat_pred, toNat_succ, toNat_addn, toNat_subn, decide_eq_true_eq, decide_eq_false_iff_not, Bool.not_eq_true', Bool.not_eq_false', List.length_map, Int.toNat_natCast, Int.not_lt, Int.not_le, Bool.not_eq_true, Bool.false_eq_true, Bool.true_eq_false, Bool.not_true, Bool.not_false, reduceCtorEq, beq_iff_eq, Bool.not_eq_eq_eq_not, bne_iff_ne, ne_eq, decide_not, Decidable.not_not, Classical.not_not] at h')) | (refine And.intro (a := Both _ _ _) ?_ ?_; (refine ⟨fun h => ?_, fun h => ?_⟩ <;> first | rfl | exact h | exact Bool.noConfusion h | (rw [h]; rfl) | (rw [h]; simp only [Bool.not_false, Bool.not_true, Bool.and_true]; assumption) | (simp_all; done) | fail); skip) | refine And.intro rfl ?_ | refine Two.mk ?_ ?_ | refine And.intro (allU8_bytes _) ?_ | (refine And.intro (a := (_ : Bool) = true) ?_ ?_; (first | assumption | exact decide_eq_true (by assumption) | (rw [Bool.not_eq_true']; exact decide_eq_false (by assumption)) | (rw [Bool.not_not]; exact decide_eq_true (by assumption)) | (simp_all; done) | fail); skip) | refine And.intro (Or.inr rfl) ?_ | refine And.intro (Nat.le_of_ble_eq_true rfl) ?_ | refine And.intro (decide_eq_false (by omega)) ?_ | refine And.intro (show Program.stoodInHeld _ _ = _ by kernel_rfl) (And.intro (by kernel_rfl) ?_) | refine And.intro (show Nat.beq _ _ = _ from rfl) (And.intro (by decide) ?_) | refine And.intro ⟨rfl, rfl⟩ ?_ | refine And.intro ⟨rfl, rfl, trivial⟩ ?_ | refine And.intro (Int.natCast_nonneg _) ?_ | refine Or.inl (And.intro rfl (And.intro rfl (And.intro rfl (And.intro rfl ?_)))) | refine Or.inl (And.intro rfl (And.intro rfl ?_)) | refine Or.inr (And.intro (Nat.le_of_ble_eq_true rfl) ?_) | refine Or.inl (And.intro (by unfold in64; omega) ?_) | refine And.intro (by first | omega | (simp only [dlen, true_and, and_true, Nat.le_refl, List.length_map, List.length_append, List.length_cons, List.length_nil, List.length_take, List.length_drop, List.length_replicate, Int.toNat_natCast, List.append_nil] <;> omega) | fail) ?_ | refine And.intro (allU8_bytes _) ?_ | refine And.intro (show elemsP _ _ _ by repeat' (first | exact rfl | exact trivial | constructor)) ?_ | (refine (itoa_con _ hn).mono fun rs bs hr => ?_; subst hr) | (refine fun x hx => ?_; (try simp (disch := omega) only [Int.tdiv_eq_ediv_of_nonneg, Int.tmod_eq_emod_of_nonneg, bx, Bool.true_or, Bool.false_or, Bool.or_false, Bool.or_true, Bool.and_true, Bool.true_and, Bool.false_and, Bool.and_false, cond_true, cond_false, if_true, if_false, Bool.false_eq_true, min_nn, max_nn, min_ln, min_nl, max_ln, max_nl, getD_map, str_of_bytes, take_bytes, take_data, wrap_u64, wrap_u32, wrap_u8, shr_i64, shr_u64, shr_u32, shl_i64, shl_u64, Int.reduceToNat, Int.reducePow, Int.pow_succ, Int.pow_zero, Int.one_mul, Int.reduceMul, wrap_id, wrap_u8_nat, wrap_i64_u8, byteD_mk, map_snoc, map_app, set_map, take_map', drop_map', Nat.sub_zero, List.length_map, List.length_append, List.length_cons, List.length_nil, Int.toNat_natCast, List.drop_zero, List.take_succ_cons, List.take_zero, List.take_length, List.nil_append, List.append_nil, Nat.zero_add, toNat_pred, toNat_succ, toNat_addn, toNat_subn] at hx); subst hx) | rw [List.take_length] | (rw [List.take_of_length_le]; rotate_left; (first | omega | (simp only [dlen, true_and, and_true, Nat.le_refl, List.length_map, List.length_append, List.length_cons, List.length_nil, List.length_take, List.length_drop, List.length_replicate, Int.toNat_natCast, List.append_nil] <;> omega) | fail)) | refine fun h => ?_ | fail)); all_goals (try exact (AV.dead : AV)); all_goals (try (conv => whnf))
  rfl
theorem present_con (rows : List Rw) (c : Int) (hc : ∀ r ∈ rows, 0 ≤ c ∧ c < r.length) (hl : rows.length ≤ 1000000) : Has Tryd.prog 31 [CV.d (D.sl 1 (rows.map encRow)), CV.d (D.int .i64 c)] (fun rs _ => rs = [CV.own 9 1 ((presS rows c).map D.str)] ) := by
  have hb9 : Tryd.prog.bytesOf 9 = 16 := by kernel_rfl
  refine Has_of_run (fn := Tryd.f31) (M := M0) fol (by kernel_rfl) 8 noPlan [.own] [] (by kernel_rfl) (Nat.le_of_ble_eq_true rfl) ?_
  (repeat' ((conv => whnf); first | done | (refine And.intro (fun h => ?_) (fun h => ?_) <;> (try simp only [Bool.or_eq_true, Bool.and_eq_true, Bool.or_eq_false_iff, Bool.and_eq_false_iff, toNat_pred, toNat_succ, toNat_addn, toNat_subn, decide_eq_true_eq, decide_eq_false_iff_not, Bool.not_eq_true', Bool.not_eq_false', List.length_map, Int.toNat_natCast, Int.not_lt, Int.not_le, Bool.not_eq_true, Bool.false_eq_true, Bool.true_eq_false, Bool.not_true, Bool.not_false, reduceCtorEq, beq_iff_eq, Bool.not_eq_eq_eq_not, bne_iff_ne, ne_eq, decide_not, Decidable.not_not, Classical.not_not] at h)) | exact (rfl : (_ : AV) = _) | exact (rfl : (_ : St) = _) | refine Exists.intro (α := AV) AV.dead (And.intro (fun h => Bool.noConfusion h) ?_) | apply ex_av | (refine fun (h : (_ : Bool) = true) => ?_; have h' := h; (try simp only [Bool.or_eq_true, Bool.and_eq_true, Bool.or_eq_false_iff, Bool.and_eq_false_iff, toNat_pred, toNat_succ, toNat_addn, toNat_subn, decide_eq_true_eq, decide_eq_false_iff_not, Bool.not_eq_true', Bool.not_eq_false', List.length_map, Int.toNat_natCast, Int.not_lt, Int.not_le, Bool.not_eq_true, Bool.false_eq_true, Bool.true_eq_false, Bool.not_true, Bool.not_false, reduceCtorEq, beq_iff_eq, Bool.not_eq_eq_eq_not, bne_iff_ne, ne_eq, decide_not, Decidable.not_not, Classical.not_not] at h')) | (refine And.intro (a := Both _ _ _) ?_ ?_; (refine ⟨fun h => ?_, fun h => ?_⟩ <;> first | rfl | exact h | exact Bool.noConfusion h | (rw [h]; rfl) | (rw [h]; simp only [Bool.not_false, Bool.not_true, Bool.and_true]; assumption) | (simp_all; done) | fail); skip) | refine And.intro rfl ?_ | refine Two.mk ?_ ?_ | refine And.intro (allU8_bytes _) ?_ | (refine And.intro (a := (_ : Bool) = true) ?_ ?_; (first | assumption | exact decide_eq_true (by assumption) | (rw [Bool.not_eq_true']; exact decide_eq_false (by assumption)) | (rw [Bool.not_not]; exact decide_eq_true (by assumption)) | (simp_all; done) | fail); skip) | refine And.intro (Or.inr rfl) ?_ | refine And.intro (Nat.le_of_ble_eq_true rfl) ?_ | refine And.intro (decide_eq_false (by omega)) ?_ | refine And.intro (show Program.stoodInHeld _ _ = _ by kernel_rfl) (And.intro (by kernel_rfl) ?_) | refine And.intro (show Nat.beq _ _ = _ from rfl) (And.intro (by decide) ?_) | refine And.intro ⟨rfl, rfl⟩ ?_ | refine And.intro ⟨rfl, rfl, trivial⟩ ?_ | refine And.intro (Int.natCast_nonneg _) ?_ | refine Or.inl (And.intro rfl (And.intro rfl (And.intro rfl (And.intro rfl ?_)))) | refine Or.inl (And.intro rfl (And.intro rfl ?_)) | refine Or.inr (And.intro (Nat.le_of_ble_eq_true rfl) ?_) | refine Or.inl (And.intro (by unfold in64; omega) ?_) | refine And.intro (by first | omega | (simp only [dlen, true_and, and_true, Nat.le_refl, List.length_map, List.length_append, List.length_cons, List.length_nil, List.length_take, List.length_drop, List.length_replicate, Int.toNat_natCast, List.append_nil, hb9] <;> omega) | fail) ?_ | refine And.intro (allU8_bytes _) ?_ | refine And.intro (show elemsP _ _ _ by repeat' (first | exact rfl | exact trivial | constructor)) ?_ | (refine Loops.by (M := M0) 8 noPlan fol (by kernel_rfl) (ι := Nat) (fun i => ⟨[(1, AV.d (D.int .i64 c)), (5, AV.ref [5] 16 1 0 ((presS (rows.take i) c).map D.str).length), (8, AV.d (D.sl 1 (rows.map encRow))), (9, AV.d (D.int .i64 rows.length)), (10, AV.d (D.int .i64 i))], [([5], 16, AO.row 9 1 ((presS (rows.take i) c).map D.str))], 17⟩) (fun i => i ≤ rows.length) (fun i => rows.length - i) (fun i hI => ?_) (0) (Nat.zero_le _) (Forget.mk' ⟨⟨rfl, rfl⟩, ⟨rfl, rfl⟩, ⟨rfl, rfl⟩, ⟨rfl, rfl⟩, ⟨rfl, rfl⟩, trivial⟩ ⟨⟨rfl, rfl, rfl⟩, trivial⟩ rfl rfl); have hi := hI; have hci : (i : Int) < rows.length → 0 ≤ c ∧ c < (rows.getD i default).length := (fun h => hc _ (getD_mem (by omega))); have hpl := presS_take_len rows c i) | (refine fun x hx => ?_; (try simp (disch := omega) only [Int.tdiv_eq_ediv_of_nonneg, Int.tmod_eq_emod_of_nonneg, bx, Bool.true_or, Bool.false_or, Bool.or_false, Bool.or_true, Bool.and_true, Bool.true_and, Bool.false_and, Bool.and_false, cond_true, cond_false, if_true, if_false, Bool.false_eq_true, min_nn, max_nn, min_ln, min_nl, max_ln, max_nl, getD_map, str_of_bytes, take_bytes, take_data, wrap_u64, wrap_u32, wrap_u8, shr_i64, shr_u64, shr_u32, shl_i64, shl_u64, Int.reduceToNat, Int.reducePow, Int.pow_succ, Int.pow_zero, Int.one_mul, Int.reduceMul, wrap_id, wrap_u8_nat, wrap_i64_u8, byteD_mk, map_snoc, map_app, set_map, take_map', drop_map', Nat.sub_zero, List.length_map, List.length_append, List.length_cons, List.length_nil, Int.toNat_natCast, List.drop_zero, List.take_succ_cons, List.take_zero, List.take_length, List.nil_append, List.append_nil, Nat.zero_add, toNat_pred, toNat_succ, toNat_addn, toNat_subn] at hx); subst hx) | rw [List.take_length] | (rw [List.take_of_length_le]; rotate_left; (first | omega | (simp only [dlen, true_and, and_true, Nat.le_refl, List.length_map, List.length_append, List.length_cons, List.length_nil, List.length_take, List.length_drop, List.length_replicate, Int.toNat_natCast, List.append_nil, hb9] <;> omega) | fail)) | refine fun h => ?_ | fail)); all_goals (try exact (AV.dead : AV)); all_goals (try (conv => whnf))
  · refine ⟨i + 1, ⟨by omega, by omega⟩, ?_⟩
    rw [← presS_yes (by omega) h, List.map_append]
    exact (Forget.mk' ⟨⟨rfl, rfl⟩, ⟨rfl, rfl⟩, ⟨rfl, rfl⟩, ⟨rfl, rfl⟩, ⟨rfl, rfl⟩, trivial⟩ ⟨⟨rfl, rfl, rfl⟩, trivial⟩ rfl rfl)
  · refine ⟨i + 1, ⟨by omega, by omega⟩, ?_⟩
    rw [presS_no (by omega) h]
    exact (Forget.mk' ⟨⟨rfl, rfl⟩, ⟨rfl, rfl⟩, ⟨rfl, rfl⟩, ⟨rfl, rfl⟩, ⟨rfl, rfl⟩, trivial⟩ ⟨⟨rfl, rfl, rfl⟩, trivial⟩ rfl rfl)
def M19 : FuncId → List Mode := fun g => if g = 32 then [.own] else if g = 33 then [.own] else if g = 34 then [.own] else if g = 35 then [.own] else []
theorem one_con (rows : List Rw) (a : Ag) (hc : ¬ a.1 = 1 → ∀ r ∈ rows, 0 ≤ a.2 ∧ a.2 < r.length) (hl : rows.length ≤ 1000000) : Has Tryd.prog 19 [CV.d (D.sl 1 (rows.map encRow)), CV.d (encA a)] (fun rs _ => rs = [CV.d (encV (oneS rows a))] ) := by
  have hpl := presS_len rows a.2; have htl := tidy_len (presS rows a.2)
  refine Has_of_run (fn := Tryd.f19) (M := M19) fol (by kernel_rfl) 3 noPlan [] [] (by kernel_rfl) (Nat.le_of_ble_eq_true rfl) ?_
  (repeat' ((conv => whnf); first | done | (refine And.intro (fun h => ?_) (fun h => ?_) <;> (try simp only [Bool.or_eq_true, Bool.and_eq_true, Bool.or_eq_false_iff, Bool.and_eq_false_iff, toNat_pred, toNat_succ, toNat_addn, toNat_subn, decide_eq_true_eq, decide_eq_false_iff_not, Bool.not_eq_true', Bool.not_eq_false', List.length_map, Int.toNat_natCast, Int.not_lt, Int.not_le, Bool.not_eq_true, Bool.false_eq_true, Bool.true_eq_false, Bool.not_true, Bool.not_false, reduceCtorEq, beq_iff_eq, Bool.not_eq_eq_eq_not, bne_iff_ne, ne_eq, decide_not, Decidable.not_not, Classical.not_not, sortS_len] at h)) | exact (rfl : (_ : AV) = _) | exact (rfl : (_ : St) = _) | refine Exists.intro (α := AV) AV.dead (And.intro (fun h => Bool.noConfusion h) ?_) | apply ex_av | (refine fun (h : (_ : Bool) = true) => ?_; have h' := h; (try simp only [Bool.or_eq_true, Bool.and_eq_true, Bool.or_eq_false_iff, Bool.and_eq_false_iff, toNat_pred, toNat_succ, toNat_addn, toNat_subn, decide_eq_true_eq, decide_eq_false_iff_not, Bool.not_eq_true', Bool.not_eq_false', List.length_map, Int.toNat_natCast, Int.not_lt, Int.not_le, Bool.not_eq_true, Bool.false_eq_true, Bool.true_eq_false, Bool.not_true, Bool.not_false, reduceCtorEq, beq_iff_eq, Bool.not_eq_eq_eq_not, bne_iff_ne, ne_eq, decide_not, Decidable.not_not, Classical.not_not, sortS_len] at h')) | (refine And.intro (a := Both _ _ _) ?_ ?_; (refine ⟨fun h => ?_, fun h => ?_⟩ <;> first | rfl | exact h | exact Bool.noConfusion h | (rw [h]; rfl) | (rw [h]; simp only [Bool.not_false, Bool.not_true, Bool.and_true]; assumption) | (simp_all; done) | fail); skip) | refine And.intro rfl ?_ | refine Two.mk ?_ ?_ | refine And.intro (allU8_bytes _) ?_ | (refine And.intro (a := (_ : Bool) = true) ?_ ?_; (first | assumption | exact decide_eq_true (by assumption) | (rw [Bool.not_eq_true']; exact decide_eq_false (by assumption)) | (rw [Bool.not_not]; exact decide_eq_true (by assumption)) | (simp_all; done) | fail); skip) | refine And.intro (Or.inr rfl) ?_ | refine And.intro (Nat.le_of_ble_eq_true rfl) ?_ | refine And.intro (decide_eq_false (by omega)) ?_ | refine And.intro (show Program.stoodInHeld _ _ = _ by kernel_rfl) (And.intro (by kernel_rfl) ?_) | refine And.intro (show Nat.beq _ _ = _ from rfl) (And.intro (by decide) ?_) | refine And.intro ⟨rfl, rfl⟩ ?_ | refine And.intro ⟨rfl, rfl, trivial⟩ ?_ | refine And.intro (Int.natCast_nonneg _) ?_ | refine Or.inl (And.intro rfl (And.intro rfl (And.intro rfl (And.intro rfl ?_)))) | refine Or.inl (And.intro rfl (And.intro rfl ?_)) | refine Or.inr (And.intro (Nat.le_of_ble_eq_true rfl) ?_) | refine Or.inl (And.intro (by unfold in64; omega) ?_) | refine And.intro (by first | omega | (simp only [dlen, true_and, and_true, Nat.le_refl, List.length_map, List.length_append, List.length_cons, List.length_nil, List.length_take, List.length_drop, List.length_replicate, Int.toNat_natCast, List.append_nil, sortS_len] <;> omega) | fail) ?_ | refine And.intro (allU8_bytes _) ?_ | refine And.intro (show elemsP _ _ _ by repeat' (first | exact rfl | exact trivial | constructor)) ?_ | (refine (count_con _ (by omega)).mono fun rs bs hr => ?_; subst hr) | (refine (count_con (tidy (presS rows a.2)).length (by omega)).mono fun rs bs hr => ?_; subst hr) | (refine (present_con rows a.2 (hc (by omega)) hl).mono fun rs bs hr => ?_; subst hr) | (refine (sort_con _ _ (by omega)).mono fun rs bs hr => ?_; obtain ⟨rfl, rfl⟩ := hr) | (refine (compact_con _ _).mono fun rs bs hr => ?_; obtain ⟨rfl, rfl⟩ := hr) | (refine (min_con _ _ (by omega)).mono fun rs bs hr => ?_; obtain ⟨rfl, rfl⟩ := hr) | (refine (max_con _ _ (by omega)).mono fun rs bs hr => ?_; obtain ⟨rfl, rfl⟩ := hr) | (refine fun x hx => ?_; (try simp (disch := omega) only [Int.tdiv_eq_ediv_of_nonneg, Int.tmod_eq_emod_of_nonneg, bx, Bool.true_or, Bool.false_or, Bool.or_false, Bool.or_true, Bool.and_true, Bool.true_and, Bool.false_and, Bool.and_false, cond_true, cond_false, if_true, if_false, Bool.false_eq_true, min_nn, max_nn, min_ln, min_nl, max_ln, max_nl, getD_map, str_of_bytes, take_bytes, take_data, wrap_u64, wrap_u32, wrap_u8, shr_i64, shr_u64, shr_u32, shl_i64, shl_u64, Int.reduceToNat, Int.reducePow, Int.pow_succ, Int.pow_zero, Int.one_mul, Int.reduceMul, wrap_id, wrap_u8_nat, wrap_i64_u8, byteD_mk, map_snoc, map_app, set_map, take_map', drop_map', Nat.sub_zero, List.length_map, List.length_append, List.length_cons, List.length_nil, Int.toNat_natCast, List.drop_zero, List.take_succ_cons, List.take_zero, List.take_length, List.nil_append, List.append_nil, Nat.zero_add, toNat_pred, toNat_succ, toNat_addn, toNat_subn, sortS_len] at hx); subst hx) | rw [List.take_length] | (rw [List.take_of_length_le]; rotate_left; (first | omega | (simp only [dlen, true_and, and_true, Nat.le_refl, List.length_map, List.length_append, List.length_cons, List.length_nil, List.length_take, List.length_drop, List.length_replicate, Int.toNat_natCast, List.append_nil, sortS_len] <;> omega) | fail)) | refine fun h => ?_ | fail)); all_goals (try exact (AV.dead : AV)); all_goals (try (conv => whnf))
  all_goals unfold oneS
  all_goals repeat (first | rw [if_pos (by omega)] | rw [if_neg (by omega)])
  all_goals rfl
def pl37 : Nat → Plan
  | 4 => tks 0 [0, 0, 0, 0, 0, 0, 0] (.done)
  | 6 => tks 0 [0, 0, 0, 0, 0, 0, 0] (.done)
  | _ => .done
theorem compare_con (a b : ByteArray) (ha : a.size ≤ 9223372036854775807) (hb : b.size ≤ 9223372036854775807) : Has Tryd.prog 37 [CV.d (D.str a), CV.d (D.str b)] (fun rs _ => rs = [CV.d (D.int .i64 (cmpS a b))]) := by
  refine Has_of_run (fn := Tryd.f37) (M := M0) fol (by kernel_rfl) 6 pl37 [] [] (by kernel_rfl) (Nat.le_of_ble_eq_true rfl) ?_
  (repeat' ((conv => whnf); first | done | (refine And.intro (fun h => ?_) (fun h => ?_) <;> (try simp only [Bool.or_eq_true, Bool.and_eq_true, Bool.or_eq_false_iff, Bool.and_eq_false_iff, toNat_pred, toNat_succ, toNat_addn, toNat_subn, decide_eq_true_eq, decide_eq_false_iff_not, Bool.not_eq_true', Bool.not_eq_false', List.length_map, Int.toNat_natCast, Int.not_lt, Int.not_le, Bool.not_eq_true, Bool.false_eq_true, Bool.true_eq_false, Bool.not_true, Bool.not_false, reduceCtorEq, beq_iff_eq, Bool.not_eq_eq_eq_not, bne_iff_ne, ne_eq, decide_not, Decidable.not_not, Classical.not_not] at h)) | exact (rfl : (_ : AV) = _) | exact (rfl : (_ : St) = _) | refine Exists.intro (α := AV) AV.dead (And.intro (fun h => Bool.noConfusion h) ?_) | apply ex_av | (refine fun (h : (_ : Bool) = true) => ?_; have h' := h; (try simp only [Bool.or_eq_true, Bool.and_eq_true, Bool.or_eq_false_iff, Bool.and_eq_false_iff, toNat_pred, toNat_succ, toNat_addn, toNat_subn, decide_eq_true_eq, decide_eq_false_iff_not, Bool.not_eq_true', Bool.not_eq_false', List.length_map, Int.toNat_natCast, Int.not_lt, Int.not_le, Bool.not_eq_true, Bool.false_eq_true, Bool.true_eq_false, Bool.not_true, Bool.not_false, reduceCtorEq, beq_iff_eq, Bool.not_eq_eq_eq_not, bne_iff_ne, ne_eq, decide_not, Decidable.not_not, Classical.not_not] at h')) | (refine And.intro (a := Both _ _ _) ?_ ?_; (refine ⟨fun h => ?_, fun h => ?_⟩ <;> first | rfl | exact h | exact Bool.noConfusion h | (rw [h]; rfl) | (rw [h]; simp only [Bool.not_false, Bool.not_true, Bool.and_true]; assumption) | (simp_all; done) | fail); skip) | refine And.intro rfl ?_ | refine Two.mk ?_ ?_ | refine And.intro (allU8_bytes _) ?_ | (refine And.intro (a := (_ : Bool) = true) ?_ ?_; (first | assumption | exact decide_eq_true (by assumption) | (rw [Bool.not_eq_true']; exact decide_eq_false (by assumption)) | (rw [Bool.not_not]; exact decide_eq_true (by assumption)) | (simp_all; done) | fail); skip) | refine And.intro (Or.inr rfl) ?_ | refine And.intro (Nat.le_of_ble_eq_true rfl) ?_ | refine And.intro (decide_eq_false (by omega)) ?_ | refine And.intro (show Program.stoodInHeld _ _ = _ by kernel_rfl) (And.intro (by kernel_rfl) ?_) | refine And.intro (show Nat.beq _ _ = _ from rfl) (And.intro (by decide) ?_) | refine And.intro ⟨rfl, rfl⟩ ?_ | refine And.intro ⟨rfl, rfl, trivial⟩ ?_ | refine And.intro (Int.natCast_nonneg _) ?_ | refine Or.inl (And.intro rfl (And.intro rfl (And.intro rfl (And.intro rfl ?_)))) | refine Or.inl (And.intro rfl (And.intro rfl ?_)) | refine Or.inr (And.intro (Nat.le_of_ble_eq_true rfl) ?_) | refine Or.inl (And.intro (by unfold in64; omega) ?_) | refine And.intro (by first | omega | (simp only [dlen, true_and, and_true, Nat.le_refl, List.length_map, List.length_append, List.length_cons, List.length_nil, List.length_take, List.length_drop, List.length_replicate, Int.toNat_natCast, List.append_nil] <;> omega) | fail) ?_ | refine And.intro (allU8_bytes _) ?_ | refine And.intro (show elemsP _ _ _ by repeat' (first | exact rfl | exact trivial | constructor)) ?_ | (refine Loops.by (M := M0) 6 pl37 fol (by kernel_rfl) (ι := Nat) (fun i => ⟨[(0, AV.d (D.str a)), (1, AV.d (D.str b)), (5, AV.d (D.int .i64 i))], [], 16⟩) (fun i => i ≤ a.size ∧ i ≤ b.size ∧ ∀ j, j < i → bAt a j = bAt b j) (fun i => a.size - i) (fun i hI => ?_) (0) ⟨Nat.zero_le _, Nat.zero_le _, fun j h => absurd h (Nat.not_lt_zero _)⟩ (Forget.mk' ⟨⟨rfl, rfl⟩, ⟨rfl, rfl⟩, ⟨rfl, rfl⟩, trivial⟩ trivial rfl rfl); obtain ⟨hia, hib, heq⟩ := hI) | (refine fun x hx => ?_; (try simp (disch := omega) only [Int.tdiv_eq_ediv_of_nonneg, Int.tmod_eq_emod_of_nonneg, bx, Bool.true_or, Bool.false_or, Bool.or_false, Bool.or_true, Bool.and_true, Bool.true_and, Bool.false_and, Bool.and_false, cond_true, cond_false, if_true, if_false, Bool.false_eq_true, min_nn, max_nn, min_ln, min_nl, max_ln, max_nl, getD_map, str_of_bytes, take_bytes, take_data, wrap_u64, wrap_u32, wrap_u8, shr_i64, shr_u64, shr_u32, shl_i64, shl_u64, Int.reduceToNat, Int.reducePow, Int.pow_succ, Int.pow_zero, Int.one_mul, Int.reduceMul, wrap_id, wrap_u8_nat, wrap_i64_u8, byteD_mk, map_snoc, map_app, set_map, take_map', drop_map', Nat.sub_zero, List.length_map, List.length_append, List.length_cons, List.length_nil, Int.toNat_natCast, List.drop_zero, List.take_succ_cons, List.take_zero, List.take_length, List.nil_append, List.append_nil, Nat.zero_add, toNat_pred, toNat_succ, toNat_addn, toNat_subn] at hx); subst hx) | rw [List.take_length] | (rw [List.take_of_length_le]; rotate_left; (first | omega | (simp only [dlen, true_and, and_true, Nat.le_refl, List.length_map, List.length_append, List.length_cons, List.length_nil, List.length_take, List.length_drop, List.length_replicate, Int.toNat_natCast, List.append_nil] <;> omega) | fail)) | refine fun h => ?_ | fail)); all_goals (try exact (AV.dead : AV)); all_goals (try (conv => whnf))
  · exact ri (cmp_at heq (by omega) (by omega) (by assumption)).1.symm
  · exact ri (cmp_at (fun j hj => (heq j hj).symm) (by omega) (by omega) (by assumption)).2.symm
  · exact ⟨i + 1, ⟨⟨by omega, by omega, upto_succ heq (by omega)⟩, by omega⟩, (Forget.mk' ⟨⟨rfl, rfl⟩, ⟨rfl, rfl⟩, ⟨rfl, rfl⟩, trivial⟩ trivial rfl rfl)⟩
  all_goals refine ri ?_
  all_goals first | omega | (rw [cmp_end heq (by omega)]; repeat (first | rw [if_pos (by omega)] | rw [if_neg (by omega)]))
def pl36 : Nat → Plan
  | 6 => tks 0 [0, 0, 0, 0, 0, 0, 0, 0, 1, 0, 0, 0, 1] (.one 13 (tks 14 [0, 0] (.done)))
  | 8 => tks 0 [0, 0, 0, 0, 0, 0, 0, 0, 1, 0, 0, 0, 1, 0, 0] (.done)
  | 9 => tks 1 [0, 0, 0] (tks 5 [0, 0, 0] (tks 11 [0, 0, 0] (.two 0 (.two 4 (.tak 8 .rd [9, 10, 14, 15] (.one 9 (.one 10 (.one 14 (.one 15 (.done)))))) 8 (.two 4 (.one 9 (.one 10 (.one 14 (.one 15 (.done))))) 9 (.one 4 (.one 10 (.one 14 (.one 15 (.done))))))) 8 (.two 0 (.two 4 (.one 9 (.one 10 (.one 14 (.one 15 (.done))))) 9 (.one 4 (.one 10 (.one 14 (.one 15 (.done)))))) 9 (.one 0 (.one 4 (.one 10 (.one 14 (.one 15 (.done))))))))))
  | _ => .done
theorem sorted_con (l : List ByteArray) (hl : l.length ≤ 1000) (hz : ∀ j, j < l.length → (l.getD j default).size ≤ 1000000) : Has Tryd.prog 36 [CV.d (D.sl 1 (l.map D.str))] (fun rs _ => rs = [CV.own 9 1 ((tidy l).map D.str)] ) := by
  have hb9 : Tryd.prog.bytesOf 9 = 16 := by kernel_rfl
  refine Has_of_run (fn := Tryd.f36) (M := M0) fol (by kernel_rfl) 6 pl36 [.own] [] (by kernel_rfl) (Nat.le_of_ble_eq_true rfl) ?_
  (repeat' ((conv => whnf); first | done | (refine And.intro (fun h => ?_) (fun h => ?_) <;> (try simp only [Bool.or_eq_true, Bool.and_eq_true, Bool.or_eq_false_iff, Bool.and_eq_false_iff, toNat_pred, toNat_succ, toNat_addn, toNat_subn, decide_eq_true_eq, decide_eq_false_iff_not, Bool.not_eq_true', Bool.not_eq_false', List.length_map, Int.toNat_natCast, Int.not_lt, Int.not_le, Bool.not_eq_true, Bool.false_eq_true, Bool.true_eq_false, Bool.not_true, Bool.not_false, reduceCtorEq, beq_iff_eq, Bool.not_eq_eq_eq_not, bne_iff_ne, ne_eq, decide_not, Decidable.not_not, Classical.not_not] at h)) | exact (rfl : (_ : AV) = _) | exact (rfl : (_ : St) = _) | refine Exists.intro (α := AV) AV.dead (And.intro (fun h => Bool.noConfusion h) ?_) | apply ex_av | (refine fun (h : (_ : Bool) = true) => ?_; have h' := h; (try simp only [Bool.or_eq_true, Bool.and_eq_true, Bool.or_eq_false_iff, Bool.and_eq_false_iff, toNat_pred, toNat_succ, toNat_addn, toNat_subn, decide_eq_true_eq, decide_eq_false_iff_not, Bool.not_eq_true', Bool.not_eq_false', List.length_map, Int.toNat_natCast, Int.not_lt, Int.not_le, Bool.not_eq_true, Bool.false_eq_true, Bool.true_eq_false, Bool.not_true, Bool.not_false, reduceCtorEq, beq_iff_eq, Bool.not_eq_eq_eq_not, bne_iff_ne, ne_eq, decide_not, Decidable.not_not, Classical.not_not] at h')) | (refine And.intro (a := Both _ _ _) ?_ ?_; (refine ⟨fun h => ?_, fun h => ?_⟩ <;> first | rfl | exact h | exact Bool.noConfusion h | (rw [h]; rfl) | (rw [h]; simp only [Bool.not_false, Bool.not_true, Bool.and_true]; assumption) | (simp_all; done) | fail); skip) | refine And.intro rfl ?_ | refine Two.mk ?_ ?_ | refine And.intro (allU8_bytes _) ?_ | (refine And.intro (a := (_ : Bool) = true) ?_ ?_; (first | assumption | exact decide_eq_true (by assumption) | (rw [Bool.not_eq_true']; exact decide_eq_false (by assumption)) | (rw [Bool.not_not]; exact decide_eq_true (by assumption)) | (simp_all; done) | fail); skip) | refine And.intro (Or.inr rfl) ?_ | refine And.intro (Nat.le_of_ble_eq_true rfl) ?_ | refine And.intro (decide_eq_false (by omega)) ?_ | refine And.intro (show Program.stoodInHeld _ _ = _ by kernel_rfl) (And.intro (by kernel_rfl) ?_) | refine And.intro (show Nat.beq _ _ = _ from rfl) (And.intro (by decide) ?_) | refine And.intro ⟨rfl, rfl⟩ ?_ | refine And.intro ⟨rfl, rfl, trivial⟩ ?_ | refine And.intro (Int.natCast_nonneg _) ?_ | refine Or.inl (And.intro rfl (And.intro rfl (And.intro rfl (And.intro rfl ?_)))) | refine Or.inl (And.intro rfl (And.intro rfl ?_)) | refine Or.inr (And.intro (Nat.le_of_ble_eq_true rfl) ?_) | refine Or.inl (And.intro (by unfold in64; omega) ?_) | refine And.intro (by first | omega | (simp only [dlen, true_and, and_true, Nat.le_refl, List.length_map, List.length_append, List.length_cons, List.length_nil, List.length_take, List.length_drop, List.length_replicate, Int.toNat_natCast, List.append_nil, hb9] <;> omega) | fail) ?_ | refine And.intro (allU8_bytes _) ?_ | refine And.intro (show elemsP _ _ _ by repeat' (first | exact rfl | exact trivial | constructor)) ?_ | (refine (compare_con _ _ (by have := hzo k (by omega); omega) (by have := hz i (by omega); omega)).mono fun rs bs hr => ?_; subst hr) | (refine Loops.by (M := M0) 6 pl36 fol (by kernel_rfl) (ι := Nat × List ByteArray) (fun ⟨i, o⟩ => ⟨[(0, AV.d (D.sl 1 (l.map D.str))), (3, AV.ref [3] 16 1 0 (o.map D.str).length), (4, AV.d (D.int .i64 i))], [([3], 16, AO.row 9 1 (o.map D.str))], 17⟩) (fun ⟨i, o⟩ => i ≤ l.length ∧ Rises o ∧ o.length ≤ i ∧ ∀ s, s ∈ o ↔ s ∈ l.take i) (fun ⟨i, o⟩ => l.length - i) (fun p hI => ?_) ((0, [])) ⟨Nat.zero_le _, rises_iff.2 List.Pairwise.nil, Nat.le_refl _, by simp⟩ (Forget.mk' ⟨⟨rfl, rfl⟩, ⟨rfl, rfl⟩, ⟨rfl, rfl⟩, trivial⟩ ⟨⟨rfl, rfl, rfl⟩, trivial⟩ rfl rfl); obtain ⟨i, o⟩ := p; obtain ⟨hi, hr, hol, hm⟩ := hI; have hzo := sizes_getD (fun s hs => sizes_mem hz s (List.mem_of_mem_take ((hm s).1 hs)))) | (refine Loops.by (M := M0) 6 pl36 fol (by kernel_rfl) (ι := Nat) (fun k => ⟨[(0, AV.d (D.sl 1 (l.map D.str))), (3, AV.ref [3] 16 1 0 (o.map D.str).length), (4, AV.d (D.int .i64 i)), (5, AV.d (D.int .i64 k))], [([3], 16, AO.row 9 1 (o.map D.str))], 17⟩) (fun k => k ≤ o.length ∧ ∀ j, j < k → slt (o.getD j default) (l.getD i default) = true) (fun k => o.length - k) (fun k hI => ?_) (0) ⟨Nat.zero_le _, fun j h => absurd h (Nat.not_lt_zero _)⟩ (Forget.mk' ⟨⟨rfl, rfl⟩, ⟨rfl, rfl⟩, ⟨rfl, rfl⟩, ⟨rfl, rfl⟩, trivial⟩ ⟨⟨rfl, rfl, rfl⟩, trivial⟩ rfl rfl); obtain ⟨hk, hlt⟩ := hI) | (refine fun x hx => ?_; (try simp (disch := omega) only [Int.tdiv_eq_ediv_of_nonneg, Int.tmod_eq_emod_of_nonneg, bx, Bool.true_or, Bool.false_or, Bool.or_false, Bool.or_true, Bool.and_true, Bool.true_and, Bool.false_and, Bool.and_false, cond_true, cond_false, if_true, if_false, Bool.false_eq_true, min_nn, max_nn, min_ln, min_nl, max_ln, max_nl, getD_map, str_of_bytes, take_bytes, take_data, wrap_u64, wrap_u32, wrap_u8, shr_i64, shr_u64, shr_u32, shl_i64, shl_u64, Int.reduceToNat, Int.reducePow, Int.pow_succ, Int.pow_zero, Int.one_mul, Int.reduceMul, wrap_id, wrap_u8_nat, wrap_i64_u8, byteD_mk, map_snoc, map_app, set_map, take_map', drop_map', Nat.sub_zero, List.length_map, List.length_append, List.length_cons, List.length_nil, Int.toNat_natCast, List.drop_zero, List.take_succ_cons, List.take_zero, List.take_length, List.nil_append, List.append_nil, Nat.zero_add, toNat_pred, toNat_succ, toNat_addn, toNat_subn] at hx); subst hx) | rw [List.take_length] | (rw [List.take_of_length_le]; rotate_left; (first | omega | (simp only [dlen, true_and, and_true, Nat.le_refl, List.length_map, List.length_append, List.length_cons, List.length_nil, List.length_take, List.length_drop, List.length_replicate, Int.toNat_natCast, List.append_nil, hb9] <;> omega) | fail)) | refine fun h => ?_ | fail)); all_goals (try exact (AV.dead : AV)); all_goals (try (conv => whnf))
  all_goals first
    | exact ⟨k + 1, ⟨⟨by omega, upto_succ hlt (cmp_lt (by omega))⟩, by omega⟩, (Forget.mk' ⟨⟨rfl, rfl⟩, ⟨rfl, rfl⟩, ⟨rfl, rfl⟩, ⟨rfl, rfl⟩, trivial⟩ ⟨⟨rfl, rfl, rfl⟩, trivial⟩ rfl rfl)⟩
    | exact ⟨(i + 1, o), ⟨put_same (by assumption) hr hol hm (by assumption), by show l.length - (i + 1) < l.length - i; omega⟩, (Forget.mk' ⟨⟨rfl, rfl⟩, ⟨rfl, rfl⟩, ⟨rfl, rfl⟩, trivial⟩ ⟨⟨rfl, rfl, rfl⟩, trivial⟩ rfl rfl)⟩
    | exact ⟨(i + 1, o.take k ++ [l.getD i default] ++ (o.drop k).take (o.length - k)), ⟨put_inv (by assumption) hr hol hm hk hlt (by assumption) (by assumption), by show l.length - (i + 1) < l.length - i; omega⟩, (Forget.mk' ⟨⟨rfl, rfl⟩, ⟨rfl, rfl⟩, ⟨rfl, rfl⟩, trivial⟩ ⟨⟨rfl, rfl, rfl⟩, trivial⟩ rfl rfl)⟩
    | (rw [put_all (by assumption) hr hm]; done)
    | (trace_state; fail)
end Go.Fw
namespace Go.Fw
open Go
set_option linter.unusedVariables false
set_option linter.unusedSimpArgs false
abbrev keysS (rows : List Rw) (keys : List Int) : List Rw := rows.map (ofS · keys)
 
def dsS (rows : List Rw) (keys : List Int) (i : Nat) : List Rw := if keys.length = 0 then [[]] else distK ((keysS rows keys).take i)
 
def grpS (rows : List Rw) (keys : List Int) (k : Rw) : List Rw := rows.filter fun r => sameV (ofS r keys) k
def gsS (rows : List Rw) (keys : List Int) (i : Nat) : List (List Rw) := (dsS rows keys i).map (grpS (rows.take i) keys)
theorem dsS_nodup (rows : List Rw) (keys : List Int) (i : Nat) : (dsS rows keys i).Nodup := by
  unfold dsS
  split
  · simp
  · exact (distK_spec _).1
theorem ofS_nil {row : Rw} {keys : List Int} (h : keys.length = 0) : ofS row keys = [] := by
  rw [List.eq_nil_of_length_eq_zero h]
  rfl
theorem keysS_at {rows : List Rw} {keys : List Int} {i : Nat} (h : i < rows.length) : (keysS rows keys).getD i default = ofS (rows.getD i default) keys := by
  simp [keysS, List.getD_eq_getElem?_getD, h]
theorem dsS_step {rows : List Rw} {keys : List Int} {i : Nat} (h : i < rows.length) : dsS rows keys (i + 1) = addK (dsS rows keys i) (ofS (rows.getD i default) keys) := by
  unfold dsS
  split
  · rename_i h0
    rw [ofS_nil h0]
    rfl
  · have hl : i < (keysS rows keys).length := by rw [List.length_map]; exact h
    rw [(numsK_step hl).2, keysS_at h]
theorem numsK_prefix (l r : List Rw) : (numsK (l ++ r)).take l.length = numsK l := by
  refine snoc_ind (motive := fun r => (numsK (l ++ r)).take l.length = numsK l) ?_ (fun r x ih => ?_) r
  · rw [List.append_nil, List.take_of_length_le (by rw [numsK_len]; exact Nat.le_refl _)]
  · rw [← List.append_assoc, (numsK_snoc _ _).1, List.take_append_of_le_length (by rw [numsK_len]; simp)]
    exact ih
theorem numsK_getD {l : List Rw} {i : Nat} (h : i < l.length) : (numsK l).getD i default = numK (distK (l.take i)) (l.getD i default) := by
  have e1 := numsK_prefix (l.take (i + 1)) (l.drop (i + 1))
  rw [List.take_append_drop] at e1
  have hl : (l.take (i + 1)).length = i + 1 := by rw [List.length_take]; omega
  rw [hl, (numsK_step h).1] at e1
  have hli : (numsK (l.take i)).length = i := by rw [numsK_len, List.length_take]; omega
  have e2 : (numsK l)[i]? = some (numK (distK (l.take i)) (l.getD i default)) := by
    have : ((numsK l).take (i + 1))[i]? = (numsK l)[i]? := by rw [List.getElem?_take]; rw [if_pos (by omega)]
    rw [← this, e1, List.getElem?_append_right (by omega), hli]
    simp
  rw [List.getD_eq_getElem?_getD, e2]
  rfl
 
theorem num_at {rows : List Rw} {keys : List Int} {i : Nat} (h : i < rows.length) : (numsK (keysS rows keys)).getD i default = numK (dsS rows keys i) (ofS (rows.getD i default) keys) := by
  have hl : i < (keysS rows keys).length := by rw [List.length_map]; exact h
  rw [numsK_getD hl, keysS_at h]
  unfold dsS
  split
  · rename_i h0
    rw [ofS_nil h0]
    have hall : ∀ k ∈ distK ((keysS rows keys).take i), k = [] := fun k hk => by
      have := List.mem_of_mem_take (((distK_spec _).2.1 k).1 hk)
      obtain ⟨r, _, rfl⟩ := List.mem_map.1 this
      exact ofS_nil h0
    have e0 : numK [[]] [] = 0 := rfl
    rw [e0]
    cases hd : distK ((keysS rows keys).take i) with
    | nil => rfl
    | cons k r =>
      have hk := hall k (by rw [hd]; exact List.mem_cons_self ..)
      subst hk
      rfl
  · rfl
theorem grpS_step {rows : List Rw} {keys : List Int} {i : Nat} (h : i < rows.length) (k : Rw) : grpS (rows.take (i + 1)) keys k = if ofS (rows.getD i default) keys = k then grpS (rows.take i) keys k ++ [rows.getD i default] else grpS (rows.take i) keys k := by
  have e : rows.take (i + 1) = rows.take i ++ [rows.getD i default] := by
    rw [List.take_add_one]
    simp [List.getD_eq_getElem?_getD, h]
  rw [e]
  unfold grpS
  rw [List.filter_append]
  split
  · rename_i hk
    simp only [List.filter_cons, List.filter_nil, sameV, hk, decide_true, if_true]
  · rename_i hk
    simp only [List.filter_cons, List.filter_nil, sameV, hk, decide_false, Bool.false_eq_true, if_false, List.append_nil]
theorem grpS_none {rows : List Rw} {keys : List Int} {k : Rw} (h : ∀ r ∈ rows, ¬ ofS r keys = k) : grpS rows keys k = [] := by
  unfold grpS
  refine List.filter_eq_nil_iff.2 fun r hr => ?_
  simp only [sameV, decide_eq_true_eq]
  exact h r hr
theorem mem_dsS {rows : List Rw} {keys : List Int} {i : Nat} {r : Rw} (hr : r ∈ rows.take i) : ofS r keys ∈ dsS rows keys i := by
  unfold dsS
  split
  · rename_i h0
    rw [ofS_nil h0]
    simp
  · refine ((distK_spec _).2.1 _).2 ?_
    have : (keysS rows keys).take i = (rows.take i).map (ofS · keys) := by rw [List.map_take]
    rw [this]
    exact List.mem_map.2 ⟨r, hr, rfl⟩
theorem gsS_len (rows : List Rw) (keys : List Int) (i : Nat) : (gsS rows keys i).length = (dsS rows keys i).length := by simp [gsS]
 
theorem gsS_old {rows : List Rw} {keys : List Int} {i : Nat} (h : i < rows.length) (hk : inK (dsS rows keys i) (ofS (rows.getD i default) keys) = true) :
    gsS rows keys (i + 1) = (gsS rows keys i).set (idxK (dsS rows keys i) (ofS (rows.getD i default) keys)) ((gsS rows keys i).getD (idxK (dsS rows keys i) (ofS (rows.getD i default) keys)) default ++ [rows.getD i default]) ∧
    idxK (dsS rows keys i) (ofS (rows.getD i default) keys) < (gsS rows keys i).length := by
  have hnd := dsS_nodup rows keys i
  have hd : dsS rows keys (i + 1) = dsS rows keys i := by rw [dsS_step h]; unfold addK; rw [if_pos hk]
  rw [inK_iff] at hk
  obtain ⟨_, h2, h3⟩ := idxK_mem (t := []) hk
  generalize hn : idxK (dsS rows keys i) (ofS (rows.getD i default) keys) = n at *
  refine ⟨?_, by rw [gsS_len]; exact h2⟩
  have hg : (gsS rows keys i).getD n default = grpS (rows.take i) keys (ofS (rows.getD i default) keys) := by
    unfold gsS
    rw [List.getD_eq_getElem?_getD, List.getElem?_map, List.getElem?_eq_getElem h2, Option.map_some, Option.getD_some]
    rw [getD_lt h2] at h3
    rw [h3]
  rw [hg]
  unfold gsS
  rw [hd]
  apply List.ext_getElem
  · simp
  · intro j h4 h5
    simp only [List.length_map] at h4
    rw [List.getElem_map, grpS_step h, List.getElem_set]
    by_cases e : n = j
    · subst e
      rw [getD_lt h2] at h3
      rw [if_pos h3.symm, if_pos rfl, h3]
    · rw [if_neg (fun e2 => e ?_), if_neg e, List.getElem_map]
      rw [getD_lt h2] at h3
      rw [e2] at h3
      exact (List.getElem_inj hnd).1 h3
 
theorem gsS_new {rows : List Rw} {keys : List Int} {i : Nat} (h : i < rows.length) (hk : inK (dsS rows keys i) (ofS (rows.getD i default) keys) = false) :
    gsS rows keys (i + 1) = gsS rows keys i ++ [[rows.getD i default]] := by
  have hnk : ¬ ofS (rows.getD i default) keys ∈ dsS rows keys i := fun hm => by rw [inK_iff.2 hm] at hk; cases hk
  have hd : dsS rows keys (i + 1) = dsS rows keys i ++ [ofS (rows.getD i default) keys] := by rw [dsS_step h]; unfold addK; rw [if_neg (by rw [hk]; decide)]
  unfold gsS
  rw [hd, List.map_append]
  congr 1
  · refine List.map_congr_left fun k hkm => ?_
    rw [grpS_step h, if_neg (fun e : ofS (rows.getD i default) keys = k => hnk (by rw [e]; exact hkm))]
  · simp only [List.map_cons, List.map_nil]
    rw [grpS_step h, if_pos rfl, grpS_none fun r hr (e : ofS r keys = ofS (rows.getD i default) keys) => hnk (by rw [← e]; exact mem_dsS hr)]
    rfl
theorem gsS_zero {rows : List Rw} {keys : List Int} : gsS rows keys 0 = if keys.length = 0 then [[]] else [] := by
  unfold gsS dsS
  split
  · simp [grpS]
  · simp [distK]
 
def outS (rows : List Rw) (keys : List Int) (aggs : List Ag) (k : Rw) : Rw := k ++ aggs.map (oneS (grpS rows keys k))
def byS (rows : List Rw) (keys : List Int) (aggs : List Ag) : List Rw := (dsS rows keys rows.length).map (outS rows keys aggs)
theorem byS_len (rows : List Rw) (keys : List Int) (aggs : List Ag) : (byS rows keys aggs).length = (dsS rows keys rows.length).length := by simp [byS]
def dj (rows : List Rw) (keys : List Int) (j : Nat) : Rw := (dsS rows keys rows.length).getD j default
theorem gsS_at {rows : List Rw} {keys : List Int} {j : Nat} (h : j < (dsS rows keys rows.length).length) : (gsS rows keys rows.length).getD j default = grpS rows keys (dj rows keys j) := by
  unfold gsS dj
  rw [List.take_length, List.getD_eq_getElem?_getD, List.getElem?_map, List.getElem?_eq_getElem h, getD_lt h]
  rfl
 
theorem key_first {rows : List Rw} {keys : List Int} {k : Rw} (h : 0 < (grpS rows keys k).length) : ofS ((grpS rows keys k).getD 0 default) keys = k ∧ (grpS rows keys k).getD 0 default ∈ rows := by
  have hm : (grpS rows keys k).getD 0 default ∈ grpS rows keys k := by rw [getD_lt h]; exact List.getElem_mem h
  have := List.mem_filter.1 hm
  exact ⟨by simpa [sameV] using this.2, this.1⟩
theorem key_none {rows : List Rw} {keys : List Int} {j : Nat} (hj : j < (dsS rows keys rows.length).length) (h : (grpS rows keys ((dsS rows keys rows.length).getD j default)).length = 0) : (dsS rows keys rows.length).getD j default = [] := by
  unfold dsS at *
  split at hj
  · rename_i h0
    rw [if_pos h0]
    have : j = 0 := by simpa using hj
    subst this
    rfl
  · rename_i h0
    rw [if_neg h0] at h ⊢
    have hm : (distK ((keysS rows keys).take rows.length)).getD j default ∈ distK ((keysS rows keys).take rows.length) := by rw [getD_lt hj]; exact List.getElem_mem hj
    have h2 := List.mem_of_mem_take (((distK_spec _).2.1 _).1 hm)
    obtain ⟨r, hr, e⟩ := List.mem_map.1 h2
    have : r ∈ grpS rows keys ((distK ((keysS rows keys).take rows.length)).getD j default) := List.mem_filter.2 ⟨hr, by simp only [sameV]; exact decide_eq_true e⟩
    rw [List.eq_nil_of_length_eq_zero h] at this
    simp at this
theorem grpS_sub {rows : List Rw} {keys : List Int} {k : Rw} : ∀ r ∈ grpS rows keys k, r ∈ rows := fun r hr => (List.mem_filter.1 hr).1
theorem grpS_len (rows : List Rw) (keys : List Int) (k : Rw) : (grpS rows keys k).length ≤ rows.length := List.length_filter_le _ _
theorem dsS_len (rows : List Rw) (keys : List Int) (i : Nat) (hi : i ≤ rows.length) : (dsS rows keys i).length ≤ i + 1 := by
  unfold dsS
  split
  · simp
  · have := distK_le (keysS rows keys) i
    omega
def gNE (e : Nat) (g : List Rw) : NE := .row e 1 (g.map encRow)
def rNE (e : Nat) (r : Rw) : NE := .row e 2 (r.map encV)
theorem noHole_map {α : Type} {f : α → NE} (h : ∀ x, f x ≠ .hole) : ∀ l : List α, noHole (l.map f) = true
  | [] => rfl
  | x :: r => by
    have hx := h x
    rw [List.map_cons]
    cases hf : f x with
    | hole => exact absurd hf hx
    | d y => exact noHole_map h r
    | row e z l => exact noHole_map h r
theorem noHole_g (e : Nat) (l : List (List Rw)) : noHole (l.map (gNE e)) = true := noHole_map (fun x h => by cases h) l
theorem noHole_r (e : Nat) (l : List Rw) : noHole (l.map (rNE e)) = true := noHole_map (fun x h => by cases h) l
theorem toD_r (e : Nat) (l : List Rw) : (l.map (rNE e)).map NE.toD = l.map encRow := by rw [List.map_map]; rfl
def grD (g : List Rw) : D := .sl 1 (g.map encRow)
theorem toD_g (e : Nat) (l : List (List Rw)) : (l.map (gNE e)).map NE.toD = l.map grD := by rw [List.map_map]; rfl
theorem getN_map {α : Type} [Inhabited α] (f : α → NE) {l : List α} {i : Nat} (h : i < l.length) : (l.map f).getD i .hole = f (l.getD i default) := by
  simp [List.getD_eq_getElem?_getD, h]
theorem getN_new {l : List NE} {x : NE} {n : Nat} (h : n = l.length) : (l ++ [x]).getD n .hole = x := by
  subst h
  simp [List.getD_eq_getElem?_getD]
 
theorem num_case {rows : List Rw} {keys : List Int} {i : Nat} (h : i < rows.length) :
    (inK (dsS rows keys i) (ofS (rows.getD i default) keys) = true ∧ (numsK (keysS rows keys)).getD i default = ((idxK (dsS rows keys i) (ofS (rows.getD i default) keys) : Nat) : Int) ∧ idxK (dsS rows keys i) (ofS (rows.getD i default) keys) < (gsS rows keys i).length) ∨
    (inK (dsS rows keys i) (ofS (rows.getD i default) keys) = false ∧ (numsK (keysS rows keys)).getD i default = (((gsS rows keys i).length : Nat) : Int)) := by
  rw [num_at h, gsS_len]
  unfold numK
  cases hk : inK (dsS rows keys i) (ofS (rows.getD i default) keys) with
  | true =>
    rw [if_pos rfl]
    exact .inl ⟨rfl, rfl, (idxK_mem (t := []) (inK_iff.1 hk)).2.1⟩
  | false =>
    rw [if_neg (by decide)]
    exact .inr ⟨rfl, rfl⟩
theorem gs_bnd (rows : List Rw) (keys : List Int) (i j : Nat) (hi : i ≤ rows.length) : ((gsS rows keys i).getD j default).length ≤ i ∧ (gsS rows keys i).length ≤ i + 1 := by
  refine ⟨?_, by rw [gsS_len]; exact dsS_len rows keys i hi⟩
  unfold gsS
  rw [List.getD_eq_getElem?_getD, List.getElem?_map]
  cases (dsS rows keys i)[j]? with
  | none => exact Nat.zero_le _
  | some k =>
    have h1 := grpS_len (rows.take i) keys k
    have h2 := List.length_take_le i rows
    show (grpS (rows.take i) keys k).length ≤ i
    omega
theorem gs_old_map {e : Nat} {rows : List Rw} {keys : List Int} {i : Nat} (h : i < rows.length) (hk : inK (dsS rows keys i) (ofS (rows.getD i default) keys) = true) :
    ((gsS rows keys i).map (gNE e)).set (idxK (dsS rows keys i) (ofS (rows.getD i default) keys)) (.row e 1 (((gsS rows keys i).getD (idxK (dsS rows keys i) (ofS (rows.getD i default) keys)) default ++ [rows.getD i default]).map encRow)) = (gsS rows keys (i + 1)).map (gNE e) := by
  rw [(gsS_old h hk).1, List.map_set]
  rfl
theorem gs_new_map {e : Nat} {rows : List Rw} {keys : List Int} {i : Nat} (h : i < rows.length) (hk : inK (dsS rows keys i) (ofS (rows.getD i default) keys) = false) :
    ((gsS rows keys i).map (gNE e) ++ [NE.row e 1 []]).set (gsS rows keys i).length (NE.row e 1 [encRow (rows.getD i default)]) = (gsS rows keys (i + 1)).map (gNE e) := by
  rw [gsS_new h hk, List.map_append]
  rw [List.set_append, if_neg (by simp)]
  simp [gNE]
theorem keys_len (rows : List Rw) (keys : List Int) : (numsK (keysS rows keys)).length = rows.length := (numsK_len _).trans (List.length_map _)
theorem out_first {rows : List Rw} {keys : List Int} {j : Nat} (aggs : List Ag) (h : 0 < (grpS rows keys (dj rows keys j)).length) :
    (ofS ((grpS rows keys (dj rows keys j)).getD 0 default) keys).map encV = (dj rows keys j ++ (aggs.take 0).map (oneS (grpS rows keys (dj rows keys j)))).map encV := by
  rw [(key_first h).1]
  simp
theorem out_none {rows : List Rw} {keys : List Int} {j : Nat} (aggs : List Ag) (hj : j < (dsS rows keys rows.length).length) (h : (grpS rows keys (dj rows keys j)).length = 0) :
    ([] : List D) = (dj rows keys j ++ (aggs.take 0).map (oneS (grpS rows keys (dj rows keys j)))).map encV := by
  unfold dj at *
  rw [key_none hj h]
  simp
theorem out_agg {k : Rw} {g : List Rw} {aggs : List Ag} {m : Nat} (h : m < aggs.length) :
    (k ++ (aggs.take m).map (oneS g) ++ [oneS g (aggs.getD m default)]).map encV = (k ++ (aggs.take (m + 1)).map (oneS g)).map encV := by
  have e : aggs.take (m + 1) = aggs.take m ++ [aggs.getD m default] := by
    rw [List.take_add_one]
    simp [List.getD_eq_getElem?_getD, h]
  rw [e]
  simp only [List.map_append, List.map_cons, List.map_nil, List.append_assoc]
theorem out_round {rows : List Rw} {keys : List Int} {aggs : List Ag} {e j m : Nat} (hj : j < (dsS rows keys rows.length).length) (hm : aggs.length ≤ m) :
    (((dsS rows keys rows.length).take j).map (outS rows keys aggs)).map (rNE e) ++ [NE.row e 2 ((dj rows keys j ++ (aggs.take m).map (oneS (grpS rows keys (dj rows keys j)))).map encV)] = (((dsS rows keys rows.length).take (j + 1)).map (outS rows keys aggs)).map (rNE e) := by
  have e : (dsS rows keys rows.length).take (j + 1) = (dsS rows keys rows.length).take j ++ [dj rows keys j] := by
    unfold dj
    rw [List.take_add_one]
    simp [List.getD_eq_getElem?_getD, hj]
  rw [List.take_of_length_le hm, e]
  simp only [List.map_append, List.map_cons, List.map_nil, rNE, outS]
theorem gj_len (rows : List Rw) (keys : List Int) (j : Nat) : (grpS rows keys (dj rows keys j)).length ≤ rows.length := grpS_len _ _ _
theorem ofS_len2 (r : Rw) (keys : List Int) : (ofS r keys).length = keys.length := by simp [ofS]
theorem dj_len (rows : List Rw) (keys : List Int) (j : Nat) {n : Nat} (h : keys.length ≤ n) : (dj rows keys j).length ≤ n := by
  unfold dj
  by_cases hj : j < (dsS rows keys rows.length).length
  · have hm : (dsS rows keys rows.length).getD j default ∈ dsS rows keys rows.length := by rw [getD_lt hj]; exact List.getElem_mem hj
    generalize (dsS rows keys rows.length).getD j default = k at hm ⊢
    unfold dsS at hm
    split at hm
    · simp at hm
      subst hm
      simp
    · have h2 := List.mem_of_mem_take (((distK_spec _).2.1 _).1 hm)
      obtain ⟨r, _, rfl⟩ := List.mem_map.1 h2
      rw [ofS_len2]
      exact h
  · rw [List.getD_eq_getElem?_getD, List.getElem?_eq_none (by omega)]
    exact Nat.zero_le _
end Go.Fw
namespace Go.Fw
open Go Go.Proofs
set_option maxHeartbeats 10000000
set_option maxRecDepth 100000
set_option linter.constructorNameAsVariable false
set_option linter.unusedVariables false
set_option linter.unusedSimpArgs false
 
structure RowsOK (rows : List Rw) (keys : List Int) (aggs : List Ag) : Prop where
  rl : rows.length ≤ 1000
  kl : keys.length ≤ 1000
  al : aggs.length ≤ 1000
  kc : ∀ r ∈ rows, ∀ c ∈ keys, 0 ≤ c ∧ c < r.length
  ac : ∀ a ∈ aggs, ¬ a.1 = 1 → ∀ r ∈ rows, 0 ≤ a.2 ∧ a.2 < r.length
  sz : ∀ r ∈ rows, ∀ v ∈ r, v.2.size ≤ 1000000
def pl10 : Nat → Plan
  | 9 => tks 0 [0, 0, 0, 0, 0, 1, 0, 0, 0] (.tak 9 .rd [10, 11, 12, 13] (.one 10 (.one 11 (tks 12 [0] (.one 13 (.done))))))
  | _ => .done
theorem by_con (rows : List Rw) (keys : List Int) (aggs : List Ag) (lim : Int) (ok : RowsOK rows keys aggs) : Has Tryd.prog 10 [CV.d (D.sl 1 (rows.map encRow)), CV.d (D.sl 1 (keys.map intD)), CV.d (D.sl 2 (aggs.map encA)), CV.d (D.int .i64 lim)] (fun rs _ => rs = if lim < (((byS rows keys aggs).length : Nat) : Int) then [CV.own 37 1 ([] : List D), CV.d (D.int .i64 6)] else [CV.nest 37 ((byS rows keys aggs).map (rNE 36)), CV.d (D.int .i64 0)] ) := by
  have hkl := ok.kl; have hrl := ok.rl; have hal := ok.al; have hnl0 := keys_len rows keys
  have hb22 : Tryd.prog.bytesOf 22 = 24 := by kernel_rfl
  have hb36 : Tryd.prog.bytesOf 36 = 24 := by kernel_rfl
  have hb37 : Tryd.prog.bytesOf 37 = 24 := by kernel_rfl
  refine Has_of_run (fn := Tryd.f10) (M := M0) fol (by kernel_rfl) 18 pl10 [.own, .frz] [] (by kernel_rfl) (Nat.le_of_ble_eq_true rfl) ?_
  (repeat' ((conv => whnf); first | done | (refine And.intro (fun h => ?_) (fun h => ?_) <;> (try simp only [Bool.or_eq_true, Bool.and_eq_true, Bool.or_eq_false_iff, Bool.and_eq_false_iff, toNat_pred, toNat_succ, toNat_addn, toNat_subn, decide_eq_true_eq, decide_eq_false_iff_not, Bool.not_eq_true', Bool.not_eq_false', List.length_map, Int.toNat_natCast, Int.not_lt, Int.not_le, Bool.not_eq_true, Bool.false_eq_true, Bool.true_eq_false, Bool.not_true, Bool.not_false, reduceCtorEq, beq_iff_eq, Bool.not_eq_eq_eq_not, bne_iff_ne, ne_eq, decide_not, Decidable.not_not, Classical.not_not, numsK_len, List.length_set] at h)) | exact (rfl : (_ : AV) = _) | exact (rfl : (_ : St) = _) | refine Exists.intro (α := AV) AV.dead (And.intro (fun h => Bool.noConfusion h) ?_) | apply ex_av | (refine fun (h : (_ : Bool) = true) => ?_; have h' := h; (try simp only [Bool.or_eq_true, Bool.and_eq_true, Bool.or_eq_false_iff, Bool.and_eq_false_iff, toNat_pred, toNat_succ, toNat_addn, toNat_subn, decide_eq_true_eq, decide_eq_false_iff_not, Bool.not_eq_true', Bool.not_eq_false', List.length_map, Int.toNat_natCast, Int.not_lt, Int.not_le, Bool.not_eq_true, Bool.false_eq_true, Bool.true_eq_false, Bool.not_true, Bool.not_false, reduceCtorEq, beq_iff_eq, Bool.not_eq_eq_eq_not, bne_iff_ne, ne_eq, decide_not, Decidable.not_not, Classical.not_not, numsK_len, List.length_set] at h')) | (refine And.intro (a := Both _ _ _) ?_ ?_; (refine ⟨fun h => ?_, fun h => ?_⟩ <;> first | rfl | exact h | exact Bool.noConfusion h | (rw [h]; rfl) | (rw [h]; simp only [Bool.not_false, Bool.not_true, Bool.and_true]; assumption) | (simp_all; done) | fail); skip) | refine And.intro rfl ?_ | refine Two.mk ?_ ?_ | refine And.intro (allU8_bytes _) ?_ | (refine And.intro (a := (_ : Bool) = true) ?_ ?_; (first | assumption | exact decide_eq_true (by assumption) | (rw [Bool.not_eq_true']; exact decide_eq_false (by assumption)) | (rw [Bool.not_not]; exact decide_eq_true (by assumption)) | (simp_all; done) | fail); skip) | refine And.intro (Or.inr rfl) ?_ | refine And.intro (Nat.le_of_ble_eq_true rfl) ?_ | refine And.intro (decide_eq_false (by omega)) ?_ | refine And.intro (show Program.stoodInHeld _ _ = _ by kernel_rfl) (And.intro (by kernel_rfl) ?_) | refine And.intro (show Nat.beq _ _ = _ from rfl) (And.intro (by decide) ?_) | refine And.intro ⟨rfl, rfl⟩ ?_ | refine And.intro ⟨rfl, rfl, trivial⟩ ?_ | refine And.intro (Int.natCast_nonneg _) ?_ | refine Or.inl (And.intro rfl (And.intro rfl (And.intro rfl (And.intro rfl ?_)))) | refine Or.inl (And.intro rfl (And.intro rfl ?_)) | refine Or.inr (And.intro (Nat.le_of_ble_eq_true rfl) ?_) | refine Or.inl (And.intro (by unfold in64; omega) ?_) | refine And.intro (by first | omega | (simp only [dlen, true_and, and_true, Nat.le_refl, List.length_map, List.length_append, List.length_cons, List.length_nil, List.length_take, List.length_drop, List.length_replicate, Int.toNat_natCast, List.append_nil, hb22, hb36, hb37, numsK_len, List.length_set] <;> omega) | fail) ?_ | refine And.intro (allU8_bytes _) ?_ | refine And.intro (show elemsP _ _ _ by repeat' (first | exact rfl | exact trivial | constructor)) ?_ | (exact absurd trivial h) | (refine (numbers_con rows keys hkl (by omega) (fun r hr => ⟨ok.kc r hr, ok.sz r hr⟩)).mono fun rs bs hr => ?_; subst hr) | (refine And.intro ⟨rfl, rfl, rfl⟩ ?_) | (refine And.intro ⟨rfl, rfl, rfl, rfl, rfl⟩ ?_) | (refine And.intro (show ¬ _ = _ by decide) ?_) | (((rcases num_case (rows := rows) (keys := keys) (i := i) (by omega) with ⟨hk, hn, hnl⟩ | ⟨hk, hn⟩) <;> first | (exfalso; omega) | (rw [hn]) | fail)) | (refine Loops.toNest [10] rfl rfl ?_; refine Loops.by (M := M0) 18 pl10 fol (by kernel_rfl) (ι := Nat × List NE × Nat) (fun ⟨i, gl, z⟩ => ⟨[(0, AV.d (D.sl 1 (rows.map encRow))), (1, AV.d (D.sl 1 (keys.map intD))), (2, AV.d (D.sl 2 (aggs.map encA))), (3, AV.d (D.int .i64 lim)), (10, AV.nref [10] 16 z), (27, AV.ref [27] 17 1 0 ((numsK (keysS rows keys)).map intD).length), (28, AV.d (D.int .i64 rows.length)), (29, AV.d (D.int .i64 i))], [([10], 16, AO.nest 22 gl), ([27], 17, AO.row 3 1 ((numsK (keysS rows keys)).map intD))], 18⟩) (fun ⟨i, gl, z⟩ => i ≤ rows.length ∧ gl = (gsS rows keys i).map (gNE 37) ∧ z = gl.length) (fun ⟨i, gl, z⟩ => rows.length - i) (fun p hI => ?_) ((0, [], 0)) ⟨Nat.zero_le _, (by rw [gsS_zero, if_neg (by omega)]; rfl), rfl⟩ (Forget.mk' ⟨⟨rfl, rfl⟩, ⟨rfl, rfl⟩, ⟨rfl, rfl⟩, ⟨rfl, rfl⟩, ⟨rfl, rfl⟩, ⟨rfl, rfl⟩, ⟨rfl, rfl⟩, ⟨rfl, rfl⟩, trivial⟩ ⟨⟨rfl, rfl, rfl⟩, ⟨rfl, rfl, rfl⟩, trivial⟩ rfl rfl); obtain ⟨i, gl, z⟩ := p; obtain ⟨hi, rfl, rfl⟩ := hI; have hll : ((gsS rows keys i).map (gNE 37)).length = (gsS rows keys i).length := List.length_map _; have hgb := gs_bnd rows keys i (idxK (dsS rows keys i) (ofS (rows.getD i default) keys)) hi) | (refine Loops.by (M := M0) 18 pl10 fol (by kernel_rfl) (ι := Nat × List NE × Nat) (fun ⟨i, gl, z⟩ => ⟨[(0, AV.d (D.sl 1 (rows.map encRow))), (1, AV.d (D.sl 1 (keys.map intD))), (2, AV.d (D.sl 2 (aggs.map encA))), (3, AV.d (D.int .i64 lim)), (10, AV.nref [10] 16 z), (27, AV.ref [27] 17 1 0 ((numsK (keysS rows keys)).map intD).length), (28, AV.d (D.int .i64 rows.length)), (29, AV.d (D.int .i64 i))], [([10], 16, AO.nest 22 gl), ([27], 17, AO.row 3 1 ((numsK (keysS rows keys)).map intD))], 18⟩) (fun ⟨i, gl, z⟩ => i ≤ rows.length ∧ gl = (gsS rows keys i).map (gNE 37) ∧ z = gl.length) (fun ⟨i, gl, z⟩ => rows.length - i) (fun p hI => ?_) ((0, [.row 37 1 [] ], 1)) ⟨Nat.zero_le _, (by rw [gsS_zero, if_pos (by omega)]; rfl), rfl⟩ (Forget.mk' ⟨⟨rfl, rfl⟩, ⟨rfl, rfl⟩, ⟨rfl, rfl⟩, ⟨rfl, rfl⟩, ⟨rfl, rfl⟩, ⟨rfl, rfl⟩, ⟨rfl, rfl⟩, ⟨rfl, rfl⟩, trivial⟩ ⟨⟨rfl, rfl, rfl⟩, ⟨rfl, rfl, rfl⟩, trivial⟩ rfl rfl); obtain ⟨i, gl, z⟩ := p; obtain ⟨hi, rfl, rfl⟩ := hI; have hll : ((gsS rows keys i).map (gNE 37)).length = (gsS rows keys i).length := List.length_map _; have hgb := gs_bnd rows keys i (idxK (dsS rows keys i) (ofS (rows.getD i default) keys)) hi) | (have hie : i = rows.length := (by omega); subst hie; refine Loops.frzNest [10] rfl (noHole_g _ _) (by simp [frzNok]) ?_; refine Loops.toNest [13] rfl rfl ?_; refine Loops.by (M := M0) 18 pl10 fol (by kernel_rfl) (ι := Nat × List D × List NE) (fun ⟨j, dl, ol⟩ => ⟨[(1, AV.d (D.sl 1 (keys.map intD))), (2, AV.d (D.sl 2 (aggs.map encA))), (13, AV.nref [13] 16 ol.length), (59, AV.d (D.sl 1 dl)), (60, AV.d (D.int .i64 ((gsS rows keys rows.length).length))), (61, AV.d (D.int .i64 j))], [([13], 16, AO.nest 37 ol)], 17⟩) (fun ⟨j, dl, ol⟩ => j ≤ (dsS rows keys rows.length).length ∧ dl = (gsS rows keys rows.length).map grD ∧ ol = (((dsS rows keys rows.length).take j).map (outS rows keys aggs)).map (rNE 36)) (fun ⟨j, dl, ol⟩ => (dsS rows keys rows.length).length - j) (fun p hI => ?_) ((0, ((gsS rows keys rows.length).map (gNE 37)).map NE.toD, [])) ⟨Nat.zero_le _, toD_g _ _, rfl⟩ (Forget.mk' ⟨⟨rfl, rfl⟩, ⟨rfl, rfl⟩, ⟨rfl, rfl⟩, ⟨rfl, rfl⟩, ⟨rfl, rfl⟩, ⟨rfl, rfl⟩, trivial⟩ ⟨⟨rfl, rfl, rfl⟩, trivial⟩ rfl rfl); obtain ⟨j, dl, ol⟩ := p; obtain ⟨hj, rfl, rfl⟩ := hI; have hgl := gsS_len rows keys rows.length; have hgj := gj_len rows keys j; have hdl := dsS_len rows keys rows.length (Nat.le_refl _)) | (rw [gsS_at (rows := rows) (keys := keys) (j := j) (by omega)]) | (refine (of_con _ _ hkl (ok.kc _ (key_first (by omega)).2)).mono fun rs bs hr => ?_; subst hr) | (refine (one_con _ (aggs.getD m default) (fun hne r hr => ok.ac _ (getD_mem (by omega)) hne r (grpS_sub r hr)) (by omega)).mono fun rs bs hr => ?_; subst hr) | (refine Loops.by (M := M0) 18 pl10 fol (by kernel_rfl) (ι := Nat × List D) (fun ⟨m, rl⟩ => ⟨[(1, AV.d (D.sl 1 (keys.map intD))), (2, AV.d (D.sl 2 (aggs.map encA))), (13, AV.nref [13] 16 ((((dsS rows keys rows.length).take j).map (outS rows keys aggs)).map (rNE 36)).length), (15, AV.d (D.sl 1 ((grpS rows keys (dj rows keys j)).map encRow))), (16, AV.ref [16] 17 2 0 rl.length), (59, AV.d (D.sl 1 ((gsS rows keys rows.length).map grD))), (60, AV.d (D.int .i64 ((gsS rows keys rows.length).length))), (61, AV.d (D.int .i64 j)), (73, AV.d (D.sl 2 (aggs.map encA))), (74, AV.d (D.int .i64 aggs.length)), (75, AV.d (D.int .i64 m))], [([13], 16, AO.nest 37 ((((dsS rows keys rows.length).take j).map (outS rows keys aggs)).map (rNE 36))), ([16], 17, AO.row 36 2 rl)], 18⟩) (fun ⟨m, rl⟩ => m ≤ aggs.length ∧ rl = (dj rows keys j ++ (aggs.take m).map (oneS (grpS rows keys (dj rows keys j)))).map encV) (fun ⟨m, rl⟩ => aggs.length - m) (fun p hI => ?_) ((0, (ofS ((grpS rows keys (dj rows keys j)).getD 0 default) keys).map encV)) ⟨Nat.zero_le _, out_first aggs (by omega)⟩ (Forget.mk' ⟨⟨rfl, rfl⟩, ⟨rfl, rfl⟩, ⟨rfl, rfl⟩, ⟨rfl, rfl⟩, ⟨rfl, rfl⟩, ⟨rfl, rfl⟩, ⟨rfl, rfl⟩, ⟨rfl, rfl⟩, ⟨rfl, rfl⟩, ⟨rfl, rfl⟩, ⟨rfl, rfl⟩, trivial⟩ ⟨⟨rfl, rfl, rfl⟩, ⟨rfl, rfl, rfl⟩, trivial⟩ rfl rfl); obtain ⟨m, rl⟩ := p; obtain ⟨hm, rfl⟩ := hI; have hkl2 := dj_len rows keys j hkl) | (refine Loops.by (M := M0) 18 pl10 fol (by kernel_rfl) (ι := Nat × List D) (fun ⟨m, rl⟩ => ⟨[(1, AV.d (D.sl 1 (keys.map intD))), (2, AV.d (D.sl 2 (aggs.map encA))), (13, AV.nref [13] 16 ((((dsS rows keys rows.length).take j).map (outS rows keys aggs)).map (rNE 36)).length), (15, AV.d (D.sl 1 ((grpS rows keys (dj rows keys j)).map encRow))), (16, AV.ref [16] 17 2 0 rl.length), (59, AV.d (D.sl 1 ((gsS rows keys rows.length).map grD))), (60, AV.d (D.int .i64 ((gsS rows keys rows.length).length))), (61, AV.d (D.int .i64 j)), (73, AV.d (D.sl 2 (aggs.map encA))), (74, AV.d (D.int .i64 aggs.length)), (75, AV.d (D.int .i64 m))], [([13], 16, AO.nest 37 ((((dsS rows keys rows.length).take j).map (outS rows keys aggs)).map (rNE 36))), ([16], 17, AO.row 36 2 rl)], 18⟩) (fun ⟨m, rl⟩ => m ≤ aggs.length ∧ rl = (dj rows keys j ++ (aggs.take m).map (oneS (grpS rows keys (dj rows keys j)))).map encV) (fun ⟨m, rl⟩ => aggs.length - m) (fun p hI => ?_) ((0, [])) ⟨Nat.zero_le _, out_none aggs (by omega) (by omega)⟩ (Forget.mk' ⟨⟨rfl, rfl⟩, ⟨rfl, rfl⟩, ⟨rfl, rfl⟩, ⟨rfl, rfl⟩, ⟨rfl, rfl⟩, ⟨rfl, rfl⟩, ⟨rfl, rfl⟩, ⟨rfl, rfl⟩, ⟨rfl, rfl⟩, ⟨rfl, rfl⟩, ⟨rfl, rfl⟩, trivial⟩ ⟨⟨rfl, rfl, rfl⟩, ⟨rfl, rfl, rfl⟩, trivial⟩ rfl rfl); obtain ⟨m, rl⟩ := p; obtain ⟨hm, rfl⟩ := hI; have hkl2 := dj_len rows keys j hkl) | (refine fun x hx => ?_; (try simp (disch := omega) only [Int.tdiv_eq_ediv_of_nonneg, Int.tmod_eq_emod_of_nonneg, bx, Bool.true_or, Bool.false_or, Bool.or_false, Bool.or_true, Bool.and_true, Bool.true_and, Bool.false_and, Bool.and_false, cond_true, cond_false, if_true, if_false, Bool.false_eq_true, min_nn, max_nn, min_ln, min_nl, max_ln, max_nl, getD_map, str_of_bytes, take_bytes, take_data, wrap_u64, wrap_u32, wrap_u8, shr_i64, shr_u64, shr_u32, shl_i64, shl_u64, Int.reduceToNat, Int.reducePow, Int.pow_succ, Int.pow_zero, Int.one_mul, Int.reduceMul, wrap_id, wrap_u8_nat, wrap_i64_u8, byteD_mk, map_snoc, map_app, set_map, take_map', drop_map', Nat.sub_zero, List.length_map, List.length_append, List.length_cons, List.length_nil, Int.toNat_natCast, List.drop_zero, List.take_succ_cons, List.take_zero, List.take_length, List.nil_append, List.append_nil, Nat.zero_add, toNat_pred, toNat_succ, toNat_addn, toNat_subn, numsK_len, List.length_set, getN_map, getN_new, List.set_set] at hx); subst hx) | rw [List.take_length] | (rw [List.take_of_length_le]; rotate_left; (first | omega | (simp only [dlen, true_and, and_true, Nat.le_refl, List.length_map, List.length_append, List.length_cons, List.length_nil, List.length_take, List.length_drop, List.length_replicate, Int.toNat_natCast, List.append_nil, hb22, hb36, hb37, numsK_len, List.length_set] <;> omega) | fail)) | refine fun h => ?_ | fail)); all_goals (try exact (AV.dead : AV)); all_goals (try (conv => whnf))
  all_goals first
    | (refine ⟨(i + 1, _, _), ⟨⟨by show i + 1 ≤ _; omega, gs_old_map (by omega) hk, (List.length_set ..).symm⟩, by show rows.length - (i + 1) < rows.length - i; omega⟩, (Forget.mk' ⟨⟨rfl, rfl⟩, ⟨rfl, rfl⟩, ⟨rfl, rfl⟩, ⟨rfl, rfl⟩, ⟨rfl, rfl⟩, ⟨rfl, rfl⟩, ⟨rfl, rfl⟩, ⟨rfl, rfl⟩, trivial⟩ ⟨⟨rfl, rfl, rfl⟩, ⟨rfl, rfl, rfl⟩, trivial⟩ rfl rfl)⟩; done)
    | (refine ⟨(i + 1, _, _), ⟨⟨by show i + 1 ≤ _; omega, gs_new_map (by omega) hk, (List.length_set ..).symm⟩, by show rows.length - (i + 1) < rows.length - i; omega⟩, (Forget.mk' ⟨⟨rfl, rfl⟩, ⟨rfl, rfl⟩, ⟨rfl, rfl⟩, ⟨rfl, rfl⟩, ⟨rfl, rfl⟩, ⟨rfl, rfl⟩, ⟨rfl, rfl⟩, ⟨rfl, rfl⟩, trivial⟩ ⟨⟨rfl, rfl, rfl⟩, ⟨rfl, rfl, rfl⟩, trivial⟩ rfl rfl)⟩; done)
    | (refine ⟨(m + 1, _), ⟨⟨by show m + 1 ≤ _; omega, out_agg (by omega)⟩, by show aggs.length - (m + 1) < aggs.length - m; omega⟩, (Forget.mk' ⟨⟨rfl, rfl⟩, ⟨rfl, rfl⟩, ⟨rfl, rfl⟩, ⟨rfl, rfl⟩, ⟨rfl, rfl⟩, ⟨rfl, rfl⟩, ⟨rfl, rfl⟩, ⟨rfl, rfl⟩, ⟨rfl, rfl⟩, ⟨rfl, rfl⟩, ⟨rfl, rfl⟩, trivial⟩ ⟨⟨rfl, rfl, rfl⟩, ⟨rfl, rfl, rfl⟩, trivial⟩ rfl rfl)⟩; done)
    | (refine ⟨(j + 1, _, _), ⟨⟨by show j + 1 ≤ _; omega, rfl, out_round (by omega) (by omega)⟩, by show (dsS rows keys rows.length).length - (j + 1) < (dsS rows keys rows.length).length - j; omega⟩, (Forget.mk' ⟨⟨rfl, rfl⟩, ⟨rfl, rfl⟩, ⟨rfl, rfl⟩, ⟨rfl, rfl⟩, ⟨rfl, rfl⟩, ⟨rfl, rfl⟩, trivial⟩ ⟨⟨rfl, rfl, rfl⟩, trivial⟩ rfl rfl)⟩; done)
    | (have hie : i = rows.length := (by omega); subst hie; rw [if_pos (by rw [byS_len, ← gsS_len]; assumption)]; done)
    | (rw [if_neg (by rw [byS_len]; omega)]; rfl)
    | fail
end Go.Fw
namespace Go.Fw
open Go Go.Proofs
set_option maxHeartbeats 10000000
set_option maxRecDepth 100000
set_option linter.constructorNameAsVariable false
set_option linter.unusedVariables false
set_option linter.unusedSimpArgs false
def pl21 : Nat → Plan
  | 5 => tks 0 [0, 0, 0, 1, 0, 1, 0, 0, 1, 0] (.done)
  | 6 => tks 0 [0, 0, 0, 0] (tks 5 [0] (.tak 4 .rd [7, 8, 9, 10, 11, 12] (.tak 6 .rd [7, 8, 9, 10, 11, 12] (tks 7 [0, 0] (.tak 9 .rd [10, 11, 12] (.one 10 (.one 11 (.one 12 (.done)))))))))
  | _ => .done
theorem refOne_con (rows : List Rw) (a : Ag) (hk : 1 ≤ a.1 ∧ a.1 ≤ 5) (hc : ¬ a.1 = 1 → ∀ r ∈ rows, 0 ≤ a.2 ∧ a.2 < r.length) (hl : rows.length ≤ 1000) (hz : ∀ r ∈ rows, ∀ v ∈ r, v.2.size ≤ 1000000) : Has Tryd.prog 21 [CV.d (D.sl 1 (rows.map encRow)), CV.d (encA a)] (fun rs _ => rs = [CV.d (encV (oneS rows a))] ) := by
  have hpl := presS_len rows a.2; have htl := tidy_len (presS rows a.2); have hsz := sizes_getD (presS_size (c := a.2) hz)
  have hb9 : Tryd.prog.bytesOf 9 = 16 := by kernel_rfl
  refine Has_of_run (fn := Tryd.f21) (M := M0) fol (by kernel_rfl) 3 pl21 [] [] (by kernel_rfl) (Nat.le_of_ble_eq_true rfl) ?_
  (repeat' ((conv => whnf); first | done | (refine And.intro (fun h => ?_) (fun h => ?_) <;> (try simp only [Bool.or_eq_true, Bool.and_eq_true, Bool.or_eq_false_iff, Bool.and_eq_false_iff, toNat_pred, toNat_succ, toNat_addn, toNat_subn, decide_eq_true_eq, decide_eq_false_iff_not, Bool.not_eq_true', Bool.not_eq_false', List.length_map, Int.toNat_natCast, Int.not_lt, Int.not_le, Bool.not_eq_true, Bool.false_eq_true, Bool.true_eq_false, Bool.not_true, Bool.not_false, reduceCtorEq, beq_iff_eq, Bool.not_eq_eq_eq_not, bne_iff_ne, ne_eq, decide_not, Decidable.not_not, Classical.not_not] at h)) | exact (rfl : (_ : AV) = _) | exact (rfl : (_ : St) = _) | refine Exists.intro (α := AV) AV.dead (And.intro (fun h => Bool.noConfusion h) ?_) | apply ex_av | (refine fun (h : (_ : Bool) = true) => ?_; have h' := h; (try simp only [Bool.or_eq_true, Bool.and_eq_true, Bool.or_eq_false_iff, Bool.and_eq_false_iff, toNat_pred, toNat_succ, toNat_addn, toNat_subn, decide_eq_true_eq, decide_eq_false_iff_not, Bool.not_eq_true', Bool.not_eq_false', List.length_map, Int.toNat_natCast, Int.not_lt, Int.not_le, Bool.not_eq_true, Bool.false_eq_true, Bool.true_eq_false, Bool.not_true, Bool.not_false, reduceCtorEq, beq_iff_eq, Bool.not_eq_eq_eq_not, bne_iff_ne, ne_eq, decide_not, Decidable.not_not, Classical.not_not] at h')) | (refine And.intro (a := Both _ _ _) ?_ ?_; (refine ⟨fun h => ?_, fun h => ?_⟩ <;> first | rfl | exact h | exact Bool.noConfusion h | (rw [h]; rfl) | (rw [h]; simp only [Bool.not_false, Bool.not_true, Bool.and_true]; assumption) | (simp_all; done) | fail); skip) | refine And.intro rfl ?_ | refine Two.mk ?_ ?_ | refine And.intro (allU8_bytes _) ?_ | (refine And.intro (a := (_ : Bool) = true) ?_ ?_; (first | assumption | exact decide_eq_true (by assumption) | (rw [Bool.not_eq_true']; exact decide_eq_false (by assumption)) | (rw [Bool.not_not]; exact decide_eq_true (by assumption)) | (simp_all; done) | fail); skip) | refine And.intro (Or.inr rfl) ?_ | refine And.intro (Nat.le_of_ble_eq_true rfl) ?_ | refine And.intro (decide_eq_false (by omega)) ?_ | refine And.intro (show Program.stoodInHeld _ _ = _ by kernel_rfl) (And.intro (by kernel_rfl) ?_) | refine And.intro (show Nat.beq _ _ = _ from rfl) (And.intro (by decide) ?_) | refine And.intro ⟨rfl, rfl⟩ ?_ | refine And.intro ⟨rfl, rfl, trivial⟩ ?_ | refine And.intro (Int.natCast_nonneg _) ?_ | refine Or.inl (And.intro rfl (And.intro rfl (And.intro rfl (And.intro rfl ?_)))) | refine Or.inl (And.intro rfl (And.intro rfl ?_)) | refine Or.inr (And.intro (Nat.le_of_ble_eq_true rfl) ?_) | refine Or.inl (And.intro (by unfold in64; omega) ?_) | refine And.intro (by first | omega | (simp only [dlen, true_and, and_true, Nat.le_refl, List.length_map, List.length_append, List.length_cons, List.length_nil, List.length_take, List.length_drop, List.length_replicate, Int.toNat_natCast, List.append_nil, hb9] <;> omega) | fail) ?_ | refine And.intro (allU8_bytes _) ?_ | refine And.intro (show elemsP _ _ _ by repeat' (first | exact rfl | exact trivial | constructor)) ?_ | (rw [List.take_of_length_le (l := rows) (i := i) (by omega)]) | (refine (digits_con _ (by omega)).mono fun rs bs hr => ?_; subst hr) | (refine (digits_con (tidy (presS rows a.2)).length (by omega)).mono fun rs bs hr => ?_; subst hr) | (refine (sorted_con (presS rows a.2) (by omega) hsz).mono fun rs bs hr => ?_; subst hr) | (refine (compare_con _ _ (by have := hsz k (by omega); omega) (by omega)).mono fun rs bs hr => ?_; subst hr) | (refine Loops.by (M := M0) 3 pl21 fol (by kernel_rfl) (ι := Nat) (fun i => ⟨[(0, AV.d (D.sl 1 (rows.map encRow))), (3, AV.addr [3] 16 0), (4, AV.addr [4] 17 0), (5, AV.ref [5] 18 1 0 ((presS (rows.take i) a.2).map D.str).length), (6, AV.d (D.int .i64 i))], [([3], 16, AO.box 39 [AV.d (D.int .i64 a.1), AV.d (D.int .i64 a.2)]), ([4], 17, AO.box 36 [AV.d (D.bool false), AV.d (D.str (⟨#[]⟩ : ByteArray))]), ([5], 18, AO.row 9 1 ((presS (rows.take i) a.2).map D.str))], 19⟩) (fun i => i ≤ rows.length ∧ (a.1 = 1 → i = 0)) (fun i => rows.length - i) (fun i hI => ?_) (0) ⟨Nat.zero_le _, fun _ => rfl⟩ (Forget.mk' ⟨⟨rfl, rfl⟩, ⟨rfl, rfl⟩, ⟨rfl, rfl⟩, ⟨rfl, rfl⟩, ⟨rfl, rfl⟩, trivial⟩ ⟨⟨rfl, rfl, rfl⟩, ⟨rfl, rfl, rfl⟩, ⟨rfl, rfl, rfl⟩, trivial⟩ rfl rfl); obtain ⟨hi, hi1⟩ := hI; have hci : (i : Int) < rows.length → 1 < a.1 → 0 ≤ a.2 ∧ a.2 < (rows.getD i default).length := (fun h h1 => hc (by omega) _ (getD_mem (by omega))); have hpl2 := presS_take_len rows a.2 i) | (refine Loops.by (M := M0) 3 pl21 fol (by kernel_rfl) (ι := Nat × ByteArray) (fun ⟨k, b⟩ => ⟨[(3, AV.addr [3] 16 0), (4, AV.addr [4] 17 0), (5, AV.ref [5] 18 1 0 ((presS rows a.2).map D.str).length), (7, AV.d (D.str b)), (8, AV.d (D.int .i64 k))], [([3], 16, AO.box 39 [AV.d (D.int .i64 a.1), AV.d (D.int .i64 a.2)]), ([4], 17, AO.box 36 [AV.d (D.bool false), AV.d (D.str (⟨#[]⟩ : ByteArray))]), ([5], 18, AO.row 9 1 ((presS rows a.2).map D.str))], 19⟩) (fun ⟨k, b⟩ => 1 ≤ k ∧ k ≤ (presS rows a.2).length ∧ b.size ≤ 1000000 ∧ (a.1 = 4 → b = Lib.minOfS ((presS rows a.2).take k)) ∧ (a.1 = 5 → b = Lib.maxOfS ((presS rows a.2).take k))) (fun ⟨k, b⟩ => (presS rows a.2).length - k) (fun p hI => ?_) ((1, (presS rows a.2).getD 0 default)) ⟨Nat.le_refl _, by omega, hsz 0 (by omega), fun _ => (min_one _ (by omega)).symm, fun _ => (max_one _ (by omega)).symm⟩ (Forget.mk' ⟨⟨rfl, rfl⟩, ⟨rfl, rfl⟩, ⟨rfl, rfl⟩, ⟨rfl, rfl⟩, ⟨rfl, rfl⟩, trivial⟩ ⟨⟨rfl, rfl, rfl⟩, ⟨rfl, rfl, rfl⟩, ⟨rfl, rfl, rfl⟩, trivial⟩ rfl rfl); obtain ⟨k, b⟩ := p; obtain ⟨hk1, hk2, hbz, hmn, hmx⟩ := hI) | (refine fun x hx => ?_; (try simp (disch := omega) only [Int.tdiv_eq_ediv_of_nonneg, Int.tmod_eq_emod_of_nonneg, bx, Bool.true_or, Bool.false_or, Bool.or_false, Bool.or_true, Bool.and_true, Bool.true_and, Bool.false_and, Bool.and_false, cond_true, cond_false, if_true, if_false, Bool.false_eq_true, min_nn, max_nn, min_ln, min_nl, max_ln, max_nl, getD_map, str_of_bytes, take_bytes, take_data, wrap_u64, wrap_u32, wrap_u8, shr_i64, shr_u64, shr_u32, shl_i64, shl_u64, Int.reduceToNat, Int.reducePow, Int.pow_succ, Int.pow_zero, Int.one_mul, Int.reduceMul, wrap_id, wrap_u8_nat, wrap_i64_u8, byteD_mk, map_snoc, map_app, set_map, take_map', drop_map', Nat.sub_zero, List.length_map, List.length_append, List.length_cons, List.length_nil, Int.toNat_natCast, List.drop_zero, List.take_succ_cons, List.take_zero, List.take_length, List.nil_append, List.append_nil, Nat.zero_add, toNat_pred, toNat_succ, toNat_addn, toNat_subn] at hx); subst hx) | rw [List.take_length] | (rw [List.take_of_length_le]; rotate_left; (first | omega | (simp only [dlen, true_and, and_true, Nat.le_refl, List.length_map, List.length_append, List.length_cons, List.length_nil, List.length_take, List.length_drop, List.length_replicate, Int.toNat_natCast, List.append_nil, hb9] <;> omega) | fail)) | refine fun h => ?_ | fail)); all_goals (try exact (AV.dead : AV)); all_goals (try (conv => whnf))
  · refine ⟨i + 1, ⟨⟨by omega, fun h1 => by omega⟩, by omega⟩, ?_⟩
    rw [← presS_yes (by omega) h, List.map_append]
    exact (Forget.mk' ⟨⟨rfl, rfl⟩, ⟨rfl, rfl⟩, ⟨rfl, rfl⟩, ⟨rfl, rfl⟩, ⟨rfl, rfl⟩, trivial⟩ ⟨⟨rfl, rfl, rfl⟩, ⟨rfl, rfl, rfl⟩, ⟨rfl, rfl, rfl⟩, trivial⟩ rfl rfl)
  · refine ⟨i + 1, ⟨⟨by omega, fun h1 => by omega⟩, by omega⟩, ?_⟩
    rw [presS_no (by omega) h]
    exact (Forget.mk' ⟨⟨rfl, rfl⟩, ⟨rfl, rfl⟩, ⟨rfl, rfl⟩, ⟨rfl, rfl⟩, ⟨rfl, rfl⟩, trivial⟩ ⟨⟨rfl, rfl, rfl⟩, ⟨rfl, rfl, rfl⟩, ⟨rfl, rfl, rfl⟩, trivial⟩ rfl rfl)
  all_goals first
    | ((unfold oneS; repeat (first | rw [if_pos (by omega)] | rw [if_neg (by omega)])); exact rfl)
    | skip
  · obtain ⟨m1, m2⟩ := min_take (l := presS rows a.2) (k := k) (by omega) (by omega)
    obtain ⟨x1, x2⟩ := max_take (l := presS rows a.2) (k := k) (by omega) (by omega)
    refine ⟨(k + 1, (presS rows a.2).getD k default), ⟨⟨by show 1 ≤ k + 1; omega, by show k + 1 ≤ _; omega, hsz k (by omega), fun e4 => ?_, fun e5 => ?_⟩, by show (presS rows a.2).length - (k + 1) < (presS rows a.2).length - k; omega⟩, (Forget.mk' ⟨⟨rfl, rfl⟩, ⟨rfl, rfl⟩, ⟨rfl, rfl⟩, ⟨rfl, rfl⟩, ⟨rfl, rfl⟩, trivial⟩ ⟨⟨rfl, rfl, rfl⟩, ⟨rfl, rfl, rfl⟩, ⟨rfl, rfl, rfl⟩, trivial⟩ rfl rfl)⟩
    · rw [← hmn e4] at m1
      exact (m1 (by omega)).symm
    · rw [← hmx e5] at x1
      exact (x1 (by omega)).symm
  · obtain ⟨m1, m2⟩ := min_take (l := presS rows a.2) (k := k) (by omega) (by omega)
    obtain ⟨x1, x2⟩ := max_take (l := presS rows a.2) (k := k) (by omega) (by omega)
    refine ⟨(k + 1, b), ⟨⟨by show 1 ≤ k + 1; omega, by show k + 1 ≤ _; omega, hbz, fun e4 => ?_, fun e5 => ?_⟩, by show (presS rows a.2).length - (k + 1) < (presS rows a.2).length - k; omega⟩, (Forget.mk' ⟨⟨rfl, rfl⟩, ⟨rfl, rfl⟩, ⟨rfl, rfl⟩, ⟨rfl, rfl⟩, ⟨rfl, rfl⟩, trivial⟩ ⟨⟨rfl, rfl, rfl⟩, ⟨rfl, rfl, rfl⟩, ⟨rfl, rfl, rfl⟩, trivial⟩ rfl rfl)⟩
    · rw [← hmn e4] at m2
      exact (m2 (by omega)).symm
    · rw [← hmx e5] at x2
      exact (x2 (by omega)).symm
  · rw [List.take_of_length_le (by omega)] at hmn hmx
    unfold oneS
    rw [if_neg (by omega), if_neg (by omega), if_neg (by omega), if_neg (by omega)]
    by_cases e4 : a.1 = 4
    · rw [if_pos e4, hmn e4]; rfl
    · rw [if_neg e4, hmx (by omega)]; rfl
end Go.Fw
namespace Go.Fw
open Go
set_option linter.unusedVariables false
set_option linter.unusedSimpArgs false
 
def AtS (rows : List Rw) (keys : List Int) (i k : Nat) (v : Int) : Prop :=
  (v = -1 ∧ ∀ q, q < k → ¬ ofS (rows.getD q default) keys = ofS (rows.getD i default) keys) ∨
  (inK (distK ((keysS rows keys).take i)) (ofS (rows.getD i default) keys) = true ∧ v = (idxK (distK ((keysS rows keys).take i)) (ofS (rows.getD i default) keys) : Int))
theorem AtS.zero (rows : List Rw) (keys : List Int) (i : Nat) : AtS rows keys i 0 (-1) := .inl ⟨rfl, fun q h => absurd h (Nat.not_lt_zero _)⟩
theorem AtS.no {rows : List Rw} {keys : List Int} {i k : Nat} {v : Int} (h : AtS rows keys i k v) (hv : v < 0) (hn : ¬ ofS (rows.getD i default) keys = ofS (rows.getD k default) keys) : AtS rows keys i (k + 1) v := by
  rcases h with ⟨h1, h2⟩ | ⟨h1, h2⟩
  · refine .inl ⟨h1, fun q hq => ?_⟩
    rcases Nat.lt_succ_iff_lt_or_eq.1 hq with h | h
    · exact h2 q h
    · rw [h]; exact fun e => hn e.symm
  · omega
theorem AtS.yes {rows : List Rw} {keys : List Int} {i k : Nat} (hk : k < i) (hi : i < rows.length) (he : ofS (rows.getD i default) keys = ofS (rows.getD k default) keys) : AtS rows keys i (k + 1) ((numsK ((keysS rows keys).take i)).getD k default) := by
  have hl : k < ((keysS rows keys).take i).length := by rw [List.length_take, List.length_map]; omega
  have e : ((keysS rows keys).take i).getD k default = ofS (rows.getD k default) keys := by
    rw [List.getD_eq_getElem?_getD, List.getElem?_take, if_pos hk, ← List.getD_eq_getElem?_getD]
    exact keysS_at (by omega)
  refine .inr ⟨?_, ?_⟩
  · rw [inK_iff, (distK_spec _).2.1, he, ← e, getD_lt hl]
    exact List.getElem_mem hl
  · rw [numsK_at hl, e, he]
theorem AtS.stop {rows : List Rw} {keys : List Int} {i k : Nat} {v : Int} (h : AtS rows keys i k v) (hk : i ≤ k ∨ 0 ≤ v) (hi : i < rows.length) :
    (v < 0 → numK (distK ((keysS rows keys).take i)) (ofS (rows.getD i default) keys) = ((distK ((keysS rows keys).take i)).length : Int) ∧ (distK ((keysS rows keys).take (i + 1))).length = (distK ((keysS rows keys).take i)).length + 1) ∧
    (¬ v < 0 → numK (distK ((keysS rows keys).take i)) (ofS (rows.getD i default) keys) = v ∧ (distK ((keysS rows keys).take (i + 1))).length = (distK ((keysS rows keys).take i)).length) := by
  have hl : i < (keysS rows keys).length := by rw [List.length_map]; exact hi
  have hs := (numsK_step hl).2
  rw [keysS_at hi] at hs
  rcases h with ⟨h1, h2⟩ | ⟨h1, h2⟩
  · have hn : inK (distK ((keysS rows keys).take i)) (ofS (rows.getD i default) keys) = false := by
      rw [← Bool.not_eq_true, inK_iff, (distK_spec _).2.1]
      intro hm
      obtain ⟨q, hq, e⟩ := List.getElem_of_mem hm
      rw [List.length_take, List.length_map] at hq
      rw [List.getElem_take] at e
      have e2 : (keysS rows keys).getD q default = ofS (rows.getD q default) keys := keysS_at (by omega)
      rw [getD_lt (by rw [List.length_map]; omega)] at e2
      exact h2 q (by omega) (by rw [← e2]; exact e)
    refine ⟨fun _ => ?_, fun h => by omega⟩
    unfold numK
    rw [if_neg (by rw [hn]; decide), hs]
    unfold addK
    rw [if_neg (by rw [hn]; decide)]
    simp
  · refine ⟨fun h => by omega, fun _ => ?_⟩
    unfold numK
    rw [if_pos h1, hs]
    unfold addK
    rw [if_pos h1]
    exact ⟨h2.symm, rfl⟩
 
def SameC (a b : Rw) (keys : List Int) (c : Nat) (s : Bool) : Prop := s = true ↔ ofS a (keys.take c) = ofS b (keys.take c)
theorem SameC.zero (a b : Rw) (keys : List Int) : SameC a b keys 0 true := by simp [SameC, ofS]
theorem SameC.step {a b : Rw} {keys : List Int} {c : Nat} {s : Bool} (h : SameC a b keys c s) (hc : c < keys.length) :
    SameC a b keys (c + 1) (s && ((a.getD (keys.getD c default).toNat default).1 == (b.getD (keys.getD c default).toNat default).1 && decide ((a.getD (keys.getD c default).toNat default).2 = (b.getD (keys.getD c default).toNat default).2))) := by
  unfold SameC at *
  rw [← ofS_snoc hc, ← ofS_snoc hc, Bool.and_eq_true, h]
  have hl : (ofS a (keys.take c)).length = (ofS b (keys.take c)).length := by rw [ofS_len, ofS_len]
  constructor
  · rintro ⟨h1, h2⟩
    rw [h1]
    congr 2
    simp only [Bool.and_eq_true, beq_iff_eq, decide_eq_true_eq] at h2
    exact Prod.ext h2.1 h2.2
  · intro h1
    obtain ⟨h2, h3⟩ := List.append_inj h1 hl
    simp only [List.cons.injEq, and_true] at h3
    refine ⟨h2, ?_⟩
    rw [h3]
    simp
theorem SameC.all {a b : Rw} {keys : List Int} {c : Nat} {s : Bool} (h : SameC a b keys c s) (hc : keys.length ≤ c) : s = true ↔ ofS a keys = ofS b keys := by
  unfold SameC at h
  rw [List.take_of_length_le hc] at h
  exact h
 
def aggB (a : Ag) (c : Int) : Bool := !(decide (a.1 < 1) || decide (5 < a.1) || (decide (a.1 = 1) && !decide (a.2 = 0)) || (decide (1 < a.1) && (decide (a.2 < 0) || decide (c ≤ a.2))))
def keyB (k c : Int) : Bool := decide (0 ≤ k) && decide (k < c)
def rightB (keys : List Int) (aggs : List Ag) (c : Int) : Bool := decide (keys.length ≤ 8) && decide (aggs.length ≤ 8) && !decide (keys.length + aggs.length = 0) && keys.all (keyB · c) && aggs.all (aggB · c)
theorem mem_atI {α : Type} [Inhabited α] {l : List α} {x : α} (h : x ∈ l) : ∃ j, j < l.length ∧ l.getD j default = x := by
  obtain ⟨j, hj, rfl⟩ := List.getElem_of_mem h
  exact ⟨j, hj, getD_lt hj⟩
theorem all_of {α : Type} [Inhabited α] {p : α → Bool} {l : List α} {i : Nat} (hi : l.length ≤ i) (h : ∀ j, j < i → p (l.getD j default) = true) : l.all p = true := by
  rw [List.all_eq_true]
  intro x hx
  obtain ⟨j, hj, rfl⟩ := mem_atI hx
  exact h j (by omega)
theorem all_no {α : Type} [Inhabited α] {p : α → Bool} {l : List α} {i : Nat} (hi : i < l.length) (h : p (l.getD i default) = false) : l.all p = false := by
  rw [← Bool.not_eq_true, List.all_eq_true]
  intro ha
  have := ha _ (getD_mem hi)
  rw [h] at this
  cases this
theorem aggB_iff {a : Ag} {c : Int} : aggB a c = true ↔ ((1 ≤ a.1 ∧ a.1 ≤ 5) ∧ (¬ a.1 = 1 ∨ a.2 = 0)) ∧ (a.1 ≤ 1 ∨ 0 ≤ a.2 ∧ a.2 < c) := by
  unfold aggB
  simp only [Bool.not_eq_true', Bool.or_eq_false_iff, Bool.and_eq_false_iff, decide_eq_false_iff_not, Bool.not_eq_false', decide_eq_true_eq]
  omega
theorem keyB_iff {k c : Int} : keyB k c = true ↔ 0 ≤ k ∧ k < c := by simp [keyB]
theorem rightG_long {keys : List Int} {aggs : List Ag} {c : Int} (h : (8 < (keys.length : Int) ∨ 8 < (aggs.length : Int)) ∨ (keys.length : Int) + (aggs.length : Int) = 0) : rightB keys aggs c = false := by
  unfold rightB
  by_cases h1 : keys.length ≤ 8
  · by_cases h2 : aggs.length ≤ 8
    · rw [decide_eq_true (p := keys.length + aggs.length = 0) (by omega)]
      simp
    · rw [decide_eq_false h2]
      simp
  · rw [decide_eq_false h1]
    simp
theorem rightG_key {keys : List Int} {aggs : List Ag} {c : Int} {i : Nat} (hi : i < keys.length) (h : ¬ (0 ≤ keys.getD i default ∧ keys.getD i default < c)) : rightB keys aggs c = false := by
  unfold rightB
  rw [all_no (p := (keyB · c)) hi (by rw [← Bool.not_eq_true, keyB_iff]; exact h)]
  simp
theorem rightG_agg {keys : List Int} {aggs : List Ag} {c : Int} {k : Nat} (hk : k < aggs.length) (h : ¬ (((1 ≤ (aggs.getD k default).1 ∧ (aggs.getD k default).1 ≤ 5) ∧ (¬ (aggs.getD k default).1 = 1 ∨ (aggs.getD k default).2 = 0)) ∧ ((aggs.getD k default).1 ≤ 1 ∨ 0 ≤ (aggs.getD k default).2 ∧ (aggs.getD k default).2 < c))) : rightB keys aggs c = false := by
  unfold rightB
  rw [all_no (p := (aggB · c)) hk (by rw [← Bool.not_eq_true, aggB_iff]; exact h)]
  simp
theorem rightG_yes {keys : List Int} {aggs : List Ag} {c : Int} {i k : Nat} (h : ((keys.length : Int) ≤ 8 ∧ (aggs.length : Int) ≤ 8) ∧ ¬ (keys.length : Int) + (aggs.length : Int) = 0) (hi : keys.length ≤ i) (hok : ∀ j, j < i → keyB (keys.getD j default) c = true) (hk : aggs.length ≤ k) (hck : ∀ j, j < k → aggB (aggs.getD j default) c = true) : rightB keys aggs c = true := by
  unfold rightB
  rw [all_of (p := (keyB · c)) hi hok, all_of (p := (aggB · c)) hk hck, decide_eq_true (p := keys.length ≤ 8) (by omega), decide_eq_true (p := aggs.length ≤ 8) (by omega), decide_eq_false (p := keys.length + aggs.length = 0) (by omega)]
  rfl
end Go.Fw
namespace Go.Fw
open Go Go.Proofs
set_option maxHeartbeats 10000000
set_option maxRecDepth 100000
set_option linter.constructorNameAsVariable false
set_option linter.unusedVariables false
set_option linter.unusedSimpArgs false
theorem rows_con (rows : List (List Vl)) (c : Int) : Has Tryd.prog 8 [CV.d (D.sl 1 (rows.map encRow)), CV.d (D.int .i64 c)] (fun rs _ => rs = [CV.d (D.bool (rowsB rows c))]) := by
  refine Has_of_run (fn := Tryd.f8) (M := M0) fol (by kernel_rfl) 7 noPlan [] [] (by kernel_rfl) (Nat.le_of_ble_eq_true rfl) ?_
  (repeat' ((conv => whnf); first | done | (refine And.intro (fun h => ?_) (fun h => ?_) <;> (try simp only [Bool.or_eq_true, Bool.and_eq_true, Bool.or_eq_false_iff, Bool.and_eq_false_iff, toNat_pred, toNat_succ, toNat_addn, toNat_subn, decide_eq_true_eq, decide_eq_false_iff_not, Bool.not_eq_true', Bool.not_eq_false', List.length_map, Int.toNat_natCast, Int.not_lt, Int.not_le, Bool.not_eq_true, Bool.false_eq_true, Bool.true_eq_false, Bool.not_true, Bool.not_false, reduceCtorEq, beq_iff_eq, Bool.not_eq_eq_eq_not, bne_iff_ne, ne_eq, decide_not, Decidable.not_not, Classical.not_not, emp_iff] at h)) | exact (rfl : (_ : AV) = _) | exact (rfl : (_ : St) = _) | refine Exists.intro (α := AV) AV.dead (And.intro (fun h => Bool.noConfusion h) ?_) | apply ex_av | (refine fun (h : (_ : Bool) = true) => ?_; have h' := h; (try simp only [Bool.or_eq_true, Bool.and_eq_true, Bool.or_eq_false_iff, Bool.and_eq_false_iff, toNat_pred, toNat_succ, toNat_addn, toNat_subn, decide_eq_true_eq, decide_eq_false_iff_not, Bool.not_eq_true', Bool.not_eq_false', List.length_map, Int.toNat_natCast, Int.not_lt, Int.not_le, Bool.not_eq_true, Bool.false_eq_true, Bool.true_eq_false, Bool.not_true, Bool.not_false, reduceCtorEq, beq_iff_eq, Bool.not_eq_eq_eq_not, bne_iff_ne, ne_eq, decide_not, Decidable.not_not, Classical.not_not, emp_iff] at h')) | (refine And.intro (a := Both _ _ _) ?_ ?_; (refine ⟨fun h => ?_, fun h => ?_⟩ <;> first | rfl | exact h | exact Bool.noConfusion h | (rw [h]; rfl) | (rw [h]; simp only [Bool.not_false, Bool.not_true, Bool.and_true]; assumption) | (simp_all; done) | fail); skip) | refine And.intro rfl ?_ | refine Two.mk ?_ ?_ | refine And.intro (allU8_bytes _) ?_ | (refine And.intro (a := (_ : Bool) = true) ?_ ?_; (first | assumption | exact decide_eq_true (by assumption) | (rw [Bool.not_eq_true']; exact decide_eq_false (by assumption)) | (rw [Bool.not_not]; exact decide_eq_true (by assumption)) | (simp_all; done) | fail); skip) | refine And.intro (Or.inr rfl) ?_ | refine And.intro (Nat.le_of_ble_eq_true rfl) ?_ | refine And.intro (decide_eq_false (by omega)) ?_ | refine And.intro (show Program.stoodInHeld _ _ = _ by kernel_rfl) (And.intro (by kernel_rfl) ?_) | refine And.intro (show Nat.beq _ _ = _ from rfl) (And.intro (by decide) ?_) | refine And.intro ⟨rfl, rfl⟩ ?_ | refine And.intro ⟨rfl, rfl, trivial⟩ ?_ | refine And.intro (Int.natCast_nonneg _) ?_ | refine Or.inl (And.intro rfl (And.intro rfl (And.intro rfl (And.intro rfl ?_)))) | refine Or.inl (And.intro rfl (And.intro rfl ?_)) | refine Or.inr (And.intro (Nat.le_of_ble_eq_true rfl) ?_) | refine Or.inl (And.intro (by unfold in64; omega) ?_) | refine And.intro (by first | omega | (simp only [dlen, true_and, and_true, Nat.le_refl, List.length_map, List.length_append, List.length_cons, List.length_nil, List.length_take, List.length_drop, List.length_replicate, Int.toNat_natCast, List.append_nil, emp_iff] <;> omega) | fail) ?_ | refine And.intro (allU8_bytes _) ?_ | refine And.intro (show elemsP _ _ _ by repeat' (first | exact rfl | exact trivial | constructor)) ?_ | (refine Loops.by (M := M0) 7 noPlan fol (by kernel_rfl) (ι := Nat) (fun i => ⟨[(0, AV.d (D.sl 1 (rows.map encRow))), (1, AV.d (D.int .i64 c)), (5, AV.d (D.int .i64 i))], [], 16⟩) (fun i => i ≤ rows.length ∧ ∀ j, j < i → rowB (rows.getD j default) c = true) (fun i => rows.length - i) (fun i hI => ?_) (0) ⟨Nat.zero_le _, fun j h => absurd h (Nat.not_lt_zero _)⟩ (Forget.mk' ⟨⟨rfl, rfl⟩, ⟨rfl, rfl⟩, ⟨rfl, rfl⟩, trivial⟩ trivial rfl rfl); obtain ⟨hi, hok⟩ := hI) | (refine Loops.by (M := M0) 7 noPlan fol (by kernel_rfl) (ι := Nat) (fun k => ⟨[(0, AV.d (D.sl 1 (rows.map encRow))), (1, AV.d (D.int .i64 c)), (5, AV.d (D.int .i64 i)), (6, AV.d (D.int .i64 k))], [], 16⟩) (fun k => k ≤ (rows.getD i default).length ∧ ∀ j, j < k → cellB ((rows.getD i default).getD j default) = true) (fun k => (rows.getD i default).length - k) (fun k hI => ?_) (0) ⟨Nat.zero_le _, fun j h => absurd h (Nat.not_lt_zero _)⟩ (Forget.mk' ⟨⟨rfl, rfl⟩, ⟨rfl, rfl⟩, ⟨rfl, rfl⟩, ⟨rfl, rfl⟩, trivial⟩ trivial rfl rfl); obtain ⟨hk, hck⟩ := hI) | (refine fun x hx => ?_; (try simp (disch := omega) only [Int.tdiv_eq_ediv_of_nonneg, Int.tmod_eq_emod_of_nonneg, bx, Bool.true_or, Bool.false_or, Bool.or_false, Bool.or_true, Bool.and_true, Bool.true_and, Bool.false_and, Bool.and_false, cond_true, cond_false, if_true, if_false, Bool.false_eq_true, min_nn, max_nn, min_ln, min_nl, max_ln, max_nl, getD_map, str_of_bytes, take_bytes, take_data, wrap_u64, wrap_u32, wrap_u8, shr_i64, shr_u64, shr_u32, shl_i64, shl_u64, Int.reduceToNat, Int.reducePow, Int.pow_succ, Int.pow_zero, Int.one_mul, Int.reduceMul, wrap_id, wrap_u8_nat, wrap_i64_u8, byteD_mk, map_snoc, map_app, set_map, take_map', drop_map', Nat.sub_zero, List.length_map, List.length_append, List.length_cons, List.length_nil, Int.toNat_natCast, List.drop_zero, List.take_succ_cons, List.take_zero, List.take_length, List.nil_append, List.append_nil, Nat.zero_add, toNat_pred, toNat_succ, toNat_addn, toNat_subn, emp_iff] at hx); subst hx) | rw [List.take_length] | (rw [List.take_of_length_le]; rotate_left; (first | omega | (simp only [dlen, true_and, and_true, Nat.le_refl, List.length_map, List.length_append, List.length_cons, List.length_nil, List.length_take, List.length_drop, List.length_replicate, Int.toNat_natCast, List.append_nil, emp_iff] <;> omega) | fail)) | refine fun h => ?_ | fail)); all_goals (try exact (AV.dead : AV)); all_goals (try (conv => whnf))
  · exact rb (rowsB_no (by omega)).symm
  · exact rb (rowsB_row (i := i) (by omega) (rowB_len (by assumption))).symm
  · exact rb (rowsB_row (i := i) (by omega) (rowB_cell (k := k) (by omega) (cell_no (by assumption)))).symm
  · exact ⟨k + 1, ⟨⟨by omega, all_below hck (cell_yes (by assumption))⟩, by omega⟩, (Forget.mk' ⟨⟨rfl, rfl⟩, ⟨rfl, rfl⟩, ⟨rfl, rfl⟩, ⟨rfl, rfl⟩, trivial⟩ trivial rfl rfl)⟩
  · exact ⟨i + 1, ⟨⟨by omega, all_below hok (rowB_true (by assumption) (fun j hj => hck j (by omega)))⟩, by omega⟩, (Forget.mk' ⟨⟨rfl, rfl⟩, ⟨rfl, rfl⟩, ⟨rfl, rfl⟩, trivial⟩ trivial rfl rfl)⟩
  · exact rb (rowsB_true (by omega) (fun j hj => hok j (by omega))).symm
theorem refRight_con (keys : List Int) (aggs : List Ag) (c : Int) : Has Tryd.prog 9 [CV.d (D.sl 1 (keys.map intD)), CV.d (D.sl 2 (aggs.map encA)), CV.d (D.int .i64 c)] (fun rs _ => rs = [CV.d (D.bool (rightB keys aggs c))]) := by
  refine Has_of_run (fn := Tryd.f9) (M := M0) fol (by kernel_rfl) 9 noPlan [] [] (by kernel_rfl) (Nat.le_of_ble_eq_true rfl) ?_
  (repeat' ((conv => whnf); first | done | (refine And.intro (fun h => ?_) (fun h => ?_) <;> (try simp only [Bool.or_eq_true, Bool.and_eq_true, Bool.or_eq_false_iff, Bool.and_eq_false_iff, toNat_pred, toNat_succ, toNat_addn, toNat_subn, decide_eq_true_eq, decide_eq_false_iff_not, Bool.not_eq_true', Bool.not_eq_false', List.length_map, Int.toNat_natCast, Int.not_lt, Int.not_le, Bool.not_eq_true, Bool.false_eq_true, Bool.true_eq_false, Bool.not_true, Bool.not_false, reduceCtorEq, beq_iff_eq, Bool.not_eq_eq_eq_not, bne_iff_ne, ne_eq, decide_not, Decidable.not_not, Classical.not_not] at h)) | exact (rfl : (_ : AV) = _) | exact (rfl : (_ : St) = _) | refine Exists.intro (α := AV) AV.dead (And.intro (fun h => Bool.noConfusion h) ?_) | apply ex_av | (refine fun (h : (_ : Bool) = true) => ?_; have h' := h; (try simp only [Bool.or_eq_true, Bool.and_eq_true, Bool.or_eq_false_iff, Bool.and_eq_false_iff, toNat_pred, toNat_succ, toNat_addn, toNat_subn, decide_eq_true_eq, decide_eq_false_iff_not, Bool.not_eq_true', Bool.not_eq_false', List.length_map, Int.toNat_natCast, Int.not_lt, Int.not_le, Bool.not_eq_true, Bool.false_eq_true, Bool.true_eq_false, Bool.not_true, Bool.not_false, reduceCtorEq, beq_iff_eq, Bool.not_eq_eq_eq_not, bne_iff_ne, ne_eq, decide_not, Decidable.not_not, Classical.not_not] at h')) | (refine And.intro (a := Both _ _ _) ?_ ?_; (refine ⟨fun h => ?_, fun h => ?_⟩ <;> first | rfl | exact h | exact Bool.noConfusion h | (rw [h]; rfl) | (rw [h]; simp only [Bool.not_false, Bool.not_true, Bool.and_true]; assumption) | (simp_all; done) | fail); skip) | refine And.intro rfl ?_ | refine Two.mk ?_ ?_ | refine And.intro (allU8_bytes _) ?_ | (refine And.intro (a := (_ : Bool) = true) ?_ ?_; (first | assumption | exact decide_eq_true (by assumption) | (rw [Bool.not_eq_true']; exact decide_eq_false (by assumption)) | (rw [Bool.not_not]; exact decide_eq_true (by assumption)) | (simp_all; done) | fail); skip) | refine And.intro (Or.inr rfl) ?_ | refine And.intro (Nat.le_of_ble_eq_true rfl) ?_ | refine And.intro (decide_eq_false (by omega)) ?_ | refine And.intro (show Program.stoodInHeld _ _ = _ by kernel_rfl) (And.intro (by kernel_rfl) ?_) | refine And.intro (show Nat.beq _ _ = _ from rfl) (And.intro (by decide) ?_) | refine And.intro ⟨rfl, rfl⟩ ?_ | refine And.intro ⟨rfl, rfl, trivial⟩ ?_ | refine And.intro (Int.natCast_nonneg _) ?_ | refine Or.inl (And.intro rfl (And.intro rfl (And.intro rfl (And.intro rfl ?_)))) | refine Or.inl (And.intro rfl (And.intro rfl ?_)) | refine Or.inr (And.intro (Nat.le_of_ble_eq_true rfl) ?_) | refine Or.inl (And.intro (by unfold in64; omega) ?_) | refine And.intro (by first | omega | (simp only [dlen, true_and, and_true, Nat.le_refl, List.length_map, List.length_append, List.length_cons, List.length_nil, List.length_take, List.length_drop, List.length_replicate, Int.toNat_natCast, List.append_nil] <;> omega) | fail) ?_ | refine And.intro (allU8_bytes _) ?_ | refine And.intro (show elemsP _ _ _ by repeat' (first | exact rfl | exact trivial | constructor)) ?_ | (refine Loops.by (M := M0) 9 noPlan fol (by kernel_rfl) (ι := Nat) (fun i => ⟨[(0, AV.d (D.sl 1 (keys.map intD))), (1, AV.d (D.sl 2 (aggs.map encA))), (2, AV.d (D.int .i64 c)), (7, AV.d (D.int .i64 i))], [], 16⟩) (fun i => i ≤ keys.length ∧ ∀ j, j < i → keyB (keys.getD j default) c = true) (fun i => keys.length - i) (fun i hI => ?_) (0) ⟨Nat.zero_le _, fun j h => absurd h (Nat.not_lt_zero _)⟩ (Forget.mk' ⟨⟨rfl, rfl⟩, ⟨rfl, rfl⟩, ⟨rfl, rfl⟩, ⟨rfl, rfl⟩, trivial⟩ trivial rfl rfl); obtain ⟨hi, hok⟩ := hI) | (refine Loops.by (M := M0) 9 noPlan fol (by kernel_rfl) (ι := Nat) (fun k => ⟨[(1, AV.d (D.sl 2 (aggs.map encA))), (2, AV.d (D.int .i64 c)), (8, AV.d (D.int .i64 k))], [], 16⟩) (fun k => k ≤ aggs.length ∧ ∀ j, j < k → aggB (aggs.getD j default) c = true) (fun k => aggs.length - k) (fun k hI => ?_) (0) ⟨Nat.zero_le _, fun j h => absurd h (Nat.not_lt_zero _)⟩ (Forget.mk' ⟨⟨rfl, rfl⟩, ⟨rfl, rfl⟩, ⟨rfl, rfl⟩, trivial⟩ trivial rfl rfl); obtain ⟨hk, hck⟩ := hI) | (refine fun x hx => ?_; (try simp (disch := omega) only [Int.tdiv_eq_ediv_of_nonneg, Int.tmod_eq_emod_of_nonneg, bx, Bool.true_or, Bool.false_or, Bool.or_false, Bool.or_true, Bool.and_true, Bool.true_and, Bool.false_and, Bool.and_false, cond_true, cond_false, if_true, if_false, Bool.false_eq_true, min_nn, max_nn, min_ln, min_nl, max_ln, max_nl, getD_map, str_of_bytes, take_bytes, take_data, wrap_u64, wrap_u32, wrap_u8, shr_i64, shr_u64, shr_u32, shl_i64, shl_u64, Int.reduceToNat, Int.reducePow, Int.pow_succ, Int.pow_zero, Int.one_mul, Int.reduceMul, wrap_id, wrap_u8_nat, wrap_i64_u8, byteD_mk, map_snoc, map_app, set_map, take_map', drop_map', Nat.sub_zero, List.length_map, List.length_append, List.length_cons, List.length_nil, Int.toNat_natCast, List.drop_zero, List.take_succ_cons, List.take_zero, List.take_length, List.nil_append, List.append_nil, Nat.zero_add, toNat_pred, toNat_succ, toNat_addn, toNat_subn] at hx); subst hx) | rw [List.take_length] | (rw [List.take_of_length_le]; rotate_left; (first | omega | (simp only [dlen, true_and, and_true, Nat.le_refl, List.length_map, List.length_append, List.length_cons, List.length_nil, List.length_take, List.length_drop, List.length_replicate, Int.toNat_natCast, List.append_nil] <;> omega) | fail)) | refine fun h => ?_ | fail)); all_goals (try exact (AV.dead : AV)); all_goals (try (conv => whnf))
  · exact rb (rightG_long h).symm
  · exact rb (rightG_key (i := i) (by omega) (by omega)).symm
  · exact ⟨i + 1, ⟨⟨by omega, all_below hok (keyB_iff.2 (by omega))⟩, by omega⟩, (Forget.mk' ⟨⟨rfl, rfl⟩, ⟨rfl, rfl⟩, ⟨rfl, rfl⟩, ⟨rfl, rfl⟩, trivial⟩ trivial rfl rfl)⟩
  · exact rb (rightG_agg (k := k) (by omega) (by omega)).symm
  · exact ⟨k + 1, ⟨⟨by omega, all_below hck (aggB_iff.2 h)⟩, by omega⟩, (Forget.mk' ⟨⟨rfl, rfl⟩, ⟨rfl, rfl⟩, ⟨rfl, rfl⟩, trivial⟩ trivial rfl rfl)⟩
  · exact rb (rightG_yes (by assumption) (by omega) hok (by omega) hck).symm
def pl20 : Nat → Plan
  | 14 => tks 0 [0, 0, 0, 0, 0, 1, 0, 0, 0, 1, 0, 1, 0, 0, 0, 1, 0, 0, 0, 1, 0, 1, 0, 0] (.one 24 (.done))
  | _ => .done
theorem refNumbers_con (rows : List Rw) (keys : List Int) (hl : keys.length ≤ 1000) (hrl : rows.length ≤ 10000) (hr : ∀ r ∈ rows, ∀ c ∈ keys, 0 ≤ c ∧ c < r.length) : Has Tryd.prog 20 [CV.d (D.sl 1 (rows.map encRow)), CV.d (D.sl 1 (keys.map intD))] (fun rs _ => rs = [CV.own 3 1 ((numsK (keysS rows keys)).map intD)] ) := by
  have hb3 : Tryd.prog.bytesOf 3 = 8 := by kernel_rfl
  refine Has_of_run (fn := Tryd.f20) (M := M0) fol (by kernel_rfl) 12 pl20 [.own] [] (by kernel_rfl) (Nat.le_of_ble_eq_true rfl) ?_
  (repeat' ((conv => whnf); first | done | (refine And.intro (fun h => ?_) (fun h => ?_) <;> (try simp only [Bool.or_eq_true, Bool.and_eq_true, Bool.or_eq_false_iff, Bool.and_eq_false_iff, toNat_pred, toNat_succ, toNat_addn, toNat_subn, decide_eq_true_eq, decide_eq_false_iff_not, Bool.not_eq_true', Bool.not_eq_false', List.length_map, Int.toNat_natCast, Int.not_lt, Int.not_le, Bool.not_eq_true, Bool.false_eq_true, Bool.true_eq_false, Bool.not_true, Bool.not_false, reduceCtorEq, beq_iff_eq, Bool.not_eq_eq_eq_not, bne_iff_ne, ne_eq, decide_not, Decidable.not_not, Classical.not_not, numsK_len] at h)) | exact (rfl : (_ : AV) = _) | exact (rfl : (_ : St) = _) | refine Exists.intro (α := AV) AV.dead (And.intro (fun h => Bool.noConfusion h) ?_) | apply ex_av | (refine fun (h : (_ : Bool) = true) => ?_; have h' := h; (try simp only [Bool.or_eq_true, Bool.and_eq_true, Bool.or_eq_false_iff, Bool.and_eq_false_iff, toNat_pred, toNat_succ, toNat_addn, toNat_subn, decide_eq_true_eq, decide_eq_false_iff_not, Bool.not_eq_true', Bool.not_eq_false', List.length_map, Int.toNat_natCast, Int.not_lt, Int.not_le, Bool.not_eq_true, Bool.false_eq_true, Bool.true_eq_false, Bool.not_true, Bool.not_false, reduceCtorEq, beq_iff_eq, Bool.not_eq_eq_eq_not, bne_iff_ne, ne_eq, decide_not, Decidable.not_not, Classical.not_not, numsK_len] at h')) | (refine And.intro (a := Both _ _ _) ?_ ?_; (refine ⟨fun h => ?_, fun h => ?_⟩ <;> first | rfl | exact h | exact Bool.noConfusion h | (rw [h]; rfl) | (rw [h]; simp only [Bool.not_false, Bool.not_true, Bool.and_true]; assumption) | (simp_all; done) | fail); skip) | refine And.intro rfl ?_ | refine Two.mk ?_ ?_ | refine And.intro (allU8_bytes _) ?_ | (refine And.intro (a := (_ : Bool) = true) ?_ ?_; (first | assumption | exact decide_eq_true (by assumption) | (rw [Bool.not_eq_true']; exact decide_eq_false (by assumption)) | (rw [Bool.not_not]; exact decide_eq_true (by assumption)) | (simp_all; done) | fail); skip) | refine And.intro (Or.inr rfl) ?_ | refine And.intro (Nat.le_of_ble_eq_true rfl) ?_ | refine And.intro (decide_eq_false (by omega)) ?_ | refine And.intro (show Program.stoodInHeld _ _ = _ by kernel_rfl) (And.intro (by kernel_rfl) ?_) | refine And.intro (show Nat.beq _ _ = _ from rfl) (And.intro (by decide) ?_) | refine And.intro ⟨rfl, rfl⟩ ?_ | refine And.intro ⟨rfl, rfl, trivial⟩ ?_ | refine And.intro (Int.natCast_nonneg _) ?_ | refine Or.inl (And.intro rfl (And.intro rfl (And.intro rfl (And.intro rfl ?_)))) | refine Or.inl (And.intro rfl (And.intro rfl ?_)) | refine Or.inr (And.intro (Nat.le_of_ble_eq_true rfl) ?_) | refine Or.inl (And.intro (by unfold in64; omega) ?_) | refine And.intro (by first | omega | (simp only [dlen, true_and, and_true, Nat.le_refl, List.length_map, List.length_append, List.length_cons, List.length_nil, List.length_take, List.length_drop, List.length_replicate, Int.toNat_natCast, List.append_nil, hb3, numsK_len] <;> omega) | fail) ?_ | refine And.intro (allU8_bytes _) ?_ | refine And.intro (show elemsP _ _ _ by repeat' (first | exact rfl | exact trivial | constructor)) ?_ | (refine Loops.by (M := M0) 12 pl20 fol (by kernel_rfl) (ι := Nat) (fun i => ⟨[(0, AV.d (D.sl 1 (rows.map encRow))), (1, AV.d (D.sl 1 (keys.map intD))), (5, AV.ref [5] 16 1 0 ((numsK ((keysS rows keys).take i)).map intD).length), (6, AV.d (D.int .i64 ((distK ((keysS rows keys).take i)).length))), (7, AV.d (D.int .i64 i))], [([5], 16, AO.row 3 1 ((numsK ((keysS rows keys).take i)).map intD))], 17⟩) (fun i => i ≤ rows.length) (fun i => rows.length - i) (fun i hI => ?_) (0) (Nat.zero_le _) (Forget.mk' ⟨⟨rfl, rfl⟩, ⟨rfl, rfl⟩, ⟨rfl, rfl⟩, ⟨rfl, rfl⟩, ⟨rfl, rfl⟩, trivial⟩ ⟨⟨rfl, rfl, rfl⟩, trivial⟩ rfl rfl); have hi := hI; have hri : (i : Int) < rows.length → ∀ c ∈ keys, 0 ≤ c ∧ c < (rows.getD i default).length := (fun h => hr _ (getD_mem (by omega))); have hnl : i ≤ rows.length → (numsK ((keysS rows keys).take i)).length = i := (fun h => by rw [numsK_len, List.length_take, List.length_map]; omega); have hdl := distK_le (keysS rows keys) i) | (refine Loops.by (M := M0) 12 pl20 fol (by kernel_rfl) (ι := Nat × Int) (fun ⟨k, v⟩ => ⟨[(0, AV.d (D.sl 1 (rows.map encRow))), (1, AV.d (D.sl 1 (keys.map intD))), (5, AV.ref [5] 16 1 0 ((numsK ((keysS rows keys).take i)).map intD).length), (6, AV.d (D.int .i64 ((distK ((keysS rows keys).take i)).length))), (7, AV.d (D.int .i64 i)), (8, AV.d (D.int .i64 v)), (9, AV.d (D.int .i64 k))], [([5], 16, AO.row 3 1 ((numsK ((keysS rows keys).take i)).map intD))], 17⟩) (fun ⟨k, v⟩ => k ≤ i ∧ AtS rows keys i k v) (fun ⟨k, v⟩ => i - k) (fun p hI => ?_) ((0, -1)) ⟨Nat.zero_le _, AtS.zero _ _ _⟩ (Forget.mk' ⟨⟨rfl, rfl⟩, ⟨rfl, rfl⟩, ⟨rfl, rfl⟩, ⟨rfl, rfl⟩, ⟨rfl, rfl⟩, ⟨rfl, rfl⟩, ⟨rfl, rfl⟩, trivial⟩ ⟨⟨rfl, rfl, rfl⟩, trivial⟩ rfl rfl); obtain ⟨k, v⟩ := p; obtain ⟨hk, hat⟩ := hI; have hrk : (k : Int) < rows.length → ∀ c ∈ keys, 0 ≤ c ∧ c < (rows.getD k default).length := (fun h => hr _ (getD_mem (by omega)))) | (refine Loops.by (M := M0) 12 pl20 fol (by kernel_rfl) (ι := Nat × Bool) (fun ⟨c, s⟩ => ⟨[(0, AV.d (D.sl 1 (rows.map encRow))), (1, AV.d (D.sl 1 (keys.map intD))), (5, AV.ref [5] 16 1 0 ((numsK ((keysS rows keys).take i)).map intD).length), (6, AV.d (D.int .i64 ((distK ((keysS rows keys).take i)).length))), (7, AV.d (D.int .i64 i)), (8, AV.d (D.int .i64 v)), (9, AV.d (D.int .i64 k)), (10, AV.d (D.bool s)), (11, AV.d (D.int .i64 c))], [([5], 16, AO.row 3 1 ((numsK ((keysS rows keys).take i)).map intD))], 17⟩) (fun ⟨c, s⟩ => c ≤ keys.length ∧ SameC (rows.getD i default) (rows.getD k default) keys c s) (fun ⟨c, s⟩ => keys.length - c) (fun p hI => ?_) ((0, true)) ⟨Nat.zero_le _, SameC.zero _ _ _⟩ (Forget.mk' ⟨⟨rfl, rfl⟩, ⟨rfl, rfl⟩, ⟨rfl, rfl⟩, ⟨rfl, rfl⟩, ⟨rfl, rfl⟩, ⟨rfl, rfl⟩, ⟨rfl, rfl⟩, ⟨rfl, rfl⟩, ⟨rfl, rfl⟩, trivial⟩ ⟨⟨rfl, rfl, rfl⟩, trivial⟩ rfl rfl); obtain ⟨c, s⟩ := p; obtain ⟨hc, hsm⟩ := hI; have hric : (c : Int) < keys.length → 0 ≤ keys.getD c default ∧ keys.getD c default < (rows.getD i default).length := (fun h => hri (by omega) _ (getD_mem (by omega))); have hrkc : (c : Int) < keys.length → 0 ≤ keys.getD c default ∧ keys.getD c default < (rows.getD k default).length := (fun h => hrk (by omega) _ (getD_mem (by omega)))) | (refine fun x hx => ?_; (try simp (disch := omega) only [Int.tdiv_eq_ediv_of_nonneg, Int.tmod_eq_emod_of_nonneg, bx, Bool.true_or, Bool.false_or, Bool.or_false, Bool.or_true, Bool.and_true, Bool.true_and, Bool.false_and, Bool.and_false, cond_true, cond_false, if_true, if_false, Bool.false_eq_true, min_nn, max_nn, min_ln, min_nl, max_ln, max_nl, getD_map, str_of_bytes, take_bytes, take_data, wrap_u64, wrap_u32, wrap_u8, shr_i64, shr_u64, shr_u32, shl_i64, shl_u64, Int.reduceToNat, Int.reducePow, Int.pow_succ, Int.pow_zero, Int.one_mul, Int.reduceMul, wrap_id, wrap_u8_nat, wrap_i64_u8, byteD_mk, map_snoc, map_app, set_map, take_map', drop_map', Nat.sub_zero, List.length_map, List.length_append, List.length_cons, List.length_nil, Int.toNat_natCast, List.drop_zero, List.take_succ_cons, List.take_zero, List.take_length, List.nil_append, List.append_nil, Nat.zero_add, toNat_pred, toNat_succ, toNat_addn, toNat_subn, numsK_len] at hx); subst hx) | rw [List.take_length] | (rw [List.take_of_length_le]; rotate_left; (first | omega | (simp only [dlen, true_and, and_true, Nat.le_refl, List.length_map, List.length_append, List.length_cons, List.length_nil, List.length_take, List.length_drop, List.length_replicate, Int.toNat_natCast, List.append_nil, hb3, numsK_len] <;> omega) | fail)) | refine fun h => ?_ | fail)); all_goals (try exact (AV.dead : AV)); all_goals (try (conv => whnf))
  · exact ⟨(c + 1, _), ⟨⟨by show c + 1 ≤ _; omega, hsm.step (by omega)⟩, by show keys.length - (c + 1) < keys.length - c; omega⟩, (Forget.mk' ⟨⟨rfl, rfl⟩, ⟨rfl, rfl⟩, ⟨rfl, rfl⟩, ⟨rfl, rfl⟩, ⟨rfl, rfl⟩, ⟨rfl, rfl⟩, ⟨rfl, rfl⟩, ⟨rfl, rfl⟩, ⟨rfl, rfl⟩, trivial⟩ ⟨⟨rfl, rfl, rfl⟩, trivial⟩ rfl rfl)⟩
  · exact ⟨(k + 1, (numsK ((keysS rows keys).take i)).getD k default), ⟨⟨by show k + 1 ≤ _; omega, AtS.yes (by omega) (by omega) ((hsm.all (by omega)).1 h)⟩, by show i - (k + 1) < i - k; omega⟩, (Forget.mk' ⟨⟨rfl, rfl⟩, ⟨rfl, rfl⟩, ⟨rfl, rfl⟩, ⟨rfl, rfl⟩, ⟨rfl, rfl⟩, ⟨rfl, rfl⟩, ⟨rfl, rfl⟩, trivial⟩ ⟨⟨rfl, rfl, rfl⟩, trivial⟩ rfl rfl)⟩
  · exact ⟨(k + 1, v), ⟨⟨by show k + 1 ≤ _; omega, hat.no (by omega) (fun e => by rw [(hsm.all (by omega)).2 e] at h; cases h)⟩, by show i - (k + 1) < i - k; omega⟩, (Forget.mk' ⟨⟨rfl, rfl⟩, ⟨rfl, rfl⟩, ⟨rfl, rfl⟩, ⟨rfl, rfl⟩, ⟨rfl, rfl⟩, ⟨rfl, rfl⟩, ⟨rfl, rfl⟩, trivial⟩ ⟨⟨rfl, rfl, rfl⟩, trivial⟩ rfl rfl)⟩
  · obtain ⟨e2, e3⟩ := (hat.stop (by omega) (by omega)).1 (by omega)
    refine ⟨i + 1, ⟨by omega, by omega⟩, ?_⟩
    rw [e3, ← (keys_step (by omega)).1, e2]
    exact (Forget.mk' ⟨⟨rfl, rfl⟩, ⟨rfl, rfl⟩, ⟨rfl, rfl⟩, ⟨rfl, rfl⟩, ⟨rfl, rfl⟩, trivial⟩ ⟨⟨rfl, rfl, rfl⟩, trivial⟩ rfl rfl)
  · obtain ⟨e2, e3⟩ := (hat.stop (by omega) (by omega)).2 (by omega)
    refine ⟨i + 1, ⟨by omega, by omega⟩, ?_⟩
    rw [e3, ← (keys_step (by omega)).1, e2]
    exact (Forget.mk' ⟨⟨rfl, rfl⟩, ⟨rfl, rfl⟩, ⟨rfl, rfl⟩, ⟨rfl, rfl⟩, ⟨rfl, rfl⟩, trivial⟩ ⟨⟨rfl, rfl, rfl⟩, trivial⟩ rfl rfl)
end Go.Fw
namespace Go.Fw
open Go
set_option linter.unusedVariables false
set_option linter.unusedSimpArgs false
theorem dsS_zero {rows : List Rw} {keys : List Int} : (keys.length = 0 → (1 : Int) = ((dsS rows keys 0).length : Int)) ∧ (¬ keys.length = 0 → (0 : Int) = ((dsS rows keys 0).length : Int)) := by
  refine ⟨fun h => ?_, fun h => ?_⟩
  · unfold dsS
    rw [if_pos h]
    rfl
  · unfold dsS
    rw [if_neg h]
    simp [distK]
theorem dsS_old {rows : List Rw} {keys : List Int} {i : Nat} (h : i < rows.length) (hk : inK (dsS rows keys i) (ofS (rows.getD i default) keys) = true) : (dsS rows keys (i + 1)).length = (dsS rows keys i).length := by
  rw [dsS_step h]
  unfold addK
  rw [if_pos hk]
theorem dsS_new {rows : List Rw} {keys : List Int} {i : Nat} (h : i < rows.length) (hk : inK (dsS rows keys i) (ofS (rows.getD i default) keys) = false) : (dsS rows keys (i + 1)).length = (dsS rows keys i).length + 1 := by
  rw [dsS_step h]
  unfold addK
  rw [if_neg (by rw [hk]; decide)]
  simp
 
theorem num_iff {rows : List Rw} {keys : List Int} {i j : Nat} (hi : i < rows.length) (hj : j < (dsS rows keys rows.length).length) : (numsK (keysS rows keys)).getD i default = (j : Int) ↔ ofS (rows.getD i default) keys = dj rows keys j := by
  have hl : i < (keysS rows keys).length := by rw [List.length_map]; exact hi
  by_cases h0 : keys.length = 0
  · have hd : dsS rows keys rows.length = [[]] := by unfold dsS; rw [if_pos h0]
    have hj0 : j = 0 := by rw [hd] at hj; simpa using hj
    subst hj0
    have e1 : dj rows keys 0 = [] := by unfold dj; rw [hd]; rfl
    have e2 : (numsK (keysS rows keys)).getD i default = 0 := by
      rw [num_at hi, ofS_nil h0]
      unfold dsS
      rw [if_pos h0]
      rfl
    rw [e1, e2, ofS_nil h0]
    simp
  · have hd : dsS rows keys rows.length = distK (keysS rows keys) := by
      unfold dsS
      rw [if_neg h0, List.take_of_length_le (by rw [List.length_map]; exact Nat.le_refl _)]
    rw [hd] at hj
    unfold dj
    rw [hd, numsK_at hl, keysS_at hi]
    have hm : ofS (rows.getD i default) keys ∈ distK (keysS rows keys) := by
      rw [(distK_spec _).2.1, ← keysS_at hi, getD_lt hl]
      exact List.getElem_mem hl
    obtain ⟨_, h2, h3⟩ := idxK_mem (t := []) hm
    constructor
    · intro h
      have : idxK (distK (keysS rows keys)) (ofS (rows.getD i default) keys) = j := by omega
      rw [this] at h3
      exact h3.symm
    · intro h
      rw [h, idxK_at (distK_spec _).1 hj]
theorem grp_yes {rows : List Rw} {keys : List Int} {i j : Nat} (hi : i < rows.length) (hj : j < (dsS rows keys rows.length).length) (h : (numsK (keysS rows keys)).getD i default = (j : Int)) : grpS (rows.take (i + 1)) keys (dj rows keys j) = grpS (rows.take i) keys (dj rows keys j) ++ [rows.getD i default] := by
  rw [grpS_step hi, if_pos ((num_iff hi hj).1 h)]
theorem grp_no {rows : List Rw} {keys : List Int} {i j : Nat} (hi : i < rows.length) (hj : j < (dsS rows keys rows.length).length) (h : ¬ (numsK (keysS rows keys)).getD i default = (j : Int)) : grpS (rows.take (i + 1)) keys (dj rows keys j) = grpS (rows.take i) keys (dj rows keys j) := by
  rw [grpS_step hi, if_neg (fun e => h ((num_iff hi hj).2 e))]
theorem grp_pos {rows : List Rw} {keys : List Int} {j : Nat} (hj : j < (dsS rows keys rows.length).length) (h0 : 0 < keys.length) : 0 < (grpS rows keys (dj rows keys j)).length := by
  refine Nat.pos_of_ne_zero fun h => ?_
  have hd : dsS rows keys rows.length = distK ((keysS rows keys).take rows.length) := by unfold dsS; rw [if_neg (by omega)]
  have hm : dj rows keys j ∈ distK ((keysS rows keys).take rows.length) := by
    unfold dj
    rw [hd] at hj ⊢
    rw [getD_lt hj]
    exact List.getElem_mem hj
  have h2 := List.mem_of_mem_take (((distK_spec _).2.1 _).1 hm)
  obtain ⟨r, hr, e⟩ := List.mem_map.1 h2
  have : r ∈ grpS rows keys (dj rows keys j) := List.mem_filter.2 ⟨hr, by simp only [sameV]; exact decide_eq_true e⟩
  rw [List.eq_nil_of_length_eq_zero h] at this
  simp at this
 
theorem out_begin {rows : List Rw} {keys : List Int} {j c : Nat} (aggs : List Ag) (hj : j < (dsS rows keys rows.length).length) (hc : keys.length ≤ c) :
    (ofS ((grpS rows keys (dj rows keys j)).getD 0 default) (keys.take c)).map encV = (dj rows keys j ++ (aggs.take 0).map (oneS (grpS rows keys (dj rows keys j)))).map encV := by
  rw [List.take_of_length_le hc]
  by_cases h : 0 < (grpS rows keys (dj rows keys j)).length
  · exact out_first aggs h
  · have h0 : keys.length = 0 := by
      refine Classical.byContradiction fun hn => h (grp_pos hj (by omega))
    rw [ofS_nil h0]
    exact out_none aggs hj (by omega)
theorem oneS_flat (g : List Rw) (a : Ag) : (encV (oneS g a)).flat = true := rfl
theorem num_bnd {rows : List Rw} {keys : List Int} {i : Nat} (hi : i < rows.length) : 0 ≤ (numsK (keysS rows keys)).getD i default ∧ (numsK (keysS rows keys)).getD i default ≤ (i : Int) := by
  have h1 := gs_bnd rows keys i 0 (by omega)
  have hd := dsS_len rows keys i (by omega)
  rcases num_case (keys := keys) hi with ⟨hk, hn, hl⟩ | ⟨hk, hn⟩
  · rw [hn]
    omega
  · rw [hn]
    have h0 : ¬ keys.length = 0 := fun h0 => by
      unfold dsS at hk
      rw [if_pos h0, ofS_nil h0] at hk
      cases hk
    have h2 : (gsS rows keys i).length ≤ i := by
      rw [gsS_len]
      unfold dsS
      rw [if_neg h0]
      exact distK_le _ _
    omega
theorem num_up {rows : List Rw} {keys : List Int} {i : Nat} (hi : i < rows.length) :
    (((dsS rows keys i).length : Int) < (numsK (keysS rows keys)).getD i default + 1 → (numsK (keysS rows keys)).getD i default + 1 = ((dsS rows keys (i + 1)).length : Int)) ∧
    ((numsK (keysS rows keys)).getD i default + 1 ≤ ((dsS rows keys i).length : Int) → ((dsS rows keys i).length : Int) = ((dsS rows keys (i + 1)).length : Int)) := by
  have hg := gsS_len rows keys i
  rcases num_case (keys := keys) hi with ⟨hk, hn, hl⟩ | ⟨hk, hn⟩
  · rw [hn, dsS_old hi hk]
    omega
  · rw [hn, dsS_new hi hk]
    omega
theorem out_round2 {rows : List Rw} {keys : List Int} {aggs : List Ag} {e j m : Nat} (hj : j < (dsS rows keys rows.length).length) (hm : aggs.length ≤ m) :
    (((dsS rows keys rows.length).take j).map (outS rows keys aggs)).map (rNE e) ++ [NE.row e 2 ((dj rows keys j ++ (aggs.take m).map (oneS (grpS rows keys (dj rows keys j)))).map encV)] = (((dsS rows keys rows.length).take (j + 1)).map (outS rows keys aggs)).map (rNE e) := out_round hj hm
end Go.Fw
namespace Go.Fw
open Go Go.Proofs
set_option maxHeartbeats 10000000
set_option maxRecDepth 100000
set_option linter.constructorNameAsVariable false
set_option linter.unusedVariables false
set_option linter.unusedSimpArgs false
theorem refOne_ro (rows : List Rw) (a : Ag) (hk : 1 ≤ a.1 ∧ a.1 ≤ 5) (hc : ¬ a.1 = 1 → ∀ r ∈ rows, 0 ≤ a.2 ∧ a.2 < r.length) (hl : rows.length ≤ 1000) (hz : ∀ r ∈ rows, ∀ v ∈ r, v.2.size ≤ 1000000) : Has Tryd.prog 21 [CV.d (D.sl 1 (rows.map encRow)), CV.d (encA a)] (fun rs bs => rs = [CV.d (encV (oneS rows a))] ∧ bs = [.gone, .gone]) :=
  (refOne_con rows a hk hc hl hz).gone.mono fun rs bs h => by obtain ⟨⟨_, h1⟩, h2⟩ := h; exact ⟨h1, h2⟩
def M11 : FuncId → List Mode := fun g => if g = 21 then [.ro, .ro] else []
def pl11 : Nat → Plan
  | 24 => tks 0 [0, 0, 0] (tks 4 [0, 0, 0] (.tak 3 .rd [8, 9, 10, 11, 12] (.tak 7 .rd [8, 9, 10, 11, 12] (tks 8 [0] (.tak 9 .rd [10, 11, 12] (.one 10 (.one 11 (.one 12 (.done)))))))))
  | _ => .done
theorem refBy_con (rows : List Rw) (keys : List Int) (aggs : List Ag) (ok : RowsOK rows keys aggs) (hak : ∀ a ∈ aggs, 1 ≤ a.1 ∧ a.1 ≤ 5) : Has Tryd.prog 11 [CV.d (D.sl 1 (rows.map encRow)), CV.d (D.sl 1 (keys.map intD)), CV.d (D.sl 2 (aggs.map encA))] (fun rs _ => rs = [CV.d (D.sl 1 ((byS rows keys aggs).map encRow))] ) := by
  have hkl := ok.kl; have hrl := ok.rl; have hal := ok.al; have hnl0 := keys_len rows keys; have hdl := dsS_len rows keys rows.length (Nat.le_refl _)
  have hb36 : Tryd.prog.bytesOf 36 = 24 := by kernel_rfl
  have hb37 : Tryd.prog.bytesOf 37 = 24 := by kernel_rfl
  refine Has_of_run (fn := Tryd.f11) (M := M11) fol (by kernel_rfl) 17 pl11 [] [] (by kernel_rfl) (Nat.le_of_ble_eq_true rfl) ?_
  (repeat' ((conv => whnf); first | done | (refine And.intro (fun h => ?_) (fun h => ?_) <;> (try simp only [Bool.or_eq_true, Bool.and_eq_true, Bool.or_eq_false_iff, Bool.and_eq_false_iff, toNat_pred, toNat_succ, toNat_addn, toNat_subn, decide_eq_true_eq, decide_eq_false_iff_not, Bool.not_eq_true', Bool.not_eq_false', List.length_map, Int.toNat_natCast, Int.not_lt, Int.not_le, Bool.not_eq_true, Bool.false_eq_true, Bool.true_eq_false, Bool.not_true, Bool.not_false, reduceCtorEq, beq_iff_eq, Bool.not_eq_eq_eq_not, bne_iff_ne, ne_eq, decide_not, Decidable.not_not, Classical.not_not, numsK_len, ofS_len, List.length_set] at h)) | exact (rfl : (_ : AV) = _) | exact (rfl : (_ : St) = _) | refine Exists.intro (α := AV) AV.dead (And.intro (fun h => Bool.noConfusion h) ?_) | apply ex_av | (refine fun (h : (_ : Bool) = true) => ?_; have h' := h; (try simp only [Bool.or_eq_true, Bool.and_eq_true, Bool.or_eq_false_iff, Bool.and_eq_false_iff, toNat_pred, toNat_succ, toNat_addn, toNat_subn, decide_eq_true_eq, decide_eq_false_iff_not, Bool.not_eq_true', Bool.not_eq_false', List.length_map, Int.toNat_natCast, Int.not_lt, Int.not_le, Bool.not_eq_true, Bool.false_eq_true, Bool.true_eq_false, Bool.not_true, Bool.not_false, reduceCtorEq, beq_iff_eq, Bool.not_eq_eq_eq_not, bne_iff_ne, ne_eq, decide_not, Decidable.not_not, Classical.not_not, numsK_len, ofS_len, List.length_set] at h')) | (refine And.intro (a := Both _ _ _) ?_ ?_; (refine ⟨fun h => ?_, fun h => ?_⟩ <;> first | rfl | exact h | exact Bool.noConfusion h | (rw [h]; rfl) | (rw [h]; simp only [Bool.not_false, Bool.not_true, Bool.and_true]; assumption) | (simp_all; done) | fail); skip) | refine And.intro rfl ?_ | refine Two.mk ?_ ?_ | refine And.intro (allU8_bytes _) ?_ | (refine And.intro (a := (_ : Bool) = true) ?_ ?_; (first | assumption | exact decide_eq_true (by assumption) | (rw [Bool.not_eq_true']; exact decide_eq_false (by assumption)) | (rw [Bool.not_not]; exact decide_eq_true (by assumption)) | (simp_all; done) | fail); skip) | refine And.intro (Or.inr rfl) ?_ | refine And.intro (Nat.le_of_ble_eq_true rfl) ?_ | refine And.intro (decide_eq_false (by omega)) ?_ | refine And.intro (show Program.stoodInHeld _ _ = _ by kernel_rfl) (And.intro (by kernel_rfl) ?_) | refine And.intro (show Nat.beq _ _ = _ from rfl) (And.intro (by decide) ?_) | refine And.intro ⟨rfl, rfl⟩ ?_ | refine And.intro ⟨rfl, rfl, trivial⟩ ?_ | refine And.intro (Int.natCast_nonneg _) ?_ | refine Or.inl (And.intro rfl (And.intro rfl (And.intro rfl (And.intro rfl ?_)))) | refine Or.inl (And.intro rfl (And.intro rfl ?_)) | refine Or.inr (And.intro (Nat.le_of_ble_eq_true rfl) ?_) | refine Or.inl (And.intro (by unfold in64; omega) ?_) | refine And.intro (by first | omega | (simp only [dlen, true_and, and_true, Nat.le_refl, List.length_map, List.length_append, List.length_cons, List.length_nil, List.length_take, List.length_drop, List.length_replicate, Int.toNat_natCast, List.append_nil, hb36, hb37, numsK_len, ofS_len, List.length_set] <;> omega) | fail) ?_ | refine And.intro (allU8_bytes _) ?_ | refine And.intro (show elemsP _ _ _ by repeat' (first | exact rfl | exact trivial | constructor)) ?_ | (refine And.intro (noHole_r _ _) ?_) | (refine And.intro ⟨rfl, rfl, rfl⟩ ?_) | (refine And.intro ⟨rfl, rfl, rfl, rfl, rfl⟩ ?_) | (refine And.intro (show ¬ _ = _ by decide) ?_) | (rw [List.drop_zero, List.take_length]) | (refine (refNumbers_con rows keys hkl (by omega) ok.kc).mono fun rs bs hr => ?_; subst hr) | (refine Loops.by (M := M11) 17 pl11 fol (by kernel_rfl) (ι := Nat × Int) (fun ⟨i, n⟩ => ⟨[(0, AV.d (D.sl 1 (rows.map encRow))), (1, AV.d (D.sl 1 (keys.map intD))), (2, AV.d (D.sl 2 (aggs.map encA))), (7, AV.ref [7] 16 1 0 ((numsK (keysS rows keys)).map intD).length), (8, AV.d (D.int .i64 n)), (9, AV.d (D.int .i64 i))], [([7], 16, AO.row 3 1 ((numsK (keysS rows keys)).map intD))], 17⟩) (fun ⟨i, n⟩ => i ≤ rows.length ∧ n = (dsS rows keys i).length) (fun ⟨i, n⟩ => rows.length - i) (fun p hI => ?_) ((0, 0)) ⟨Nat.zero_le _, dsS_zero.2 (by omega)⟩ (Forget.mk' ⟨⟨rfl, rfl⟩, ⟨rfl, rfl⟩, ⟨rfl, rfl⟩, ⟨rfl, rfl⟩, ⟨rfl, rfl⟩, ⟨rfl, rfl⟩, trivial⟩ ⟨⟨rfl, rfl, rfl⟩, trivial⟩ rfl rfl); obtain ⟨i, n⟩ := p; obtain ⟨hi, rfl⟩ := hI; have hdi := dsS_len rows keys i hi; have hgi := gsS_len rows keys i; have hnb : (i : Int) < rows.length → 0 ≤ (numsK (keysS rows keys)).getD i default ∧ (numsK (keysS rows keys)).getD i default ≤ (i : Int) := (fun h => num_bnd (by omega))) | (refine Loops.by (M := M11) 17 pl11 fol (by kernel_rfl) (ι := Nat × Int) (fun ⟨i, n⟩ => ⟨[(0, AV.d (D.sl 1 (rows.map encRow))), (1, AV.d (D.sl 1 (keys.map intD))), (2, AV.d (D.sl 2 (aggs.map encA))), (7, AV.ref [7] 16 1 0 ((numsK (keysS rows keys)).map intD).length), (8, AV.d (D.int .i64 n)), (9, AV.d (D.int .i64 i))], [([7], 16, AO.row 3 1 ((numsK (keysS rows keys)).map intD))], 17⟩) (fun ⟨i, n⟩ => i ≤ rows.length ∧ n = (dsS rows keys i).length) (fun ⟨i, n⟩ => rows.length - i) (fun p hI => ?_) ((0, 1)) ⟨Nat.zero_le _, dsS_zero.1 (by omega)⟩ (Forget.mk' ⟨⟨rfl, rfl⟩, ⟨rfl, rfl⟩, ⟨rfl, rfl⟩, ⟨rfl, rfl⟩, ⟨rfl, rfl⟩, ⟨rfl, rfl⟩, trivial⟩ ⟨⟨rfl, rfl, rfl⟩, trivial⟩ rfl rfl); obtain ⟨i, n⟩ := p; obtain ⟨hi, rfl⟩ := hI; have hdi := dsS_len rows keys i hi; have hgi := gsS_len rows keys i; have hnb : (i : Int) < rows.length → 0 ≤ (numsK (keysS rows keys)).getD i default ∧ (numsK (keysS rows keys)).getD i default ≤ (i : Int) := (fun h => num_bnd (by omega))) | (have hie : i = rows.length := (by omega); subst hie; refine Loops.toNest [10] rfl rfl ?_; refine Loops.by (M := M11) 17 pl11 fol (by kernel_rfl) (ι := Nat × List NE) (fun ⟨j, ol⟩ => ⟨[(0, AV.d (D.sl 1 (rows.map encRow))), (1, AV.d (D.sl 1 (keys.map intD))), (2, AV.d (D.sl 2 (aggs.map encA))), (7, AV.ref [7] 16 1 0 ((numsK (keysS rows keys)).map intD).length), (8, AV.d (D.int .i64 ((dsS rows keys rows.length).length))), (10, AV.nref [10] 17 ol.length), (11, AV.d (D.int .i64 j))], [([7], 16, AO.row 3 1 ((numsK (keysS rows keys)).map intD)), ([10], 17, AO.nest 37 ol)], 18⟩) (fun ⟨j, ol⟩ => j ≤ (dsS rows keys rows.length).length ∧ ol = (((dsS rows keys rows.length).take j).map (outS rows keys aggs)).map (rNE 36)) (fun ⟨j, ol⟩ => (dsS rows keys rows.length).length - j) (fun p hI => ?_) ((0, [])) ⟨Nat.zero_le _, rfl⟩ (Forget.mk' ⟨⟨rfl, rfl⟩, ⟨rfl, rfl⟩, ⟨rfl, rfl⟩, ⟨rfl, rfl⟩, ⟨rfl, rfl⟩, ⟨rfl, rfl⟩, ⟨rfl, rfl⟩, trivial⟩ ⟨⟨rfl, rfl, rfl⟩, ⟨rfl, rfl, rfl⟩, trivial⟩ rfl rfl); obtain ⟨j, ol⟩ := p; obtain ⟨hj, rfl⟩ := hI; have hgj := gj_len rows keys j; have hkl2 := dj_len rows keys j hkl) | (refine Loops.by (M := M11) 17 pl11 fol (by kernel_rfl) (ι := Nat) (fun q => ⟨[(0, AV.d (D.sl 1 (rows.map encRow))), (1, AV.d (D.sl 1 (keys.map intD))), (2, AV.d (D.sl 2 (aggs.map encA))), (7, AV.ref [7] 16 1 0 ((numsK (keysS rows keys)).map intD).length), (8, AV.d (D.int .i64 ((dsS rows keys rows.length).length))), (10, AV.nref [10] 17 ((((dsS rows keys rows.length).take j).map (outS rows keys aggs)).map (rNE 36)).length), (11, AV.d (D.int .i64 j)), (12, AV.ref [12] 18 1 0 ((grpS (rows.take q) keys (dj rows keys j)).map encRow).length), (13, AV.d (D.int .i64 q))], [([7], 16, AO.row 3 1 ((numsK (keysS rows keys)).map intD)), ([10], 17, AO.nest 37 ((((dsS rows keys rows.length).take j).map (outS rows keys aggs)).map (rNE 36))), ([12], 18, AO.row 37 1 ((grpS (rows.take q) keys (dj rows keys j)).map encRow))], 19⟩) (fun q => q ≤ rows.length) (fun q => rows.length - q) (fun q hI => ?_) (0) (Nat.zero_le _) (Forget.mk' ⟨⟨rfl, rfl⟩, ⟨rfl, rfl⟩, ⟨rfl, rfl⟩, ⟨rfl, rfl⟩, ⟨rfl, rfl⟩, ⟨rfl, rfl⟩, ⟨rfl, rfl⟩, ⟨rfl, rfl⟩, ⟨rfl, rfl⟩, trivial⟩ ⟨⟨rfl, rfl, rfl⟩, ⟨rfl, rfl, rfl⟩, ⟨rfl, rfl, rfl⟩, trivial⟩ rfl rfl); have hq := hI; have hgq := grpS_len (rows.take q) keys (dj rows keys j); have hgq2 := List.length_take_le q rows) | (have hqe : q = rows.length := (by omega); subst hqe; rw [List.take_length]; refine Loops.by (M := M11) 17 pl11 fol (by kernel_rfl) (ι := Nat) (fun c => ⟨[(0, AV.d (D.sl 1 (rows.map encRow))), (1, AV.d (D.sl 1 (keys.map intD))), (2, AV.d (D.sl 2 (aggs.map encA))), (7, AV.ref [7] 16 1 0 ((numsK (keysS rows keys)).map intD).length), (8, AV.d (D.int .i64 ((dsS rows keys rows.length).length))), (10, AV.nref [10] 17 ((((dsS rows keys rows.length).take j).map (outS rows keys aggs)).map (rNE 36)).length), (11, AV.d (D.int .i64 j)), (12, AV.ref [12] 18 1 0 ((grpS rows keys (dj rows keys j)).map encRow).length), (14, AV.ref [14] 19 2 0 ((ofS ((grpS rows keys (dj rows keys j)).getD 0 default) (keys.take c)).map encV).length), (15, AV.d (D.int .i64 c))], [([7], 16, AO.row 3 1 ((numsK (keysS rows keys)).map intD)), ([10], 17, AO.nest 37 ((((dsS rows keys rows.length).take j).map (outS rows keys aggs)).map (rNE 36))), ([12], 18, AO.row 37 1 ((grpS rows keys (dj rows keys j)).map encRow)), ([14], 19, AO.row 36 2 ((ofS ((grpS rows keys (dj rows keys j)).getD 0 default) (keys.take c)).map encV))], 20⟩) (fun c => c ≤ keys.length) (fun c => keys.length - c) (fun c hI => ?_) (0) (Nat.zero_le _) (Forget.mk' ⟨⟨rfl, rfl⟩, ⟨rfl, rfl⟩, ⟨rfl, rfl⟩, ⟨rfl, rfl⟩, ⟨rfl, rfl⟩, ⟨rfl, rfl⟩, ⟨rfl, rfl⟩, ⟨rfl, rfl⟩, ⟨rfl, rfl⟩, ⟨rfl, rfl⟩, trivial⟩ ⟨⟨rfl, rfl, rfl⟩, ⟨rfl, rfl, rfl⟩, ⟨rfl, rfl, rfl⟩, ⟨rfl, rfl, rfl⟩, trivial⟩ rfl rfl); have hc := hI; have hgp : (c : Int) < keys.length → 0 < (grpS rows keys (dj rows keys j)).length := (fun h => grp_pos (by omega) (by omega)); have hkc : (c : Int) < keys.length → 0 ≤ keys.getD c default ∧ keys.getD c default < ((grpS rows keys (dj rows keys j)).getD 0 default).length := (fun h => ok.kc _ (key_first (hgp h)).2 _ (getD_mem (by omega)))) | (refine Loops.by (M := M11) 17 pl11 fol (by kernel_rfl) (ι := Nat × List D) (fun ⟨m, rl⟩ => ⟨[(0, AV.d (D.sl 1 (rows.map encRow))), (1, AV.d (D.sl 1 (keys.map intD))), (2, AV.d (D.sl 2 (aggs.map encA))), (7, AV.ref [7] 16 1 0 ((numsK (keysS rows keys)).map intD).length), (8, AV.d (D.int .i64 ((dsS rows keys rows.length).length))), (10, AV.nref [10] 17 ((((dsS rows keys rows.length).take j).map (outS rows keys aggs)).map (rNE 36)).length), (11, AV.d (D.int .i64 j)), (12, AV.ref [12] 18 1 0 ((grpS rows keys (dj rows keys j)).map encRow).length), (14, AV.ref [14] 19 2 0 rl.length), (16, AV.d (D.int .i64 m))], [([7], 16, AO.row 3 1 ((numsK (keysS rows keys)).map intD)), ([10], 17, AO.nest 37 ((((dsS rows keys rows.length).take j).map (outS rows keys aggs)).map (rNE 36))), ([12], 18, AO.row 37 1 ((grpS rows keys (dj rows keys j)).map encRow)), ([14], 19, AO.row 36 2 rl)], 20⟩) (fun ⟨m, rl⟩ => m ≤ aggs.length ∧ rl = (dj rows keys j ++ (aggs.take m).map (oneS (grpS rows keys (dj rows keys j)))).map encV) (fun ⟨m, rl⟩ => aggs.length - m) (fun p hI => ?_) ((0, (ofS ((grpS rows keys (dj rows keys j)).getD 0 default) (keys.take c)).map encV)) ⟨Nat.zero_le _, out_begin aggs (by omega) (by omega)⟩ (Forget.mk' ⟨⟨rfl, rfl⟩, ⟨rfl, rfl⟩, ⟨rfl, rfl⟩, ⟨rfl, rfl⟩, ⟨rfl, rfl⟩, ⟨rfl, rfl⟩, ⟨rfl, rfl⟩, ⟨rfl, rfl⟩, ⟨rfl, rfl⟩, ⟨rfl, rfl⟩, trivial⟩ ⟨⟨rfl, rfl, rfl⟩, ⟨rfl, rfl, rfl⟩, ⟨rfl, rfl, rfl⟩, ⟨rfl, rfl, rfl⟩, trivial⟩ rfl rfl); obtain ⟨m, rl⟩ := p; obtain ⟨hm, rfl⟩ := hI) | (refine (refOne_ro (grpS rows keys (dj rows keys j)) (aggs.getD m default) (hak _ (getD_mem (by omega))) (fun hne r hr => ok.ac _ (getD_mem (by omega)) hne r (grpS_sub r hr)) (by omega) (fun r hr => ok.sz r (grpS_sub r hr))).mono fun rs bs hr => ?_; obtain ⟨rfl, rfl⟩ := hr) | (refine fun x hx => ?_; (try simp (disch := omega) only [Int.tdiv_eq_ediv_of_nonneg, Int.tmod_eq_emod_of_nonneg, bx, Bool.true_or, Bool.false_or, Bool.or_false, Bool.or_true, Bool.and_true, Bool.true_and, Bool.false_and, Bool.and_false, cond_true, cond_false, if_true, if_false, Bool.false_eq_true, min_nn, max_nn, min_ln, min_nl, max_ln, max_nl, getD_map, str_of_bytes, take_bytes, take_data, wrap_u64, wrap_u32, wrap_u8, shr_i64, shr_u64, shr_u32, shl_i64, shl_u64, Int.reduceToNat, Int.reducePow, Int.pow_succ, Int.pow_zero, Int.one_mul, Int.reduceMul, wrap_id, wrap_u8_nat, wrap_i64_u8, byteD_mk, map_snoc, map_app, set_map, take_map', drop_map', Nat.sub_zero, List.length_map, List.length_append, List.length_cons, List.length_nil, Int.toNat_natCast, List.drop_zero, List.take_succ_cons, List.take_zero, List.take_length, List.nil_append, List.append_nil, Nat.zero_add, toNat_pred, toNat_succ, toNat_addn, toNat_subn, numsK_len, ofS_len, List.length_set, getN_map, getN_new, List.set_set] at hx); subst hx) | rw [List.take_length] | (rw [List.take_of_length_le]; rotate_left; (first | omega | (simp only [dlen, true_and, and_true, Nat.le_refl, List.length_map, List.length_append, List.length_cons, List.length_nil, List.length_take, List.length_drop, List.length_replicate, Int.toNat_natCast, List.append_nil, hb36, hb37, numsK_len, ofS_len, List.length_set] <;> omega) | fail)) | refine fun h => ?_ | fail)); all_goals (try exact (AV.dead : AV)); all_goals (try (conv => whnf))
  all_goals first
    | (refine ⟨(i + 1, _), ⟨⟨by show i + 1 ≤ _; omega, (num_up (by omega)).1 (by assumption)⟩, by show rows.length - (i + 1) < rows.length - i; omega⟩, (Forget.mk' ⟨⟨rfl, rfl⟩, ⟨rfl, rfl⟩, ⟨rfl, rfl⟩, ⟨rfl, rfl⟩, ⟨rfl, rfl⟩, ⟨rfl, rfl⟩, trivial⟩ ⟨⟨rfl, rfl, rfl⟩, trivial⟩ rfl rfl)⟩; done)
    | (refine ⟨(i + 1, _), ⟨⟨by show i + 1 ≤ _; omega, (num_up (by omega)).2 (by assumption)⟩, by show rows.length - (i + 1) < rows.length - i; omega⟩, (Forget.mk' ⟨⟨rfl, rfl⟩, ⟨rfl, rfl⟩, ⟨rfl, rfl⟩, ⟨rfl, rfl⟩, ⟨rfl, rfl⟩, ⟨rfl, rfl⟩, trivial⟩ ⟨⟨rfl, rfl, rfl⟩, trivial⟩ rfl rfl)⟩; done)
    | (refine ⟨q + 1, ⟨by omega, by omega⟩, ?_⟩; rw [grp_yes (by omega) (by omega) (by assumption)]; exact (Forget.mk' ⟨⟨rfl, rfl⟩, ⟨rfl, rfl⟩, ⟨rfl, rfl⟩, ⟨rfl, rfl⟩, ⟨rfl, rfl⟩, ⟨rfl, rfl⟩, ⟨rfl, rfl⟩, ⟨rfl, rfl⟩, ⟨rfl, rfl⟩, trivial⟩ ⟨⟨rfl, rfl, rfl⟩, ⟨rfl, rfl, rfl⟩, ⟨rfl, rfl, rfl⟩, trivial⟩ rfl rfl))
    | (refine ⟨q + 1, ⟨by omega, by omega⟩, ?_⟩; rw [grp_no (by omega) (by omega) (by assumption)]; exact (Forget.mk' ⟨⟨rfl, rfl⟩, ⟨rfl, rfl⟩, ⟨rfl, rfl⟩, ⟨rfl, rfl⟩, ⟨rfl, rfl⟩, ⟨rfl, rfl⟩, ⟨rfl, rfl⟩, ⟨rfl, rfl⟩, ⟨rfl, rfl⟩, trivial⟩ ⟨⟨rfl, rfl, rfl⟩, ⟨rfl, rfl, rfl⟩, ⟨rfl, rfl, rfl⟩, trivial⟩ rfl rfl))
    | (refine ⟨c + 1, ⟨by omega, by omega⟩, ?_⟩; rw [ofS_snoc (by omega)]; exact (Forget.mk' ⟨⟨rfl, rfl⟩, ⟨rfl, rfl⟩, ⟨rfl, rfl⟩, ⟨rfl, rfl⟩, ⟨rfl, rfl⟩, ⟨rfl, rfl⟩, ⟨rfl, rfl⟩, ⟨rfl, rfl⟩, ⟨rfl, rfl⟩, ⟨rfl, rfl⟩, trivial⟩ ⟨⟨rfl, rfl, rfl⟩, ⟨rfl, rfl, rfl⟩, ⟨rfl, rfl, rfl⟩, ⟨rfl, rfl, rfl⟩, trivial⟩ rfl rfl))
    | (refine ⟨(m + 1, _), ⟨⟨by show m + 1 ≤ _; omega, out_agg (by omega)⟩, by show aggs.length - (m + 1) < aggs.length - m; omega⟩, (Forget.mk' ⟨⟨rfl, rfl⟩, ⟨rfl, rfl⟩, ⟨rfl, rfl⟩, ⟨rfl, rfl⟩, ⟨rfl, rfl⟩, ⟨rfl, rfl⟩, ⟨rfl, rfl⟩, ⟨rfl, rfl⟩, ⟨rfl, rfl⟩, ⟨rfl, rfl⟩, trivial⟩ ⟨⟨rfl, rfl, rfl⟩, ⟨rfl, rfl, rfl⟩, ⟨rfl, rfl, rfl⟩, ⟨rfl, rfl, rfl⟩, trivial⟩ rfl rfl)⟩; done)
    | (refine ⟨(j + 1, _), ⟨⟨by show j + 1 ≤ _; omega, out_round (by omega) (by omega)⟩, by show (dsS rows keys rows.length).length - (j + 1) < (dsS rows keys rows.length).length - j; omega⟩, (Forget.mk' ⟨⟨rfl, rfl⟩, ⟨rfl, rfl⟩, ⟨rfl, rfl⟩, ⟨rfl, rfl⟩, ⟨rfl, rfl⟩, ⟨rfl, rfl⟩, ⟨rfl, rfl⟩, trivial⟩ ⟨⟨rfl, rfl, rfl⟩, ⟨rfl, rfl, rfl⟩, trivial⟩ rfl rfl)⟩; done)
    | (rw [toD_r]; rfl)
    | (exfalso; omega)
    | fail
end Go.Fw
namespace Go.Fw
open Go Go.Proofs
set_option maxHeartbeats 10000000
set_option maxRecDepth 100000
set_option linter.constructorNameAsVariable false
set_option linter.unusedVariables false
set_option linter.unusedSimpArgs false
theorem col_con (n c : Int) : Has Tryd.prog 24 [CV.d (D.int .i64 n), CV.d (D.ptr (D.int .i64 c))] (fun rs _ => rs = [CV.d (D.bool (keyB n c))]) := by
  refine Has_of_run (fn := Tryd.f24) (M := M0) fol (by kernel_rfl) 4 noPlan [] [] (by kernel_rfl) (Nat.le_of_ble_eq_true rfl) ?_
  (repeat' ((conv => whnf); first | done | (refine And.intro (fun h => ?_) (fun h => ?_) <;> (try simp only [Bool.or_eq_true, Bool.and_eq_true, Bool.or_eq_false_iff, Bool.and_eq_false_iff, toNat_pred, toNat_succ, toNat_addn, toNat_subn, decide_eq_true_eq, decide_eq_false_iff_not, Bool.not_eq_true', Bool.not_eq_false', List.length_map, Int.toNat_natCast, Int.not_lt, Int.not_le, Bool.not_eq_true, Bool.false_eq_true, Bool.true_eq_false, Bool.not_true, Bool.not_false, reduceCtorEq, beq_iff_eq, Bool.not_eq_eq_eq_not, bne_iff_ne, ne_eq, decide_not, Decidable.not_not, Classical.not_not] at h)) | exact (rfl : (_ : AV) = _) | exact (rfl : (_ : St) = _) | refine Exists.intro (α := AV) AV.dead (And.intro (fun h => Bool.noConfusion h) ?_) | apply ex_av | (refine fun (h : (_ : Bool) = true) => ?_; have h' := h; (try simp only [Bool.or_eq_true, Bool.and_eq_true, Bool.or_eq_false_iff, Bool.and_eq_false_iff, toNat_pred, toNat_succ, toNat_addn, toNat_subn, decide_eq_true_eq, decide_eq_false_iff_not, Bool.not_eq_true', Bool.not_eq_false', List.length_map, Int.toNat_natCast, Int.not_lt, Int.not_le, Bool.not_eq_true, Bool.false_eq_true, Bool.true_eq_false, Bool.not_true, Bool.not_false, reduceCtorEq, beq_iff_eq, Bool.not_eq_eq_eq_not, bne_iff_ne, ne_eq, decide_not, Decidable.not_not, Classical.not_not] at h')) | (refine And.intro (a := Both _ _ _) ?_ ?_; (refine ⟨fun h => ?_, fun h => ?_⟩ <;> first | rfl | exact h | exact Bool.noConfusion h | (rw [h]; rfl) | (rw [h]; simp only [Bool.not_false, Bool.not_true, Bool.and_true]; assumption) | (simp_all; done) | fail); skip) | refine And.intro rfl ?_ | refine Two.mk ?_ ?_ | refine And.intro (allU8_bytes _) ?_ | (refine And.intro (a := (_ : Bool) = true) ?_ ?_; (first | assumption | exact decide_eq_true (by assumption) | (rw [Bool.not_eq_true']; exact decide_eq_false (by assumption)) | (rw [Bool.not_not]; exact decide_eq_true (by assumption)) | (simp_all; done) | fail); skip) | refine And.intro (Or.inr rfl) ?_ | refine And.intro (Nat.le_of_ble_eq_true rfl) ?_ | refine And.intro (decide_eq_false (by omega)) ?_ | refine And.intro (show Program.stoodInHeld _ _ = _ by kernel_rfl) (And.intro (by kernel_rfl) ?_) | refine And.intro (show Nat.beq _ _ = _ from rfl) (And.intro (by decide) ?_) | refine And.intro ⟨rfl, rfl⟩ ?_ | refine And.intro ⟨rfl, rfl, trivial⟩ ?_ | refine And.intro (Int.natCast_nonneg _) ?_ | refine Or.inl (And.intro rfl (And.intro rfl (And.intro rfl (And.intro rfl ?_)))) | refine Or.inl (And.intro rfl (And.intro rfl ?_)) | refine Or.inr (And.intro (Nat.le_of_ble_eq_true rfl) ?_) | refine Or.inl (And.intro (by unfold in64; omega) ?_) | refine And.intro (by first | omega | (simp only [dlen, true_and, and_true, Nat.le_refl, List.length_map, List.length_append, List.length_cons, List.length_nil, List.length_take, List.length_drop, List.length_replicate, Int.toNat_natCast, List.append_nil] <;> omega) | fail) ?_ | refine And.intro (allU8_bytes _) ?_ | refine And.intro (show elemsP _ _ _ by repeat' (first | exact rfl | exact trivial | constructor)) ?_ | (refine fun x hx => ?_; (try simp (disch := omega) only [Int.tdiv_eq_ediv_of_nonneg, Int.tmod_eq_emod_of_nonneg, bx, Bool.true_or, Bool.false_or, Bool.or_false, Bool.or_true, Bool.and_true, Bool.true_and, Bool.false_and, Bool.and_false, cond_true, cond_false, if_true, if_false, Bool.false_eq_true, min_nn, max_nn, min_ln, min_nl, max_ln, max_nl, getD_map, str_of_bytes, take_bytes, take_data, wrap_u64, wrap_u32, wrap_u8, shr_i64, shr_u64, shr_u32, shl_i64, shl_u64, Int.reduceToNat, Int.reducePow, Int.pow_succ, Int.pow_zero, Int.one_mul, Int.reduceMul, wrap_id, wrap_u8_nat, wrap_i64_u8, byteD_mk, map_snoc, map_app, set_map, take_map', drop_map', Nat.sub_zero, List.length_map, List.length_append, List.length_cons, List.length_nil, Int.toNat_natCast, List.drop_zero, List.take_succ_cons, List.take_zero, List.take_length, List.nil_append, List.append_nil, Nat.zero_add, toNat_pred, toNat_succ, toNat_addn, toNat_subn] at hx); subst hx) | rw [List.take_length] | (rw [List.take_of_length_le]; rotate_left; (first | omega | (simp only [dlen, true_and, and_true, Nat.le_refl, List.length_map, List.length_append, List.length_cons, List.length_nil, List.length_take, List.length_drop, List.length_replicate, Int.toNat_natCast, List.append_nil] <;> omega) | fail)) | refine fun h => ?_ | fail)); all_goals (try exact (AV.dead : AV)); all_goals (try (conv => whnf))
  rfl
theorem notcol_con (n c : Int) : Has Tryd.prog 27 [CV.d (D.int .i64 n), CV.d (D.ptr (D.clo (Fn.func 24) [] [D.ptr (D.int .i64 c)]))] (fun rs _ => rs = [CV.d (D.bool (!keyB n c))]) := by
  refine Has_of_run (fn := Tryd.f27) (M := M0) fol (by kernel_rfl) 4 noPlan [] [] (by kernel_rfl) (Nat.le_of_ble_eq_true rfl) ?_
  (repeat' ((conv => whnf); first | done | (refine And.intro (fun h => ?_) (fun h => ?_) <;> (try simp only [Bool.or_eq_true, Bool.and_eq_true, Bool.or_eq_false_iff, Bool.and_eq_false_iff, toNat_pred, toNat_succ, toNat_addn, toNat_subn, decide_eq_true_eq, decide_eq_false_iff_not, Bool.not_eq_true', Bool.not_eq_false', List.length_map, Int.toNat_natCast, Int.not_lt, Int.not_le, Bool.not_eq_true, Bool.false_eq_true, Bool.true_eq_false, Bool.not_true, Bool.not_false, reduceCtorEq, beq_iff_eq, Bool.not_eq_eq_eq_not, bne_iff_ne, ne_eq, decide_not, Decidable.not_not, Classical.not_not] at h)) | exact (rfl : (_ : AV) = _) | exact (rfl : (_ : St) = _) | refine Exists.intro (α := AV) AV.dead (And.intro (fun h => Bool.noConfusion h) ?_) | apply ex_av | (refine fun (h : (_ : Bool) = true) => ?_; have h' := h; (try simp only [Bool.or_eq_true, Bool.and_eq_true, Bool.or_eq_false_iff, Bool.and_eq_false_iff, toNat_pred, toNat_succ, toNat_addn, toNat_subn, decide_eq_true_eq, decide_eq_false_iff_not, Bool.not_eq_true', Bool.not_eq_false', List.length_map, Int.toNat_natCast, Int.not_lt, Int.not_le, Bool.not_eq_true, Bool.false_eq_true, Bool.true_eq_false, Bool.not_true, Bool.not_false, reduceCtorEq, beq_iff_eq, Bool.not_eq_eq_eq_not, bne_iff_ne, ne_eq, decide_not, Decidable.not_not, Classical.not_not] at h')) | (refine And.intro (a := Both _ _ _) ?_ ?_; (refine ⟨fun h => ?_, fun h => ?_⟩ <;> first | rfl | exact h | exact Bool.noConfusion h | (rw [h]; rfl) | (rw [h]; simp only [Bool.not_false, Bool.not_true, Bool.and_true]; assumption) | (simp_all; done) | fail); skip) | refine And.intro rfl ?_ | refine Two.mk ?_ ?_ | refine And.intro (allU8_bytes _) ?_ | (refine And.intro (a := (_ : Bool) = true) ?_ ?_; (first | assumption | exact decide_eq_true (by assumption) | (rw [Bool.not_eq_true']; exact decide_eq_false (by assumption)) | (rw [Bool.not_not]; exact decide_eq_true (by assumption)) | (simp_all; done) | fail); skip) | refine And.intro (Or.inr rfl) ?_ | refine And.intro (Nat.le_of_ble_eq_true rfl) ?_ | refine And.intro (decide_eq_false (by omega)) ?_ | refine And.intro (show Program.stoodInHeld _ _ = _ by kernel_rfl) (And.intro (by kernel_rfl) ?_) | refine And.intro (show Nat.beq _ _ = _ from rfl) (And.intro (by decide) ?_) | refine And.intro ⟨rfl, rfl⟩ ?_ | refine And.intro ⟨rfl, rfl, trivial⟩ ?_ | refine And.intro (Int.natCast_nonneg _) ?_ | refine Or.inl (And.intro rfl (And.intro rfl (And.intro rfl (And.intro rfl ?_)))) | refine Or.inl (And.intro rfl (And.intro rfl ?_)) | refine Or.inr (And.intro (Nat.le_of_ble_eq_true rfl) ?_) | refine Or.inl (And.intro (by unfold in64; omega) ?_) | refine And.intro (by first | omega | (simp only [dlen, true_and, and_true, Nat.le_refl, List.length_map, List.length_append, List.length_cons, List.length_nil, List.length_take, List.length_drop, List.length_replicate, Int.toNat_natCast, List.append_nil] <;> omega) | fail) ?_ | refine And.intro (allU8_bytes _) ?_ | refine And.intro (show elemsP _ _ _ by repeat' (first | exact rfl | exact trivial | constructor)) ?_ | (refine (col_con _ _).mono fun rs bs hr => ?_; subst hr) | (refine fun x hx => ?_; (try simp (disch := omega) only [Int.tdiv_eq_ediv_of_nonneg, Int.tmod_eq_emod_of_nonneg, bx, Bool.true_or, Bool.false_or, Bool.or_false, Bool.or_true, Bool.and_true, Bool.true_and, Bool.false_and, Bool.and_false, cond_true, cond_false, if_true, if_false, Bool.false_eq_true, min_nn, max_nn, min_ln, min_nl, max_ln, max_nl, getD_map, str_of_bytes, take_bytes, take_data, wrap_u64, wrap_u32, wrap_u8, shr_i64, shr_u64, shr_u32, shl_i64, shl_u64, Int.reduceToNat, Int.reducePow, Int.pow_succ, Int.pow_zero, Int.one_mul, Int.reduceMul, wrap_id, wrap_u8_nat, wrap_i64_u8, byteD_mk, map_snoc, map_app, set_map, take_map', drop_map', Nat.sub_zero, List.length_map, List.length_append, List.length_cons, List.length_nil, Int.toNat_natCast, List.drop_zero, List.take_succ_cons, List.take_zero, List.take_length, List.nil_append, List.append_nil, Nat.zero_add, toNat_pred, toNat_succ, toNat_addn, toNat_subn] at hx); subst hx) | rw [List.take_length] | (rw [List.take_of_length_le]; rotate_left; (first | omega | (simp only [dlen, true_and, and_true, Nat.le_refl, List.length_map, List.length_append, List.length_cons, List.length_nil, List.length_take, List.length_drop, List.length_replicate, Int.toNat_natCast, List.append_nil] <;> omega) | fail)) | refine fun h => ?_ | fail)); all_goals (try exact (AV.dead : AV)); all_goals (try (conv => whnf))
theorem indexK_con (n c : Int) (hk : keyB n c = true) : Has Tryd.prog 40 [CV.d (D.sl 1 [D.int .i64 n]), CV.d (D.clo (Fn.func 27) [] [D.ptr (D.clo (Fn.func 24) [] [D.ptr (D.int .i64 c)])])] (fun rs _ => rs = [CV.d (D.int .i64 (-1))]) := by
  refine Has_of_run (fn := Tryd.f40) (M := M0) fol (by kernel_rfl) 6 noPlan [] [] (by kernel_rfl) (Nat.le_of_ble_eq_true rfl) ?_
  (repeat' ((conv => whnf); first | done | (refine And.intro (fun h => ?_) (fun h => ?_) <;> (try simp only [Bool.or_eq_true, Bool.and_eq_true, Bool.or_eq_false_iff, Bool.and_eq_false_iff, toNat_pred, toNat_succ, toNat_addn, toNat_subn, decide_eq_true_eq, decide_eq_false_iff_not, Bool.not_eq_true', Bool.not_eq_false', List.length_map, Int.toNat_natCast, Int.not_lt, Int.not_le, Bool.not_eq_true, Bool.false_eq_true, Bool.true_eq_false, Bool.not_true, Bool.not_false, reduceCtorEq, beq_iff_eq, Bool.not_eq_eq_eq_not, bne_iff_ne, ne_eq, decide_not, Decidable.not_not, Classical.not_not] at h)) | exact (rfl : (_ : AV) = _) | exact (rfl : (_ : St) = _) | refine Exists.intro (α := AV) AV.dead (And.intro (fun h => Bool.noConfusion h) ?_) | apply ex_av | (refine fun (h : (_ : Bool) = true) => ?_; have h' := h; (try simp only [Bool.or_eq_true, Bool.and_eq_true, Bool.or_eq_false_iff, Bool.and_eq_false_iff, toNat_pred, toNat_succ, toNat_addn, toNat_subn, decide_eq_true_eq, decide_eq_false_iff_not, Bool.not_eq_true', Bool.not_eq_false', List.length_map, Int.toNat_natCast, Int.not_lt, Int.not_le, Bool.not_eq_true, Bool.false_eq_true, Bool.true_eq_false, Bool.not_true, Bool.not_false, reduceCtorEq, beq_iff_eq, Bool.not_eq_eq_eq_not, bne_iff_ne, ne_eq, decide_not, Decidable.not_not, Classical.not_not] at h')) | (refine And.intro (a := Both _ _ _) ?_ ?_; (refine ⟨fun h => ?_, fun h => ?_⟩ <;> first | rfl | exact h | exact Bool.noConfusion h | (rw [h]; rfl) | (rw [h]; simp only [Bool.not_false, Bool.not_true, Bool.and_true]; assumption) | (simp_all; done) | fail); skip) | refine And.intro rfl ?_ | refine Two.mk ?_ ?_ | refine And.intro (allU8_bytes _) ?_ | (refine And.intro (a := (_ : Bool) = true) ?_ ?_; (first | assumption | exact decide_eq_true (by assumption) | (rw [Bool.not_eq_true']; exact decide_eq_false (by assumption)) | (rw [Bool.not_not]; exact decide_eq_true (by assumption)) | (simp_all; done) | fail); skip) | refine And.intro (Or.inr rfl) ?_ | refine And.intro (Nat.le_of_ble_eq_true rfl) ?_ | refine And.intro (decide_eq_false (by omega)) ?_ | refine And.intro (show Program.stoodInHeld _ _ = _ by kernel_rfl) (And.intro (by kernel_rfl) ?_) | refine And.intro (show Nat.beq _ _ = _ from rfl) (And.intro (by decide) ?_) | refine And.intro ⟨rfl, rfl⟩ ?_ | refine And.intro ⟨rfl, rfl, trivial⟩ ?_ | refine And.intro (Int.natCast_nonneg _) ?_ | refine Or.inl (And.intro rfl (And.intro rfl (And.intro rfl (And.intro rfl ?_)))) | refine Or.inl (And.intro rfl (And.intro rfl ?_)) | refine Or.inr (And.intro (Nat.le_of_ble_eq_true rfl) ?_) | refine Or.inl (And.intro (by unfold in64; omega) ?_) | refine And.intro (by first | omega | (simp only [dlen, true_and, and_true, Nat.le_refl, List.length_map, List.length_append, List.length_cons, List.length_nil, List.length_take, List.length_drop, List.length_replicate, Int.toNat_natCast, List.append_nil] <;> omega) | fail) ?_ | refine And.intro (allU8_bytes _) ?_ | refine And.intro (show elemsP _ _ _ by repeat' (first | exact rfl | exact trivial | constructor)) ?_ | (refine (notcol_con _ _).mono fun rs bs hr => ?_; subst hr) | ((have hi0 : i = 0 := (by omega); subst hi0)) | (refine Loops.by (M := M0) 6 noPlan fol (by kernel_rfl) (ι := Nat) (fun i => ⟨[(0, AV.d (D.sl 1 ([n].map intD))), (1, AV.d (D.clo (Fn.func 27) [] [D.ptr (D.clo (Fn.func 24) [] [D.ptr (D.int .i64 c)])])), (7, AV.d (D.int .i64 1)), (8, AV.d (D.int .i64 i))], [], 16⟩) (fun i => i ≤ 1) (fun i => 1 - i) (fun i hI => ?_) (0) (Nat.zero_le _) (Forget.mk' ⟨⟨rfl, rfl⟩, ⟨rfl, rfl⟩, ⟨rfl, rfl⟩, ⟨rfl, rfl⟩, trivial⟩ trivial rfl rfl); have hi := hI) | (refine fun x hx => ?_; (try simp (disch := omega) only [Int.tdiv_eq_ediv_of_nonneg, Int.tmod_eq_emod_of_nonneg, bx, Bool.true_or, Bool.false_or, Bool.or_false, Bool.or_true, Bool.and_true, Bool.true_and, Bool.false_and, Bool.and_false, cond_true, cond_false, if_true, if_false, Bool.false_eq_true, min_nn, max_nn, min_ln, min_nl, max_ln, max_nl, getD_map, str_of_bytes, take_bytes, take_data, wrap_u64, wrap_u32, wrap_u8, shr_i64, shr_u64, shr_u32, shl_i64, shl_u64, Int.reduceToNat, Int.reducePow, Int.pow_succ, Int.pow_zero, Int.one_mul, Int.reduceMul, wrap_id, wrap_u8_nat, wrap_i64_u8, byteD_mk, map_snoc, map_app, set_map, take_map', drop_map', Nat.sub_zero, List.length_map, List.length_append, List.length_cons, List.length_nil, Int.toNat_natCast, List.drop_zero, List.take_succ_cons, List.take_zero, List.take_length, List.nil_append, List.append_nil, Nat.zero_add, toNat_pred, toNat_succ, toNat_addn, toNat_subn] at hx); subst hx) | rw [List.take_length] | (rw [List.take_of_length_le]; rotate_left; (first | omega | (simp only [dlen, true_and, and_true, Nat.le_refl, List.length_map, List.length_append, List.length_cons, List.length_nil, List.length_take, List.length_drop, List.length_replicate, Int.toNat_natCast, List.append_nil] <;> omega) | fail)) | refine fun h => ?_ | fail)); all_goals (try exact (AV.dead : AV)); all_goals (try (conv => whnf))
  all_goals first
    | (exfalso; rw [hk] at h; cases h; done)
    | (exact ⟨1, ⟨Nat.le_refl _, by omega⟩, (Forget.mk' ⟨⟨rfl, rfl⟩, ⟨rfl, rfl⟩, ⟨rfl, rfl⟩, ⟨rfl, rfl⟩, trivial⟩ trivial rfl rfl)⟩)
    | (trace_state; fail)
theorem hasK_con (n c : Int) (hk : keyB n c = true) : Has Tryd.prog 26 [CV.d (D.sl 1 [D.int .i64 n]), CV.d (D.clo (Fn.func 27) [] [D.ptr (D.clo (Fn.func 24) [] [D.ptr (D.int .i64 c)])])] (fun rs _ => rs = [CV.d (D.bool false)]) := by
  refine Has_of_run (fn := Tryd.f26) (M := M0) fol (by kernel_rfl) 5 noPlan [] [] (by kernel_rfl) (Nat.le_of_ble_eq_true rfl) ?_
  (repeat' ((conv => whnf); first | done | (refine And.intro (fun h => ?_) (fun h => ?_) <;> (try simp only [Bool.or_eq_true, Bool.and_eq_true, Bool.or_eq_false_iff, Bool.and_eq_false_iff, toNat_pred, toNat_succ, toNat_addn, toNat_subn, decide_eq_true_eq, decide_eq_false_iff_not, Bool.not_eq_true', Bool.not_eq_false', List.length_map, Int.toNat_natCast, Int.not_lt, Int.not_le, Bool.not_eq_true, Bool.false_eq_true, Bool.true_eq_false, Bool.not_true, Bool.not_false, reduceCtorEq, beq_iff_eq, Bool.not_eq_eq_eq_not, bne_iff_ne, ne_eq, decide_not, Decidable.not_not, Classical.not_not] at h)) | exact (rfl : (_ : AV) = _) | exact (rfl : (_ : St) = _) | refine Exists.intro (α := AV) AV.dead (And.intro (fun h => Bool.noConfusion h) ?_) | apply ex_av | (refine fun (h : (_ : Bool) = true) => ?_; have h' := h; (try simp only [Bool.or_eq_true, Bool.and_eq_true, Bool.or_eq_false_iff, Bool.and_eq_false_iff, toNat_pred, toNat_succ, toNat_addn, toNat_subn, decide_eq_true_eq, decide_eq_false_iff_not, Bool.not_eq_true', Bool.not_eq_false', List.length_map, Int.toNat_natCast, Int.not_lt, Int.not_le, Bool.not_eq_true, Bool.false_eq_true, Bool.true_eq_false, Bool.not_true, Bool.not_false, reduceCtorEq, beq_iff_eq, Bool.not_eq_eq_eq_not, bne_iff_ne, ne_eq, decide_not, Decidable.not_not, Classical.not_not] at h')) | (refine And.intro (a := Both _ _ _) ?_ ?_; (refine ⟨fun h => ?_, fun h => ?_⟩ <;> first | rfl | exact h | exact Bool.noConfusion h | (rw [h]; rfl) | (rw [h]; simp only [Bool.not_false, Bool.not_true, Bool.and_true]; assumption) | (simp_all; done) | fail); skip) | refine And.intro rfl ?_ | refine Two.mk ?_ ?_ | refine And.intro (allU8_bytes _) ?_ | (refine And.intro (a := (_ : Bool) = true) ?_ ?_; (first | assumption | exact decide_eq_true (by assumption) | (rw [Bool.not_eq_true']; exact decide_eq_false (by assumption)) | (rw [Bool.not_not]; exact decide_eq_true (by assumption)) | (simp_all; done) | fail); skip) | refine And.intro (Or.inr rfl) ?_ | refine And.intro (Nat.le_of_ble_eq_true rfl) ?_ | refine And.intro (decide_eq_false (by omega)) ?_ | refine And.intro (show Program.stoodInHeld _ _ = _ by kernel_rfl) (And.intro (by kernel_rfl) ?_) | refine And.intro (show Nat.beq _ _ = _ from rfl) (And.intro (by decide) ?_) | refine And.intro ⟨rfl, rfl⟩ ?_ | refine And.intro ⟨rfl, rfl, trivial⟩ ?_ | refine And.intro (Int.natCast_nonneg _) ?_ | refine Or.inl (And.intro rfl (And.intro rfl (And.intro rfl (And.intro rfl ?_)))) | refine Or.inl (And.intro rfl (And.intro rfl ?_)) | refine Or.inr (And.intro (Nat.le_of_ble_eq_true rfl) ?_) | refine Or.inl (And.intro (by unfold in64; omega) ?_) | refine And.intro (by first | omega | (simp only [dlen, true_and, and_true, Nat.le_refl, List.length_map, List.length_append, List.length_cons, List.length_nil, List.length_take, List.length_drop, List.length_replicate, Int.toNat_natCast, List.append_nil] <;> omega) | fail) ?_ | refine And.intro (allU8_bytes _) ?_ | refine And.intro (show elemsP _ _ _ by repeat' (first | exact rfl | exact trivial | constructor)) ?_ | (refine (indexK_con _ _ hk).mono fun rs bs hr => ?_; subst hr) | (refine fun x hx => ?_; (try simp (disch := omega) only [Int.tdiv_eq_ediv_of_nonneg, Int.tmod_eq_emod_of_nonneg, bx, Bool.true_or, Bool.false_or, Bool.or_false, Bool.or_true, Bool.and_true, Bool.true_and, Bool.false_and, Bool.and_false, cond_true, cond_false, if_true, if_false, Bool.false_eq_true, min_nn, max_nn, min_ln, min_nl, max_ln, max_nl, getD_map, str_of_bytes, take_bytes, take_data, wrap_u64, wrap_u32, wrap_u8, shr_i64, shr_u64, shr_u32, shl_i64, shl_u64, Int.reduceToNat, Int.reducePow, Int.pow_succ, Int.pow_zero, Int.one_mul, Int.reduceMul, wrap_id, wrap_u8_nat, wrap_i64_u8, byteD_mk, map_snoc, map_app, set_map, take_map', drop_map', Nat.sub_zero, List.length_map, List.length_append, List.length_cons, List.length_nil, Int.toNat_natCast, List.drop_zero, List.take_succ_cons, List.take_zero, List.take_length, List.nil_append, List.append_nil, Nat.zero_add, toNat_pred, toNat_succ, toNat_addn, toNat_subn] at hx); subst hx) | rw [List.take_length] | (rw [List.take_of_length_le]; rotate_left; (first | omega | (simp only [dlen, true_and, and_true, Nat.le_refl, List.length_map, List.length_append, List.length_cons, List.length_nil, List.length_take, List.length_drop, List.length_replicate, Int.toNat_natCast, List.append_nil] <;> omega) | fail)) | refine fun h => ?_ | fail)); all_goals (try exact (AV.dead : AV)); all_goals (try (conv => whnf))
  rfl
theorem indexA_con (f : D) : Has Tryd.prog 41 [CV.d (D.sl 0 []), CV.d (f)] (fun rs _ => rs = [CV.d (D.int .i64 (-1))]) := by
  refine Has_of_run (fn := Tryd.f41) (M := M0) fol (by kernel_rfl) 6 noPlan [] [] (by kernel_rfl) (Nat.le_of_ble_eq_true rfl) ?_
  (repeat' ((conv => whnf); first | done | (refine And.intro (fun h => ?_) (fun h => ?_) <;> (try simp only [Bool.or_eq_true, Bool.and_eq_true, Bool.or_eq_false_iff, Bool.and_eq_false_iff, toNat_pred, toNat_succ, toNat_addn, toNat_subn, decide_eq_true_eq, decide_eq_false_iff_not, Bool.not_eq_true', Bool.not_eq_false', List.length_map, Int.toNat_natCast, Int.not_lt, Int.not_le, Bool.not_eq_true, Bool.false_eq_true, Bool.true_eq_false, Bool.not_true, Bool.not_false, reduceCtorEq, beq_iff_eq, Bool.not_eq_eq_eq_not, bne_iff_ne, ne_eq, decide_not, Decidable.not_not, Classical.not_not] at h)) | exact (rfl : (_ : AV) = _) | exact (rfl : (_ : St) = _) | refine Exists.intro (α := AV) AV.dead (And.intro (fun h => Bool.noConfusion h) ?_) | apply ex_av | (refine fun (h : (_ : Bool) = true) => ?_; have h' := h; (try simp only [Bool.or_eq_true, Bool.and_eq_true, Bool.or_eq_false_iff, Bool.and_eq_false_iff, toNat_pred, toNat_succ, toNat_addn, toNat_subn, decide_eq_true_eq, decide_eq_false_iff_not, Bool.not_eq_true', Bool.not_eq_false', List.length_map, Int.toNat_natCast, Int.not_lt, Int.not_le, Bool.not_eq_true, Bool.false_eq_true, Bool.true_eq_false, Bool.not_true, Bool.not_false, reduceCtorEq, beq_iff_eq, Bool.not_eq_eq_eq_not, bne_iff_ne, ne_eq, decide_not, Decidable.not_not, Classical.not_not] at h')) | (refine And.intro (a := Both _ _ _) ?_ ?_; (refine ⟨fun h => ?_, fun h => ?_⟩ <;> first | rfl | exact h | exact Bool.noConfusion h | (rw [h]; rfl) | (rw [h]; simp only [Bool.not_false, Bool.not_true, Bool.and_true]; assumption) | (simp_all; done) | fail); skip) | refine And.intro rfl ?_ | refine Two.mk ?_ ?_ | refine And.intro (allU8_bytes _) ?_ | (refine And.intro (a := (_ : Bool) = true) ?_ ?_; (first | assumption | exact decide_eq_true (by assumption) | (rw [Bool.not_eq_true']; exact decide_eq_false (by assumption)) | (rw [Bool.not_not]; exact decide_eq_true (by assumption)) | (simp_all; done) | fail); skip) | refine And.intro (Or.inr rfl) ?_ | refine And.intro (Nat.le_of_ble_eq_true rfl) ?_ | refine And.intro (decide_eq_false (by omega)) ?_ | refine And.intro (show Program.stoodInHeld _ _ = _ by kernel_rfl) (And.intro (by kernel_rfl) ?_) | refine And.intro (show Nat.beq _ _ = _ from rfl) (And.intro (by decide) ?_) | refine And.intro ⟨rfl, rfl⟩ ?_ | refine And.intro ⟨rfl, rfl, trivial⟩ ?_ | refine And.intro (Int.natCast_nonneg _) ?_ | refine Or.inl (And.intro rfl (And.intro rfl (And.intro rfl (And.intro rfl ?_)))) | refine Or.inl (And.intro rfl (And.intro rfl ?_)) | refine Or.inr (And.intro (Nat.le_of_ble_eq_true rfl) ?_) | refine Or.inl (And.intro (by unfold in64; omega) ?_) | refine And.intro (by first | omega | (simp only [dlen, true_and, and_true, Nat.le_refl, List.length_map, List.length_append, List.length_cons, List.length_nil, List.length_take, List.length_drop, List.length_replicate, Int.toNat_natCast, List.append_nil] <;> omega) | fail) ?_ | refine And.intro (allU8_bytes _) ?_ | refine And.intro (show elemsP _ _ _ by repeat' (first | exact rfl | exact trivial | constructor)) ?_ | (refine Loops.by (M := M0) 6 noPlan fol (by kernel_rfl) (ι := Nat) (fun i => ⟨[(0, AV.d (D.sl 0 [])), (1, AV.d (f)), (7, AV.d (D.int .i64 0)), (8, AV.d (D.int .i64 i))], [], 16⟩) (fun i => i = 0) (fun i => i) (fun i hI => ?_) (0) (rfl) (Forget.mk' ⟨⟨rfl, rfl⟩, ⟨rfl, rfl⟩, ⟨rfl, rfl⟩, ⟨rfl, rfl⟩, trivial⟩ trivial rfl rfl); have hi := hI) | (refine fun x hx => ?_; (try simp (disch := omega) only [Int.tdiv_eq_ediv_of_nonneg, Int.tmod_eq_emod_of_nonneg, bx, Bool.true_or, Bool.false_or, Bool.or_false, Bool.or_true, Bool.and_true, Bool.true_and, Bool.false_and, Bool.and_false, cond_true, cond_false, if_true, if_false, Bool.false_eq_true, min_nn, max_nn, min_ln, min_nl, max_ln, max_nl, getD_map, str_of_bytes, take_bytes, take_data, wrap_u64, wrap_u32, wrap_u8, shr_i64, shr_u64, shr_u32, shl_i64, shl_u64, Int.reduceToNat, Int.reducePow, Int.pow_succ, Int.pow_zero, Int.one_mul, Int.reduceMul, wrap_id, wrap_u8_nat, wrap_i64_u8, byteD_mk, map_snoc, map_app, set_map, take_map', drop_map', Nat.sub_zero, List.length_map, List.length_append, List.length_cons, List.length_nil, Int.toNat_natCast, List.drop_zero, List.take_succ_cons, List.take_zero, List.take_length, List.nil_append, List.append_nil, Nat.zero_add, toNat_pred, toNat_succ, toNat_addn, toNat_subn] at hx); subst hx) | rw [List.take_length] | (rw [List.take_of_length_le]; rotate_left; (first | omega | (simp only [dlen, true_and, and_true, Nat.le_refl, List.length_map, List.length_append, List.length_cons, List.length_nil, List.length_take, List.length_drop, List.length_replicate, Int.toNat_natCast, List.append_nil] <;> omega) | fail)) | refine fun h => ?_ | fail)); all_goals (try exact (AV.dead : AV)); all_goals (try (conv => whnf))
  all_goals first
    | (exfalso; omega)
    | (trace_state; fail)
theorem hasA_con (f : D) : Has Tryd.prog 28 [CV.d (D.sl 0 []), CV.d (f)] (fun rs _ => rs = [CV.d (D.bool false)]) := by
  refine Has_of_run (fn := Tryd.f28) (M := M0) fol (by kernel_rfl) 5 noPlan [] [] (by kernel_rfl) (Nat.le_of_ble_eq_true rfl) ?_
  (repeat' ((conv => whnf); first | done | (refine And.intro (fun h => ?_) (fun h => ?_) <;> (try simp only [Bool.or_eq_true, Bool.and_eq_true, Bool.or_eq_false_iff, Bool.and_eq_false_iff, toNat_pred, toNat_succ, toNat_addn, toNat_subn, decide_eq_true_eq, decide_eq_false_iff_not, Bool.not_eq_true', Bool.not_eq_false', List.length_map, Int.toNat_natCast, Int.not_lt, Int.not_le, Bool.not_eq_true, Bool.false_eq_true, Bool.true_eq_false, Bool.not_true, Bool.not_false, reduceCtorEq, beq_iff_eq, Bool.not_eq_eq_eq_not, bne_iff_ne, ne_eq, decide_not, Decidable.not_not, Classical.not_not] at h)) | exact (rfl : (_ : AV) = _) | exact (rfl : (_ : St) = _) | refine Exists.intro (α := AV) AV.dead (And.intro (fun h => Bool.noConfusion h) ?_) | apply ex_av | (refine fun (h : (_ : Bool) = true) => ?_; have h' := h; (try simp only [Bool.or_eq_true, Bool.and_eq_true, Bool.or_eq_false_iff, Bool.and_eq_false_iff, toNat_pred, toNat_succ, toNat_addn, toNat_subn, decide_eq_true_eq, decide_eq_false_iff_not, Bool.not_eq_true', Bool.not_eq_false', List.length_map, Int.toNat_natCast, Int.not_lt, Int.not_le, Bool.not_eq_true, Bool.false_eq_true, Bool.true_eq_false, Bool.not_true, Bool.not_false, reduceCtorEq, beq_iff_eq, Bool.not_eq_eq_eq_not, bne_iff_ne, ne_eq, decide_not, Decidable.not_not, Classical.not_not] at h')) | (refine And.intro (a := Both _ _ _) ?_ ?_; (refine ⟨fun h => ?_, fun h => ?_⟩ <;> first | rfl | exact h | exact Bool.noConfusion h | (rw [h]; rfl) | (rw [h]; simp only [Bool.not_false, Bool.not_true, Bool.and_true]; assumption) | (simp_all; done) | fail); skip) | refine And.intro rfl ?_ | refine Two.mk ?_ ?_ | refine And.intro (allU8_bytes _) ?_ | (refine And.intro (a := (_ : Bool) = true) ?_ ?_; (first | assumption | exact decide_eq_true (by assumption) | (rw [Bool.not_eq_true']; exact decide_eq_false (by assumption)) | (rw [Bool.not_not]; exact decide_eq_true (by assumption)) | (simp_all; done) | fail); skip) | refine And.intro (Or.inr rfl) ?_ | refine And.intro (Nat.le_of_ble_eq_true rfl) ?_ | refine And.intro (decide_eq_false (by omega)) ?_ | refine And.intro (show Program.stoodInHeld _ _ = _ by kernel_rfl) (And.intro (by kernel_rfl) ?_) | refine And.intro (show Nat.beq _ _ = _ from rfl) (And.intro (by decide) ?_) | refine And.intro ⟨rfl, rfl⟩ ?_ | refine And.intro ⟨rfl, rfl, trivial⟩ ?_ | refine And.intro (Int.natCast_nonneg _) ?_ | refine Or.inl (And.intro rfl (And.intro rfl (And.intro rfl (And.intro rfl ?_)))) | refine Or.inl (And.intro rfl (And.intro rfl ?_)) | refine Or.inr (And.intro (Nat.le_of_ble_eq_true rfl) ?_) | refine Or.inl (And.intro (by unfold in64; omega) ?_) | refine And.intro (by first | omega | (simp only [dlen, true_and, and_true, Nat.le_refl, List.length_map, List.length_append, List.length_cons, List.length_nil, List.length_take, List.length_drop, List.length_replicate, Int.toNat_natCast, List.append_nil] <;> omega) | fail) ?_ | refine And.intro (allU8_bytes _) ?_ | refine And.intro (show elemsP _ _ _ by repeat' (first | exact rfl | exact trivial | constructor)) ?_ | (refine (indexA_con _).mono fun rs bs hr => ?_; subst hr) | (refine fun x hx => ?_; (try simp (disch := omega) only [Int.tdiv_eq_ediv_of_nonneg, Int.tmod_eq_emod_of_nonneg, bx, Bool.true_or, Bool.false_or, Bool.or_false, Bool.or_true, Bool.and_true, Bool.true_and, Bool.false_and, Bool.and_false, cond_true, cond_false, if_true, if_false, Bool.false_eq_true, min_nn, max_nn, min_ln, min_nl, max_ln, max_nl, getD_map, str_of_bytes, take_bytes, take_data, wrap_u64, wrap_u32, wrap_u8, shr_i64, shr_u64, shr_u32, shl_i64, shl_u64, Int.reduceToNat, Int.reducePow, Int.pow_succ, Int.pow_zero, Int.one_mul, Int.reduceMul, wrap_id, wrap_u8_nat, wrap_i64_u8, byteD_mk, map_snoc, map_app, set_map, take_map', drop_map', Nat.sub_zero, List.length_map, List.length_append, List.length_cons, List.length_nil, Int.toNat_natCast, List.drop_zero, List.take_succ_cons, List.take_zero, List.take_length, List.nil_append, List.append_nil, Nat.zero_add, toNat_pred, toNat_succ, toNat_addn, toNat_subn] at hx); subst hx) | rw [List.take_length] | (rw [List.take_of_length_le]; rotate_left; (first | omega | (simp only [dlen, true_and, and_true, Nat.le_refl, List.length_map, List.length_append, List.length_cons, List.length_nil, List.length_take, List.length_drop, List.length_replicate, Int.toNat_natCast, List.append_nil] <;> omega) | fail)) | refine fun h => ?_ | fail)); all_goals (try exact (AV.dead : AV)); all_goals (try (conv => whnf))
  rfl
theorem hasK_ro (n c : Int) (hk : keyB n c = true) : Has Tryd.prog 26 [CV.d (D.sl 1 [D.int .i64 n]), CV.d (D.clo (Fn.func 27) [] [D.ptr (D.clo (Fn.func 24) [] [D.ptr (D.int .i64 c)])])] (fun rs bs => rs = [CV.d (D.bool false)] ∧ bs = [.gone, .gone]) :=
  (hasK_con n c hk).gone.mono fun rs bs h => by obtain ⟨⟨_, h1⟩, h2⟩ := h; exact ⟨h1, h2⟩
theorem hasA_ro (f : D) : Has Tryd.prog 28 [CV.d (D.sl 0 []), CV.d f] (fun rs bs => rs = [CV.d (D.bool false)] ∧ bs = [.gone, .gone]) :=
  (hasA_con f).gone.mono fun rs bs h => by obtain ⟨⟨_, h1⟩, h2⟩ := h; exact ⟨h1, h2⟩
def M16 : FuncId → List Mode := fun g => if g = 26 then [.ro, .ro] else if g = 28 then [.ro, .ro] else []
theorem right1_con : Has Tryd.prog 16 [CV.d (D.sl 1 [D.int .i64 0]), CV.d (D.sl 0 []), CV.d (D.int .i64 1)] (fun rs _ => rs = [CV.d (D.bool true)]) := by
  refine Has_of_run (fn := Tryd.f16) (M := M16) fol (by kernel_rfl) 5 noPlan [] [] (by kernel_rfl) (Nat.le_of_ble_eq_true rfl) ?_
  (repeat' ((conv => whnf); first | done | (refine And.intro (fun h => ?_) (fun h => ?_) <;> (try simp only [Bool.or_eq_true, Bool.and_eq_true, Bool.or_eq_false_iff, Bool.and_eq_false_iff, toNat_pred, toNat_succ, toNat_addn, toNat_subn, decide_eq_true_eq, decide_eq_false_iff_not, Bool.not_eq_true', Bool.not_eq_false', List.length_map, Int.toNat_natCast, Int.not_lt, Int.not_le, Bool.not_eq_true, Bool.false_eq_true, Bool.true_eq_false, Bool.not_true, Bool.not_false, reduceCtorEq, beq_iff_eq, Bool.not_eq_eq_eq_not, bne_iff_ne, ne_eq, decide_not, Decidable.not_not, Classical.not_not] at h)) | exact (rfl : (_ : AV) = _) | exact (rfl : (_ : St) = _) | refine Exists.intro (α := AV) AV.dead (And.intro (fun h => Bool.noConfusion h) ?_) | apply ex_av | (refine fun (h : (_ : Bool) = true) => ?_; have h' := h; (try simp only [Bool.or_eq_true, Bool.and_eq_true, Bool.or_eq_false_iff, Bool.and_eq_false_iff, toNat_pred, toNat_succ, toNat_addn, toNat_subn, decide_eq_true_eq, decide_eq_false_iff_not, Bool.not_eq_true', Bool.not_eq_false', List.length_map, Int.toNat_natCast, Int.not_lt, Int.not_le, Bool.not_eq_true, Bool.false_eq_true, Bool.true_eq_false, Bool.not_true, Bool.not_false, reduceCtorEq, beq_iff_eq, Bool.not_eq_eq_eq_not, bne_iff_ne, ne_eq, decide_not, Decidable.not_not, Classical.not_not] at h')) | (refine And.intro (a := Both _ _ _) ?_ ?_; (refine ⟨fun h => ?_, fun h => ?_⟩ <;> first | rfl | exact h | exact Bool.noConfusion h | (rw [h]; rfl) | (rw [h]; simp only [Bool.not_false, Bool.not_true, Bool.and_true]; assumption) | (simp_all; done) | fail); skip) | refine And.intro rfl ?_ | refine Two.mk ?_ ?_ | refine And.intro (allU8_bytes _) ?_ | (refine And.intro (a := (_ : Bool) = true) ?_ ?_; (first | assumption | exact decide_eq_true (by assumption) | (rw [Bool.not_eq_true']; exact decide_eq_false (by assumption)) | (rw [Bool.not_not]; exact decide_eq_true (by assumption)) | (simp_all; done) | fail); skip) | refine And.intro (Or.inr rfl) ?_ | refine And.intro (Nat.le_of_ble_eq_true rfl) ?_ | refine And.intro (decide_eq_false (by omega)) ?_ | refine And.intro (show Program.stoodInHeld _ _ = _ by kernel_rfl) (And.intro (by kernel_rfl) ?_) | refine And.intro (show Nat.beq _ _ = _ from rfl) (And.intro (by decide) ?_) | refine And.intro ⟨rfl, rfl⟩ ?_ | refine And.intro ⟨rfl, rfl, trivial⟩ ?_ | refine And.intro (Int.natCast_nonneg _) ?_ | refine Or.inl (And.intro rfl (And.intro rfl (And.intro rfl (And.intro rfl ?_)))) | refine Or.inl (And.intro rfl (And.intro rfl ?_)) | refine Or.inr (And.intro (Nat.le_of_ble_eq_true rfl) ?_) | refine Or.inl (And.intro (by unfold in64; omega) ?_) | refine And.intro (by first | omega | (simp only [dlen, true_and, and_true, Nat.le_refl, List.length_map, List.length_append, List.length_cons, List.length_nil, List.length_take, List.length_drop, List.length_replicate, Int.toNat_natCast, List.append_nil] <;> omega) | fail) ?_ | refine And.intro (allU8_bytes _) ?_ | refine And.intro (show elemsP _ _ _ by repeat' (first | exact rfl | exact trivial | constructor)) ?_ | (refine (hasK_ro 0 1 rfl).mono fun rs bs hr => ?_; obtain ⟨rfl, rfl⟩ := hr) | (refine (hasA_ro _).mono fun rs bs hr => ?_; obtain ⟨rfl, rfl⟩ := hr) | (refine fun x hx => ?_; (try simp (disch := omega) only [Int.tdiv_eq_ediv_of_nonneg, Int.tmod_eq_emod_of_nonneg, bx, Bool.true_or, Bool.false_or, Bool.or_false, Bool.or_true, Bool.and_true, Bool.true_and, Bool.false_and, Bool.and_false, cond_true, cond_false, if_true, if_false, Bool.false_eq_true, min_nn, max_nn, min_ln, min_nl, max_ln, max_nl, getD_map, str_of_bytes, take_bytes, take_data, wrap_u64, wrap_u32, wrap_u8, shr_i64, shr_u64, shr_u32, shl_i64, shl_u64, Int.reduceToNat, Int.reducePow, Int.pow_succ, Int.pow_zero, Int.one_mul, Int.reduceMul, wrap_id, wrap_u8_nat, wrap_i64_u8, byteD_mk, map_snoc, map_app, set_map, take_map', drop_map', Nat.sub_zero, List.length_map, List.length_append, List.length_cons, List.length_nil, Int.toNat_natCast, List.drop_zero, List.take_succ_cons, List.take_zero, List.take_length, List.nil_append, List.append_nil, Nat.zero_add, toNat_pred, toNat_succ, toNat_addn, toNat_subn] at hx); subst hx) | rw [List.take_length] | (rw [List.take_of_length_le]; rotate_left; (first | omega | (simp only [dlen, true_and, and_true, Nat.le_refl, List.length_map, List.length_append, List.length_cons, List.length_nil, List.length_take, List.length_drop, List.length_replicate, Int.toNat_natCast, List.append_nil] <;> omega) | fail)) | refine fun h => ?_ | fail)); all_goals (try exact (AV.dead : AV)); all_goals (try (conv => whnf))
  all_goals first
    | rfl
    | (exfalso; omega)
    | (exfalso; simp_all; done)
    | (trace_state; fail)
 
theorem byD_con (rows : List Rw) (keys : List Int) (aggs : List Ag) (lim : Int) (ok : RowsOK rows keys aggs) (hl : ¬ lim < (((byS rows keys aggs).length : Nat) : Int)) : Has Tryd.prog 10 [CV.d (D.sl 1 (rows.map encRow)), CV.d (D.sl 1 (keys.map intD)), CV.d (D.sl 2 (aggs.map encA)), CV.d (D.int .i64 lim)] (fun rs _ => rs = [CV.d (D.sl 1 ((byS rows keys aggs).map encRow)), CV.d (D.int .i64 0)]) :=
  (by_con rows keys aggs lim ok).dat fun rs bs h => by
    rw [if_neg hl] at h
    subst h
    refine ⟨[D.sl 1 ((byS rows keys aggs).map encRow), D.int .i64 0], ?_, rfl⟩
    simp only [dats, CV.dat, noHole_r, cond_true, toD_r]
theorem byX_con (rows : List Rw) (keys : List Int) (aggs : List Ag) (lim : Int) (ok : RowsOK rows keys aggs) (hl : lim < (((byS rows keys aggs).length : Nat) : Int)) : Has Tryd.prog 10 [CV.d (D.sl 1 (rows.map encRow)), CV.d (D.sl 1 (keys.map intD)), CV.d (D.sl 2 (aggs.map encA)), CV.d (D.int .i64 lim)] (fun rs _ => rs = [CV.d (D.sl 1 []), CV.d (D.int .i64 6)]) :=
  (by_con rows keys aggs lim ok).dat fun rs bs h => by
    rw [if_pos hl] at h
    subst h
    exact ⟨[D.sl 1 [], D.int .i64 6], rfl, rfl⟩
 
def rowsA : List Rw := [[(false, ⟨#[97]⟩)], [(false, ⟨#[98]⟩)], [(false, ⟨#[97]⟩)]]
def outA : List Rw := [[(false, ⟨#[97]⟩), (false, ⟨#[50]⟩)], [(false, ⟨#[98]⟩), (false, ⟨#[49]⟩)]]
theorem okA (aggs : List Ag) (h : aggs.length ≤ 1000) (h1 : ∀ a ∈ aggs, a.1 = 1) : RowsOK rowsA [0] aggs where
  rl := by decide
  kl := by decide
  al := h
  kc := by decide
  ac := fun a ha hn => absurd (h1 a ha) hn
  sz := by decide
theorem ds_A : dsS rowsA [0] rowsA.length = [[(false, ⟨#[97]⟩)], [(false, ⟨#[98]⟩)]] := by kernel_rfl
theorem by_A : byS rowsA [0] [(1, 0)] = outA := by
  have e1 : itoaS 2 = ⟨#[50]⟩ := by rw [itoaS_one (by decide)]; rfl
  have e2 : itoaS 1 = ⟨#[49]⟩ := by rw [itoaS_one (by decide)]; rfl
  have e3 : (grpS rowsA [0] [(false, ⟨#[97]⟩)]).length = 2 := by kernel_rfl
  have e4 : (grpS rowsA [0] [(false, ⟨#[98]⟩)]).length = 1 := by kernel_rfl
  unfold byS
  rw [ds_A]
  simp only [List.map_cons, List.map_nil, outS, oneS, if_true, e3, e4, e1, e2]
  rfl
theorem by_A1 : Has Tryd.prog 10 [CV.d (D.sl 1 (rowsA.map encRow)), CV.d (D.sl 1 ([0].map intD)), CV.d (D.sl 2 ([(1, 0)].map encA)), CV.d (D.int .i64 2)] (fun rs _ => rs = [CV.d (D.sl 1 (outA.map encRow)), CV.d (D.int .i64 0)]) := by
  have h := byD_con rowsA [0] [(1, 0)] 2 (okA _ (by decide) (by decide)) (by rw [by_A]; decide)
  rw [by_A] at h
  exact h
theorem by_A2 : Has Tryd.prog 10 [CV.d (D.sl 1 (rowsA.map encRow)), CV.d (D.sl 1 ([0].map intD)), CV.d (D.sl 2 []), CV.d (D.int .i64 1)] (fun rs _ => rs = [CV.d (D.sl 1 []), CV.d (D.int .i64 6)]) :=
  byX_con rowsA [0] [] 1 (okA _ (by decide) (by decide)) (by rw [byS_len, ds_A]; decide)
theorem nums_A : Has Tryd.prog 13 [CV.d (D.sl 1 (rowsA.map encRow)), CV.d (D.sl 1 ([0].map intD))] (fun rs _ => rs = [CV.own 3 1 ([0, 1, 0].map intD)]) :=
  (numbers_con rowsA [0] (by decide) (by decide) (by decide)).mono fun rs bs h => by
    rw [h]
    have : numsK (rowsA.map (ofS · [0])) = [0, 1, 0] := by kernel_rfl
    rw [this]
theorem hash_A : Has Tryd.prog 17 [CV.d (D.sl 2 [])] (fun rs _ => rs = [CV.d (D.int .u64 14695981039346656037)]) :=
  hash_con [] (fun v h => by cases h)
theorem same_A : Has Tryd.prog 12 [CV.d (D.sl 1 (outA.map encRow)), CV.d (D.sl 1 (outA.map encRow))] (fun rs _ => rs = [CV.d (D.bool true)]) :=
  (same18_con outA outA).mono fun rs bs h => by rw [h, decide_eq_true rfl]
theorem ints_A : Has Tryd.prog 15 [CV.d (D.sl 1 ([0, 1, 0].map intD)), CV.d (D.sl 1 ([0, 1, 0].map intD))] (fun rs _ => rs = [CV.d (D.bool true)]) :=
  (ints_con [0, 1, 0] [0, 1, 0]).mono fun rs bs h => by rw [h, decide_eq_true rfl]
theorem awake_con : Has Tryd.prog 7 [] (fun rs _ => rs = [CV.d (D.bool true)]) := by
  refine Has_of_run (fn := Tryd.f7) (M := M0) fol (by kernel_rfl) 6 noPlan [] [] (by kernel_rfl) (Nat.le_of_ble_eq_true rfl) ?_
  (repeat' ((conv => whnf); first | done | (refine And.intro (fun h => ?_) (fun h => ?_) <;> (try simp only [Bool.or_eq_true, Bool.and_eq_true, Bool.or_eq_false_iff, Bool.and_eq_false_iff, toNat_pred, toNat_succ, toNat_addn, toNat_subn, decide_eq_true_eq, decide_eq_false_iff_not, Bool.not_eq_true', Bool.not_eq_false', List.length_map, Int.toNat_natCast, Int.not_lt, Int.not_le, Bool.not_eq_true, Bool.false_eq_true, Bool.true_eq_false, Bool.not_true, Bool.not_false, reduceCtorEq, beq_iff_eq, Bool.not_eq_eq_eq_not, bne_iff_ne, ne_eq, decide_not, Decidable.not_not, Classical.not_not] at h)) | exact (rfl : (_ : AV) = _) | exact (rfl : (_ : St) = _) | refine Exists.intro (α := AV) AV.dead (And.intro (fun h => Bool.noConfusion h) ?_) | apply ex_av | (refine fun (h : (_ : Bool) = true) => ?_; have h' := h; (try simp only [Bool.or_eq_true, Bool.and_eq_true, Bool.or_eq_false_iff, Bool.and_eq_false_iff, toNat_pred, toNat_succ, toNat_addn, toNat_subn, decide_eq_true_eq, decide_eq_false_iff_not, Bool.not_eq_true', Bool.not_eq_false', List.length_map, Int.toNat_natCast, Int.not_lt, Int.not_le, Bool.not_eq_true, Bool.false_eq_true, Bool.true_eq_false, Bool.not_true, Bool.not_false, reduceCtorEq, beq_iff_eq, Bool.not_eq_eq_eq_not, bne_iff_ne, ne_eq, decide_not, Decidable.not_not, Classical.not_not] at h')) | (refine And.intro (a := Both _ _ _) ?_ ?_; (refine ⟨fun h => ?_, fun h => ?_⟩ <;> first | rfl | exact h | exact Bool.noConfusion h | (rw [h]; rfl) | (rw [h]; simp only [Bool.not_false, Bool.not_true, Bool.and_true]; assumption) | (simp_all; done) | fail); skip) | refine And.intro rfl ?_ | refine Two.mk ?_ ?_ | refine And.intro (allU8_bytes _) ?_ | (refine And.intro (a := (_ : Bool) = true) ?_ ?_; (first | assumption | exact decide_eq_true (by assumption) | (rw [Bool.not_eq_true']; exact decide_eq_false (by assumption)) | (rw [Bool.not_not]; exact decide_eq_true (by assumption)) | (simp_all; done) | fail); skip) | refine And.intro (Or.inr rfl) ?_ | refine And.intro (Nat.le_of_ble_eq_true rfl) ?_ | refine And.intro (decide_eq_false (by omega)) ?_ | refine And.intro (show Program.stoodInHeld _ _ = _ by kernel_rfl) (And.intro (by kernel_rfl) ?_) | refine And.intro (show Nat.beq _ _ = _ from rfl) (And.intro (by decide) ?_) | refine And.intro ⟨rfl, rfl⟩ ?_ | refine And.intro ⟨rfl, rfl, trivial⟩ ?_ | refine And.intro (Int.natCast_nonneg _) ?_ | refine Or.inl (And.intro rfl (And.intro rfl (And.intro rfl (And.intro rfl ?_)))) | refine Or.inl (And.intro rfl (And.intro rfl ?_)) | refine Or.inr (And.intro (Nat.le_of_ble_eq_true rfl) ?_) | refine Or.inl (And.intro (by unfold in64; omega) ?_) | refine And.intro (by first | omega | (simp only [dlen, true_and, and_true, Nat.le_refl, List.length_map, List.length_append, List.length_cons, List.length_nil, List.length_take, List.length_drop, List.length_replicate, Int.toNat_natCast, List.append_nil] <;> omega) | fail) ?_ | refine And.intro (allU8_bytes _) ?_ | refine And.intro (show elemsP _ _ _ by repeat' (first | exact rfl | exact trivial | constructor)) ?_ | (refine Has.mono (Has.norm (by_A1) (by rfl)) (fun rs bs hr => ?_); subst hr) | (refine Has.mono (Has.norm (by_A2) (by rfl)) (fun rs bs hr => ?_); subst hr) | (refine Has.mono (Has.norm (nums_A) (by rfl)) (fun rs bs hr => ?_); subst hr) | (refine Has.mono (Has.norm (hash_A) (by rfl)) (fun rs bs hr => ?_); subst hr) | (refine Has.mono (Has.norm (right1_con) (by rfl)) (fun rs bs hr => ?_); subst hr) | (refine Has.mono (Has.norm (same_A) (by rfl)) (fun rs bs hr => ?_); subst hr) | (refine Has.mono (Has.norm (ints_A) (by rfl)) (fun rs bs hr => ?_); subst hr) | (refine fun x hx => ?_; (try simp (disch := omega) only [Int.tdiv_eq_ediv_of_nonneg, Int.tmod_eq_emod_of_nonneg, bx, Bool.true_or, Bool.false_or, Bool.or_false, Bool.or_true, Bool.and_true, Bool.true_and, Bool.false_and, Bool.and_false, cond_true, cond_false, if_true, if_false, Bool.false_eq_true, min_nn, max_nn, min_ln, min_nl, max_ln, max_nl, getD_map, str_of_bytes, take_bytes, take_data, wrap_u64, wrap_u32, wrap_u8, shr_i64, shr_u64, shr_u32, shl_i64, shl_u64, Int.reduceToNat, Int.reducePow, Int.pow_succ, Int.pow_zero, Int.one_mul, Int.reduceMul, wrap_id, wrap_u8_nat, wrap_i64_u8, byteD_mk, map_snoc, map_app, set_map, take_map', drop_map', Nat.sub_zero, List.length_map, List.length_append, List.length_cons, List.length_nil, Int.toNat_natCast, List.drop_zero, List.take_succ_cons, List.take_zero, List.take_length, List.nil_append, List.append_nil, Nat.zero_add, toNat_pred, toNat_succ, toNat_addn, toNat_subn] at hx); subst hx) | rw [List.take_length] | (rw [List.take_of_length_le]; rotate_left; (first | omega | (simp only [dlen, true_and, and_true, Nat.le_refl, List.length_map, List.length_append, List.length_cons, List.length_nil, List.length_take, List.length_drop, List.length_replicate, Int.toNat_natCast, List.append_nil] <;> omega) | fail)) | refine fun h => ?_ | fail)); all_goals (try exact (AV.dead : AV)); all_goals (try (conv => whnf))
  all_goals first
    | rfl
    | (exfalso; simp_all; done)
    | (simp; done)
    | (trace_state; fail)
end Go.Fw
namespace Go.Fw
open Go
set_option linter.unusedVariables false
set_option linter.unusedSimpArgs false
theorem rowsG_of {rows : List Rw} {c : Int} (h : rowsB rows c = true) : (1 ≤ c ∧ c ≤ 8) ∧ rows.length ≤ 100 ∧ ∀ r ∈ rows, (r.length : Int) = c ∧ ∀ v ∈ r, v.2.size ≤ 100 := by
  simp only [rowsB, rowB, Bool.and_eq_true, decide_eq_true_eq, List.all_eq_true] at h
  exact ⟨⟨h.1.1, h.1.2.1⟩, h.1.2.2, fun r hr => ⟨(h.2 r hr).1, fun v hv => ((h.2 r hr).2 v hv).1⟩⟩
theorem rightG_of {keys : List Int} {aggs : List Ag} {c : Int} (h : rightB keys aggs c = true) : keys.length ≤ 8 ∧ aggs.length ≤ 8 ∧ ¬ keys.length + aggs.length = 0 ∧ (∀ k ∈ keys, 0 ≤ k ∧ k < c) ∧ ∀ a ∈ aggs, (1 ≤ a.1 ∧ a.1 ≤ 5) ∧ (¬ a.1 = 1 → 0 ≤ a.2 ∧ a.2 < c) := by
  simp only [rightB, Bool.and_eq_true, decide_eq_true_eq, List.all_eq_true, Bool.not_eq_true', decide_eq_false_iff_not] at h
  obtain ⟨⟨⟨⟨h1, h2⟩, h3⟩, h4⟩, h5⟩ := h
  refine ⟨h1, h2, h3, fun k hk => keyB_iff.1 (h4 k hk), fun a ha => ?_⟩
  have := aggB_iff.1 (h5 a ha)
  exact ⟨this.1.1, fun hn => this.2.resolve_left (by omega)⟩
theorem asAg_list {aggs : List Ag} : aggs.length = aggs.length := rfl
theorem rne_snoc {rows : List Rw} {e i : Nat} (h : i < rows.length) : (rows.take i).map (rNE e) ++ [NE.row e 2 ((rows.getD i default).map encV)] = (rows.take (i + 1)).map (rNE e) := by
  have e1 : rows.take (i + 1) = rows.take i ++ [rows.getD i default] := by
    rw [List.take_add_one]
    simp [List.getD_eq_getElem?_getD, h]
  rw [e1, List.map_append]
  rfl
theorem rne_set {xs : List Rw} {e i c : Nat} {v : Vl} : (xs.map (rNE e)).set i (NE.row e 2 (((xs.getD i default).set c v).map encV)) = (xs.set i ((xs.getD i default).set c v)).map (rNE e) := by
  simp only [List.map_set, rNE]
theorem getD_setR {xs : List Rw} {i : Nat} {r : Rw} (h : i < xs.length) : (xs.set i r).getD i default = r := by
  simp [List.getD_eq_getElem?_getD, h]
theorem byS_rows (rows : List Rw) (keys : List Int) (aggs : List Ag) (q : Nat) {n : Nat} (h : keys.length ≤ n) : ((byS rows keys aggs).getD q default).length ≤ n + aggs.length := by
  by_cases hq : q < (dsS rows keys rows.length).length
  · have e : (byS rows keys aggs).getD q default = outS rows keys aggs (dj rows keys q) := by
      unfold byS dj
      rw [List.getD_eq_getElem?_getD, List.getElem?_map, List.getElem?_eq_getElem hq, getD_lt hq]
      rfl
    rw [e]
    unfold outS
    have := dj_len rows keys q h
    rw [List.length_append, List.length_map]
    omega
  · rw [List.getD_eq_getElem?_getD, List.getElem?_eq_none (by rw [byS_len]; omega)]
    exact Nat.zero_le _
theorem set_rows {xs : List Rw} {j c n : Nat} {v : Vl} (h : ∀ q, (xs.getD q default).length ≤ n) : ∀ q, ((xs.set j ((xs.getD j default).set c v)).getD q default).length ≤ n := fun q => by
  rw [List.getD_eq_getElem?_getD, List.getElem?_set]
  split
  · rename_i e
    subst e
    split
    · show (List.set _ _ _).length ≤ n
      rw [List.length_set]
      exact h j
    · exact Nat.zero_le _
  · rw [← List.getD_eq_getElem?_getD]
    exact h q
theorem rne_set2 {xs : List Rw} {e j c : Nat} : (xs.map (rNE e)).set j (NE.row e 2 (((xs.getD j default).map encV).set c (D.agg [D.bool false, D.str ⟨#[63]⟩]))) = (xs.set j ((xs.getD j default).set c (false, ⟨#[63]⟩))).map (rNE e) := by
  rw [← rne_set, List.map_set]
  rfl
theorem len_setR {xs : List Rw} {j c : Nat} {v : Vl} (h : j < xs.length) : ((xs.set j ((xs.getD j default).set c v)).getD j default).length = (xs.getD j default).length := by
  rw [getD_setR h, List.length_set]
end Go.Fw
namespace Go.Fw
open Go Go.Proofs
set_option maxHeartbeats 10000000
set_option maxRecDepth 100000
set_option linter.constructorNameAsVariable false
set_option linter.unusedVariables false
set_option linter.unusedSimpArgs false
theorem okGr {rows : List Rw} {keys : List Int} {aggs : List Ag} {c : Int} (h1 : rowsB rows c = true) (h2 : rightB keys aggs c = true) : RowsOK rows keys aggs ∧ ∀ a ∈ aggs, 1 ≤ a.1 ∧ a.1 ≤ 5 := by
  obtain ⟨_, h3, h4⟩ := rowsG_of h1
  obtain ⟨h5, h6, _, h7, h8⟩ := rightG_of h2
  exact ⟨⟨by omega, by omega, by omega, fun r hr k hk => by have := (h4 r hr).1; have := h7 k hk; omega, fun a ha hn r hr => by have := (h4 r hr).1; have := (h8 a ha).2 hn; omega, fun r hr v hv => by have := (h4 r hr).2 v hv; omega⟩, fun a ha => (h8 a ha).1⟩
theorem asRows {x : D} (h : HasT Tryd.prog 22 x) : ∃ rows : List Rw, x = .sl 1 (rows.map encRow) := by
  obtain ⟨l0, rfl, _, hy⟩ := h.asSl (e := 37) (by kernel_rfl)
  obtain ⟨l, rfl, _⟩ := map_of (f := encRow) (p := fun _ => True) fun y hy' => by
    obtain ⟨row, e, _⟩ := HasT.asRow (P := Tryd.prog) (t := 36) (tb := 4) (ts := 9) (by kernel_rfl) (by kernel_rfl) Tryd.underlying36 rfl (by kernel_rfl) (by kernel_rfl) (hy y hy')
    exact ⟨row, e, trivial⟩
  have e : Program.cellsOf Tryd.prog 37 = 1 := by kernel_rfl
  exact ⟨l, by rw [e]⟩
theorem asInts {x : D} (h : HasT Tryd.prog 23 x) : ∃ l : List Int, x = .sl 1 (l.map intD) := by
  obtain ⟨l0, rfl, _, hy⟩ := h.asSl (e := 3) (by kernel_rfl)
  obtain ⟨l, rfl, _⟩ := map_of (f := intD) (p := fun _ => True) fun y hy' => by
    obtain ⟨n, e, _⟩ := (hy y hy').asInt (k := .i64) (by kernel_rfl)
    exact ⟨n, e, trivial⟩
  have e : Program.cellsOf Tryd.prog 3 = 1 := by kernel_rfl
  exact ⟨l, by rw [e]⟩
theorem asAggs {x : D} (h : HasT Tryd.prog 24 x) : ∃ l : List Ag, x = .sl 2 (l.map encA) := by
  obtain ⟨l0, rfl, _, hy⟩ := h.asSl (e := 39) (by kernel_rfl)
  obtain ⟨l, rfl, _⟩ := map_of (f := encA) (p := fun _ => True) fun y hy' => by
    obtain ⟨l2, rfl, hl⟩ := (hy y hy').asAggL Tryd.underlying39
    have hf : HasTs Tryd.prog [3, 3] l2 := hl
    obtain ⟨a, r, rfl, h1, h2⟩ := hf.cons
    obtain ⟨b, r2, rfl, h3, h4⟩ := h2.cons
    obtain rfl := h4.nil
    obtain ⟨n, rfl, _⟩ := h1.asInt (k := .i64) (by kernel_rfl)
    obtain ⟨m, rfl, _⟩ := h3.asInt (k := .i64) (by kernel_rfl)
    exact ⟨(n, m), rfl, trivial⟩
  have e : Program.cellsOf Tryd.prog 39 = 2 := by kernel_rfl
  exact ⟨l, by rw [e]⟩
theorem five_args {P : Program} {t1 t2 t3 t4 t5 : TypeId} {xs : List D} (h : HasTs P [t1, t2, t3, t4, t5] xs) : ∃ x1 x2 x3 x4 x5, xs = [x1, x2, x3, x4, x5] ∧ HasT P t1 x1 ∧ HasT P t2 x2 ∧ HasT P t3 x3 ∧ HasT P t4 x4 ∧ HasT P t5 x5 := by
  obtain ⟨x1, r1, rfl, h1, h⟩ := h.cons
  obtain ⟨x2, r2, rfl, h2, h⟩ := h.cons
  obtain ⟨x3, r3, rfl, h3, h⟩ := h.cons
  obtain ⟨x4, r4, rfl, h4, h⟩ := h.cons
  obtain ⟨x5, r5, rfl, h5, h⟩ := h.cons
  obtain rfl := h.nil
  exact ⟨_, _, _, _, _, rfl, h1, h2, h3, h4, h5⟩
theorem groupBys_con (rows : List Rw) (cols : Int) (keys : List Int) (aggs : List Ag) (most : Int) : Has Tryd.prog 3 [CV.d (D.sl 1 (rows.map encRow)), CV.d (D.int .i64 cols), CV.d (D.sl 1 (keys.map intD)), CV.d (D.sl 2 (aggs.map encA)), CV.d (D.int .i64 most)] (fun rs _ => rs = [CV.d (D.bool true)]) := by
  refine Has_of_run (fn := Tryd.f3) (M := M0) fol (by kernel_rfl) 14 noPlan [] [] (by kernel_rfl) (Nat.le_of_ble_eq_true rfl) ?_
  (repeat' ((conv => whnf); first | done | (refine And.intro (fun h => ?_) (fun h => ?_) <;> (try simp only [Bool.or_eq_true, Bool.and_eq_true, Bool.or_eq_false_iff, Bool.and_eq_false_iff, toNat_pred, toNat_succ, toNat_addn, toNat_subn, decide_eq_true_eq, decide_eq_false_iff_not, Bool.not_eq_true', Bool.not_eq_false', List.length_map, Int.toNat_natCast, Int.not_lt, Int.not_le, Bool.not_eq_true, Bool.false_eq_true, Bool.true_eq_false, Bool.not_true, Bool.not_false, reduceCtorEq, beq_iff_eq, Bool.not_eq_eq_eq_not, bne_iff_ne, ne_eq, decide_not, Decidable.not_not, Classical.not_not] at h)) | exact (rfl : (_ : AV) = _) | exact (rfl : (_ : St) = _) | refine Exists.intro (α := AV) AV.dead (And.intro (fun h => Bool.noConfusion h) ?_) | apply ex_av | (refine fun (h : (_ : Bool) = true) => ?_; have h' := h; (try simp only [Bool.or_eq_true, Bool.and_eq_true, Bool.or_eq_false_iff, Bool.and_eq_false_iff, toNat_pred, toNat_succ, toNat_addn, toNat_subn, decide_eq_true_eq, decide_eq_false_iff_not, Bool.not_eq_true', Bool.not_eq_false', List.length_map, Int.toNat_natCast, Int.not_lt, Int.not_le, Bool.not_eq_true, Bool.false_eq_true, Bool.true_eq_false, Bool.not_true, Bool.not_false, reduceCtorEq, beq_iff_eq, Bool.not_eq_eq_eq_not, bne_iff_ne, ne_eq, decide_not, Decidable.not_not, Classical.not_not] at h')) | (refine And.intro (a := Both _ _ _) ?_ ?_; (refine ⟨fun h => ?_, fun h => ?_⟩ <;> first | rfl | exact h | exact Bool.noConfusion h | (rw [h]; rfl) | (rw [h]; simp only [Bool.not_false, Bool.not_true, Bool.and_true]; assumption) | (simp_all; done) | fail); skip) | refine And.intro rfl ?_ | refine Two.mk ?_ ?_ | refine And.intro (allU8_bytes _) ?_ | (refine And.intro (a := (_ : Bool) = true) ?_ ?_; (first | assumption | exact decide_eq_true (by assumption) | (rw [Bool.not_eq_true']; exact decide_eq_false (by assumption)) | (rw [Bool.not_not]; exact decide_eq_true (by assumption)) | (simp_all; done) | fail); skip) | refine And.intro (Or.inr rfl) ?_ | refine And.intro (Nat.le_of_ble_eq_true rfl) ?_ | refine And.intro (decide_eq_false (by omega)) ?_ | refine And.intro (show Program.stoodInHeld _ _ = _ by kernel_rfl) (And.intro (by kernel_rfl) ?_) | refine And.intro (show Nat.beq _ _ = _ from rfl) (And.intro (by decide) ?_) | refine And.intro ⟨rfl, rfl⟩ ?_ | refine And.intro ⟨rfl, rfl, trivial⟩ ?_ | refine And.intro (Int.natCast_nonneg _) ?_ | refine Or.inl (And.intro rfl (And.intro rfl (And.intro rfl (And.intro rfl ?_)))) | refine Or.inl (And.intro rfl (And.intro rfl ?_)) | refine Or.inr (And.intro (Nat.le_of_ble_eq_true rfl) ?_) | refine Or.inl (And.intro (by unfold in64; omega) ?_) | refine And.intro (by first | omega | (simp only [dlen, true_and, and_true, Nat.le_refl, List.length_map, List.length_append, List.length_cons, List.length_nil, List.length_take, List.length_drop, List.length_replicate, Int.toNat_natCast, List.append_nil] <;> omega) | fail) ?_ | refine And.intro (allU8_bytes _) ?_ | refine And.intro (show elemsP _ _ _ by repeat' (first | exact rfl | exact trivial | constructor)) ?_ | (refine (awake_con).mono fun rs bs hr => ?_; subst hr) | (refine (rows_con _ _).mono fun rs bs hr => ?_; subst hr) | (refine (refRight_con _ _ _).mono fun rs bs hr => ?_; subst hr) | (refine (same18_con _ _).mono fun rs bs hr => ?_; subst hr) | (((rcases Int.lt_or_le most (((byS rows keys aggs).length : Nat) : Int) with hl | hl) <;> first | (refine (byX_con rows keys aggs most (okGr h.1.2 h.2).1 hl).mono fun rs bs hr => ?_; subst hr) | (refine (byD_con rows keys aggs most (okGr h.1.2 h.2).1 (Int.not_lt.2 hl)).mono fun rs bs hr => ?_; subst hr) | fail)) | (refine (refBy_con rows keys aggs (okGr h.1.2 h.2).1 (okGr h.1.2 h.2).2).mono fun rs bs hr => ?_; subst hr) | (refine fun x hx => ?_; (try simp (disch := omega) only [Int.tdiv_eq_ediv_of_nonneg, Int.tmod_eq_emod_of_nonneg, bx, Bool.true_or, Bool.false_or, Bool.or_false, Bool.or_true, Bool.and_true, Bool.true_and, Bool.false_and, Bool.and_false, cond_true, cond_false, if_true, if_false, Bool.false_eq_true, min_nn, max_nn, min_ln, min_nl, max_ln, max_nl, getD_map, str_of_bytes, take_bytes, take_data, wrap_u64, wrap_u32, wrap_u8, shr_i64, shr_u64, shr_u32, shl_i64, shl_u64, Int.reduceToNat, Int.reducePow, Int.pow_succ, Int.pow_zero, Int.one_mul, Int.reduceMul, wrap_id, wrap_u8_nat, wrap_i64_u8, byteD_mk, map_snoc, map_app, set_map, take_map', drop_map', Nat.sub_zero, List.length_map, List.length_append, List.length_cons, List.length_nil, Int.toNat_natCast, List.drop_zero, List.take_succ_cons, List.take_zero, List.take_length, List.nil_append, List.append_nil, Nat.zero_add, toNat_pred, toNat_succ, toNat_addn, toNat_subn] at hx); subst hx) | rw [List.take_length] | (rw [List.take_of_length_le]; rotate_left; (first | omega | (simp only [dlen, true_and, and_true, Nat.le_refl, List.length_map, List.length_append, List.length_cons, List.length_nil, List.length_take, List.length_drop, List.length_replicate, Int.toNat_natCast, List.append_nil] <;> omega) | fail)) | refine fun h => ?_ | fail)); all_goals (try exact (AV.dead : AV)); all_goals (try (conv => whnf))
  all_goals first
    | (refine rb ?_; simp; done)
    | (exfalso; omega)
    | (exfalso; simp_all; done)
    | (trace_state; fail)
theorem groupBys_law (xs : List D) (h : HasTs Tryd.prog Tryd.f3.params.toList xs) : Has Tryd.prog 3 (xs.map CV.d) (fun rs _ => rs = [.d (.bool true)]) := by
  obtain ⟨x1, x2, x3, x4, x5, rfl, h1, h2, h3, h4, h5⟩ := five_args (t1 := 22) (t2 := 3) (t3 := 23) (t4 := 24) (t5 := 3) h
  obtain ⟨rows, rfl⟩ := asRows h1
  obtain ⟨c, rfl, _⟩ := h2.asInt (k := .i64) (by kernel_rfl)
  obtain ⟨keys, rfl⟩ := asInts h3
  obtain ⟨aggs, rfl⟩ := asAggs h4
  obtain ⟨m, rfl, _⟩ := h5.asInt (k := .i64) (by kernel_rfl)
  exact groupBys_con rows c keys aggs m
end Go.Fw
namespace Go.Fw
open Go Go.Proofs
set_option maxHeartbeats 10000000
set_option maxRecDepth 100000
set_option linter.constructorNameAsVariable false
set_option linter.unusedVariables false
set_option linter.unusedSimpArgs false
theorem okKeeps {rows : List Rw} {c : Int} (h1 : rowsB rows c = true) : RowsOK rows [0] [(3, c - 1)] := by
  obtain ⟨hc, h3, h4⟩ := rowsG_of h1
  exact ⟨by omega, by decide, by simp, fun r hr k hk => by have := (h4 r hr).1; have : k = 0 := by simpa using hk
                                                           omega, fun a ha hn r hr => by have := (h4 r hr).1; have : a = (3, c - 1) := by simpa using ha
                                                                                         subst this; show 0 ≤ c - 1 ∧ c - 1 < _; omega, fun r hr v hv => by have := (h4 r hr).2 v hv; omega⟩
theorem byN_con (rows : List Rw) (keys : List Int) (aggs : List Ag) (lim : Int) (ok : RowsOK rows keys aggs) (hl : ¬ lim < (((byS rows keys aggs).length : Nat) : Int)) : Has Tryd.prog 10 [CV.d (D.sl 1 (rows.map encRow)), CV.d (D.sl 1 (keys.map intD)), CV.d (D.sl 2 (aggs.map encA)), CV.d (D.int .i64 lim)] (fun rs _ => rs = [CV.nest 37 ((byS rows keys aggs).map (rNE 36)), CV.d (D.int .i64 0)]) :=
  (by_con rows keys aggs lim ok).mono fun rs bs h => by rw [h, if_neg hl]
theorem groupKeeps_con (rows : List Rw) (cols : Int) : Has Tryd.prog 6 [CV.d (D.sl 1 (rows.map encRow)), CV.d (D.int .i64 cols)] (fun rs _ => rs = [CV.d (D.bool true)]) := by
  have hb36 : Tryd.prog.bytesOf 36 = 24 := by kernel_rfl
  have hb37 : Tryd.prog.bytesOf 37 = 24 := by kernel_rfl
  refine Has_of_run (fn := Tryd.f6) (M := M0) fol (by kernel_rfl) 11 noPlan [] [] (by kernel_rfl) (Nat.le_of_ble_eq_true rfl) ?_
  (repeat' ((conv => whnf); first | done | (refine And.intro (fun h => ?_) (fun h => ?_) <;> (try simp only [Bool.or_eq_true, Bool.and_eq_true, Bool.or_eq_false_iff, Bool.and_eq_false_iff, toNat_pred, toNat_succ, toNat_addn, toNat_subn, decide_eq_true_eq, decide_eq_false_iff_not, Bool.not_eq_true', Bool.not_eq_false', List.length_map, Int.toNat_natCast, Int.not_lt, Int.not_le, Bool.not_eq_true, Bool.false_eq_true, Bool.true_eq_false, Bool.not_true, Bool.not_false, reduceCtorEq, beq_iff_eq, Bool.not_eq_eq_eq_not, bne_iff_ne, ne_eq, decide_not, Decidable.not_not, Classical.not_not, List.length_set] at h)) | exact (rfl : (_ : AV) = _) | exact (rfl : (_ : St) = _) | refine Exists.intro (α := AV) AV.dead (And.intro (fun h => Bool.noConfusion h) ?_) | apply ex_av | (refine fun (h : (_ : Bool) = true) => ?_; have h' := h; (try simp only [Bool.or_eq_true, Bool.and_eq_true, Bool.or_eq_false_iff, Bool.and_eq_false_iff, toNat_pred, toNat_succ, toNat_addn, toNat_subn, decide_eq_true_eq, decide_eq_false_iff_not, Bool.not_eq_true', Bool.not_eq_false', List.length_map, Int.toNat_natCast, Int.not_lt, Int.not_le, Bool.not_eq_true, Bool.false_eq_true, Bool.true_eq_false, Bool.not_true, Bool.not_false, reduceCtorEq, beq_iff_eq, Bool.not_eq_eq_eq_not, bne_iff_ne, ne_eq, decide_not, Decidable.not_not, Classical.not_not, List.length_set] at h')) | (refine And.intro (a := Both _ _ _) ?_ ?_; (refine ⟨fun h => ?_, fun h => ?_⟩ <;> first | rfl | exact h | exact Bool.noConfusion h | (rw [h]; rfl) | (rw [h]; simp only [Bool.not_false, Bool.not_true, Bool.and_true]; assumption) | (simp_all; done) | fail); skip) | refine And.intro rfl ?_ | refine Two.mk ?_ ?_ | refine And.intro (allU8_bytes _) ?_ | (refine And.intro (a := (_ : Bool) = true) ?_ ?_; (first | assumption | exact decide_eq_true (by assumption) | (rw [Bool.not_eq_true']; exact decide_eq_false (by assumption)) | (rw [Bool.not_not]; exact decide_eq_true (by assumption)) | (simp_all; done) | fail); skip) | refine And.intro (Or.inr rfl) ?_ | refine And.intro (Nat.le_of_ble_eq_true rfl) ?_ | refine And.intro (decide_eq_false (by omega)) ?_ | refine And.intro (show Program.stoodInHeld _ _ = _ by kernel_rfl) (And.intro (by kernel_rfl) ?_) | refine And.intro (show Nat.beq _ _ = _ from rfl) (And.intro (by decide) ?_) | refine And.intro ⟨rfl, rfl⟩ ?_ | refine And.intro ⟨rfl, rfl, trivial⟩ ?_ | refine And.intro (Int.natCast_nonneg _) ?_ | refine Or.inl (And.intro rfl (And.intro rfl (And.intro rfl (And.intro rfl ?_)))) | refine Or.inl (And.intro rfl (And.intro rfl ?_)) | refine Or.inr (And.intro (Nat.le_of_ble_eq_true rfl) ?_) | refine Or.inl (And.intro (by unfold in64; omega) ?_) | refine And.intro (by first | omega | (simp only [dlen, true_and, and_true, Nat.le_refl, List.length_map, List.length_append, List.length_cons, List.length_nil, List.length_take, List.length_drop, List.length_replicate, Int.toNat_natCast, List.append_nil, hb36, hb37, List.length_set] <;> omega) | fail) ?_ | refine And.intro (allU8_bytes _) ?_ | refine And.intro (show elemsP _ _ _ by repeat' (first | exact rfl | exact trivial | constructor)) ?_ | (refine And.intro (noHole_r _ _) ?_) | (refine And.intro ⟨rfl, rfl, rfl⟩ ?_) | (refine And.intro ⟨rfl, rfl, rfl, rfl, rfl⟩ ?_) | (refine And.intro (show ¬ _ = _ by decide) ?_) | (refine (awake_con).mono fun rs bs hr => ?_; subst hr) | (refine (rows_con _ _).mono fun rs bs hr => ?_; subst hr) | (rw [toD_r]) | (refine (same18_con _ _).mono fun rs bs hr => ?_; subst hr) | (refine (byN_con rows [0] [(3, cols - 1)] 1000 (okKeeps hrb) (by omega)).mono fun rs bs hr => ?_; subst hr) | (have hrb := h.2; have hg := rowsG_of hrb; have hbl := byS_len rows [0] [(3, cols - 1)]; have hdl := dsS_len rows [0] rows.length (Nat.le_refl _); refine Loops.toNest [5] rfl rfl ?_; refine Loops.by (M := M0) 11 noPlan fol (by kernel_rfl) (ι := Nat × List NE) (fun ⟨i, ol⟩ => ⟨[(0, AV.d (D.sl 1 (rows.map encRow))), (1, AV.d (D.int .i64 cols)), (5, AV.nref [5] 16 ol.length), (6, AV.d (D.int .i64 i))], [([5], 16, AO.nest 37 ol)], 17⟩) (fun ⟨i, ol⟩ => i ≤ rows.length ∧ ol = (rows.take i).map (rNE 36)) (fun ⟨i, ol⟩ => rows.length - i) (fun p hI => ?_) ((0, [])) ⟨Nat.zero_le _, rfl⟩ (Forget.mk' ⟨⟨rfl, rfl⟩, ⟨rfl, rfl⟩, ⟨rfl, rfl⟩, ⟨rfl, rfl⟩, trivial⟩ ⟨⟨rfl, rfl, rfl⟩, trivial⟩ rfl rfl); obtain ⟨i, ol⟩ := p; obtain ⟨hi, rfl⟩ := hI; have hgi : (i : Int) < rows.length → ((rows.getD i default).length : Int) = cols := (fun h => (hg.2.2 _ (getD_mem (by omega))).1)) | (have hie : i = rows.length := (by omega); subst hie; refine Loops.by (M := M0) 11 noPlan fol (by kernel_rfl) (ι := Nat × List Rw × Nat) (fun ⟨j, xs, z⟩ => ⟨[(0, AV.d (D.sl 1 (rows.map encRow))), (5, AV.nref [5] 16 (rows.map (rNE 36)).length), (7, AV.nref [7] 17 z), (9, AV.d (D.int .i64 j))], [([5], 16, AO.nest 37 (rows.map (rNE 36))), ([7], 17, AO.nest 37 (xs.map (rNE 36)))], 18⟩) (fun ⟨j, xs, z⟩ => j ≤ z ∧ z = (byS rows [0] [(3, cols - 1)]).length ∧ xs.length = z ∧ ∀ q, (xs.getD q default).length ≤ 2) (fun ⟨j, xs, z⟩ => z - j) (fun p hI => ?_) ((0, byS rows [0] [(3, cols - 1)], ((byS rows [0] [(3, cols - 1)]).map (rNE 36)).length)) ⟨Nat.zero_le _, List.length_map _, (List.length_map _).symm, fun q => byS_rows rows [0] [(3, cols - 1)] q (n := 1) (by decide)⟩ (Forget.mk' ⟨⟨rfl, rfl⟩, ⟨rfl, rfl⟩, ⟨rfl, rfl⟩, ⟨rfl, rfl⟩, trivial⟩ ⟨⟨rfl, rfl, rfl⟩, ⟨rfl, rfl, rfl⟩, trivial⟩ rfl rfl); obtain ⟨j, xs, z⟩ := p; obtain ⟨hj, hz, hx, hq⟩ := hI; have hqj := hq j) | (refine Loops.by (M := M0) 11 noPlan fol (by kernel_rfl) (ι := Nat × List Rw × Nat) (fun ⟨c, xs, y⟩ => ⟨[(0, AV.d (D.sl 1 (rows.map encRow))), (5, AV.nref [5] 16 (rows.map (rNE 36)).length), (7, AV.nref [7] 17 y), (9, AV.d (D.int .i64 j)), (10, AV.d (D.int .i64 c))], [([5], 16, AO.nest 37 (rows.map (rNE 36))), ([7], 17, AO.nest 37 (xs.map (rNE 36)))], 18⟩) (fun ⟨c, xs, y⟩ => c ≤ (xs.getD j default).length ∧ y = z ∧ xs.length = z ∧ ∀ q, (xs.getD q default).length ≤ 2) (fun ⟨c, xs, y⟩ => (xs.getD j default).length - c) (fun p hI => ?_) ((0, xs, z)) ⟨Nat.zero_le _, rfl, hx, hq⟩ (Forget.mk' ⟨⟨rfl, rfl⟩, ⟨rfl, rfl⟩, ⟨rfl, rfl⟩, ⟨rfl, rfl⟩, ⟨rfl, rfl⟩, trivial⟩ ⟨⟨rfl, rfl, rfl⟩, ⟨rfl, rfl, rfl⟩, trivial⟩ rfl rfl); obtain ⟨c, xs, y⟩ := p; obtain ⟨hc, hy, hx, hq⟩ := hI; have hqj := hq j; subst hy) | (refine fun x hx => ?_; (try simp (disch := omega) only [Int.tdiv_eq_ediv_of_nonneg, Int.tmod_eq_emod_of_nonneg, bx, Bool.true_or, Bool.false_or, Bool.or_false, Bool.or_true, Bool.and_true, Bool.true_and, Bool.false_and, Bool.and_false, cond_true, cond_false, if_true, if_false, Bool.false_eq_true, min_nn, max_nn, min_ln, min_nl, max_ln, max_nl, getD_map, str_of_bytes, take_bytes, take_data, wrap_u64, wrap_u32, wrap_u8, shr_i64, shr_u64, shr_u32, shl_i64, shl_u64, Int.reduceToNat, Int.reducePow, Int.pow_succ, Int.pow_zero, Int.one_mul, Int.reduceMul, wrap_id, wrap_u8_nat, wrap_i64_u8, byteD_mk, map_snoc, map_app, set_map, take_map', drop_map', Nat.sub_zero, List.length_map, List.length_append, List.length_cons, List.length_nil, Int.toNat_natCast, List.drop_zero, List.take_succ_cons, List.take_zero, List.take_length, List.nil_append, List.append_nil, Nat.zero_add, toNat_pred, toNat_succ, toNat_addn, toNat_subn, List.length_set, getN_map, List.set_set] at hx); subst hx) | rw [List.take_length] | (rw [List.take_of_length_le]; rotate_left; (first | omega | (simp only [dlen, true_and, and_true, Nat.le_refl, List.length_map, List.length_append, List.length_cons, List.length_nil, List.length_take, List.length_drop, List.length_replicate, Int.toNat_natCast, List.append_nil, hb36, hb37, List.length_set] <;> omega) | fail)) | refine fun h => ?_ | fail)); all_goals (try exact (AV.dead : AV)); all_goals (try (conv => whnf))
  · exact ⟨(i + 1, _), ⟨⟨by show i + 1 ≤ _; omega, rne_snoc (by omega)⟩, by show rows.length - (i + 1) < rows.length - i; omega⟩, (Forget.mk' ⟨⟨rfl, rfl⟩, ⟨rfl, rfl⟩, ⟨rfl, rfl⟩, ⟨rfl, rfl⟩, trivial⟩ ⟨⟨rfl, rfl, rfl⟩, trivial⟩ rfl rfl)⟩
  · have e := len_setR (xs := xs) (j := j) (c := c) (v := (false, ⟨#[63]⟩)) (by omega)
    refine ⟨(c + 1, xs.set j ((xs.getD j default).set c (false, ⟨#[63]⟩)), y), ⟨⟨by rw [e]; omega, rfl, by rw [List.length_set]; exact hx, set_rows hq⟩, ?_⟩, ?_⟩
    · show ((xs.set j ((xs.getD j default).set c (false, ⟨#[63]⟩))).getD j default).length - (c + 1) < (xs.getD j default).length - c
      rw [e]
      omega
    · rw [rne_set2]
      exact (Forget.mk' ⟨⟨rfl, rfl⟩, ⟨rfl, rfl⟩, ⟨rfl, rfl⟩, ⟨rfl, rfl⟩, ⟨rfl, rfl⟩, trivial⟩ ⟨⟨rfl, rfl, rfl⟩, ⟨rfl, rfl, rfl⟩, trivial⟩ rfl rfl)
  · exact ⟨(j + 1, xs, y), ⟨⟨by show j + 1 ≤ y; omega, hz, hx, hq⟩, by show y - (j + 1) < y - j; omega⟩, (Forget.mk' ⟨⟨rfl, rfl⟩, ⟨rfl, rfl⟩, ⟨rfl, rfl⟩, ⟨rfl, rfl⟩, trivial⟩ ⟨⟨rfl, rfl, rfl⟩, ⟨rfl, rfl, rfl⟩, trivial⟩ rfl rfl)⟩
  · exact rb (decide_eq_true rfl)
theorem groupKeeps_law (xs : List D) (h : HasTs Tryd.prog Tryd.f6.params.toList xs) : Has Tryd.prog 6 (xs.map CV.d) (fun rs _ => rs = [.d (.bool true)]) := by
  obtain ⟨x, y, rfl, h1, h2⟩ := two_args (t := 22) (u := 3) h
  obtain ⟨rows, rfl⟩ := asRows h1
  obtain ⟨c, rfl, _⟩ := h2.asInt (k := .i64) (by kernel_rfl)
  exact groupKeeps_con rows c
end Go.Fw
namespace Go.Fw
open Go
set_option linter.unusedVariables false
set_option linter.unusedSimpArgs false
theorem grpS_all {rows : List Rw} {keys : List Int} {k : Rw} (h : ∀ r ∈ rows, ofS r keys = k) : grpS rows keys k = rows := by
  unfold grpS
  exact List.filter_eq_self.2 fun r hr => decide_eq_true (h r hr)
theorem whole_by (rows : List Rw) : byS rows [] [(1, 0), (5, 0)] = [[(false, itoaS rows.length), oneS rows (5, 0)]] := by
  unfold byS
  have hd : dsS rows [] rows.length = [[]] := by unfold dsS; rw [if_pos (by rfl)]
  rw [hd]
  have hg : grpS rows [] [] = rows := grpS_all fun r _ => rfl
  simp only [List.map_cons, List.map_nil, outS, hg, List.nil_append]
  rfl
def seqK (n : Nat) : List Int := (List.range n).map fun (c : Nat) => (c : Int)
theorem seqK_len (n : Nat) : (seqK n).length = n := by simp [seqK]
theorem seqK_snoc (n : Nat) : (seqK n).map intD ++ [D.int .i64 (n : Int)] = (seqK (n + 1)).map intD := by
  unfold seqK
  rw [List.range_succ, List.map_append, List.map_append]
  rfl
theorem seqK_mem {n : Nat} : ∀ c ∈ seqK n, 0 ≤ c ∧ c < (n : Int) := fun c hc => by
  obtain ⟨k, hk, rfl⟩ := List.mem_map.1 hc
  have := List.mem_range.1 hk
  omega
theorem ofS_all {r : Rw} {n : Nat} (h : r.length = n) : ofS r (seqK n) = r := by
  subst h
  unfold ofS seqK
  apply List.ext_getElem
  · simp
  · intro i h1 h2
    simp [List.getD_eq_getElem?_getD, h2]
theorem keysS_all {rows : List Rw} {n : Nat} (h : ∀ r ∈ rows, r.length = n) : keysS rows (seqK n) = rows := by
  unfold keysS
  conv => rhs; rw [← List.map_id rows]
  exact List.map_congr_left fun r hr => ofS_all (h r hr)
theorem all_by {rows : List Rw} {n : Nat} (h : ∀ r ∈ rows, r.length = n) (h0 : 0 < n) : byS rows (seqK n) [] = distK rows := by
  unfold byS dsS
  rw [if_neg (by rw [seqK_len]; omega), keysS_all h, List.take_length]
  conv => rhs; rw [← List.map_id (distK rows)]
  exact List.map_congr_left fun k _ => by simp [outS]
 
def NewS (rows : List Rw) (i k : Nat) (b : Bool) : Prop := b = true ↔ ∀ q, q < k → ¬ rows.getD i default = rows.getD q default
theorem NewS.zero (rows : List Rw) (i : Nat) : NewS rows i 0 true := ⟨fun _ q h => absurd h (Nat.not_lt_zero _), fun _ => rfl⟩
theorem cut_one {rows : List Rw} {i : Nat} (h : i < rows.length) : (rows.take (i + 1)).drop i = [rows.getD i default] := by
  rw [List.drop_take, show i + 1 - i = 1 by omega, List.drop_eq_getElem_cons h, List.take_succ_cons, List.take_zero, getD_lt h]
theorem NewS.step {rows : List Rw} {i k : Nat} {b : Bool} (h : NewS rows i k b) (hi : i < rows.length) (hk : k < rows.length) : NewS rows i (k + 1) (b && !decide ((rows.take (i + 1)).drop i = (rows.take (k + 1)).drop k)) := by
  rw [cut_one hi, cut_one hk]
  unfold NewS at *
  rw [Bool.and_eq_true, h]
  constructor
  · rintro ⟨h1, h2⟩ q hq
    rcases Nat.lt_succ_iff_lt_or_eq.1 hq with h3 | h3
    · exact h1 q h3
    · subst h3
      simpa using h2
  · intro h1
    exact ⟨fun q hq => h1 q (by omega), by simpa using h1 k (by omega)⟩
theorem NewS.inK {rows : List Rw} {i k : Nat} {b : Bool} (h : NewS rows i k b) (hk : i ≤ k) (hki : k ≤ i) (hi : i < rows.length) : (!Go.Fw.inK (distK (rows.take i)) (rows.getD i default)) = b := by
  have hm : Go.Fw.inK (distK (rows.take i)) (rows.getD i default) = true ↔ ∃ q, q < i ∧ rows.getD i default = rows.getD q default := by
    rw [inK_iff, (distK_spec _).2.1]
    constructor
    · intro hm
      obtain ⟨q, hq, e⟩ := List.getElem_of_mem hm
      rw [List.length_take] at hq
      rw [List.getElem_take] at e
      refine ⟨q, by omega, ?_⟩
      rw [← e, getD_lt (by omega)]
    · rintro ⟨q, hq, e⟩
      rw [e, getD_lt (by omega)]
      exact List.mem_take_iff_getElem.2 ⟨q, by omega, rfl⟩
  cases b with
  | true =>
    have := (h.1 rfl)
    rw [Bool.not_eq_true', ← Bool.not_eq_true, hm]
    rintro ⟨q, hq, e⟩
    exact this q (by omega) e
  | false =>
    rw [Bool.not_eq_false', hm]
    refine Classical.byContradiction fun hn => ?_
    have := h.2 fun q hq e => hn ⟨q, by omega, e⟩
    cases this
theorem dist_yes {rows : List Rw} {i : Nat} (hi : i < rows.length) (h : inK (distK (rows.take i)) (rows.getD i default) = false) : distK (rows.take (i + 1)) = distK (rows.take i) ++ [rows.getD i default] := by
  rw [(numsK_step hi).2]
  unfold addK
  rw [if_neg (by rw [h]; decide)]
theorem dist_no {rows : List Rw} {i : Nat} (hi : i < rows.length) (h : inK (distK (rows.take i)) (rows.getD i default) = true) : distK (rows.take (i + 1)) = distK (rows.take i) := by
  rw [(numsK_step hi).2]
  unfold addK
  rw [if_pos h]
theorem one_none {rows : List Rw} (h : rows.length = 0) : (oneS rows (5, 0)).1 = true := by
  rw [List.eq_nil_of_length_eq_zero h]
  rfl
end Go.Fw
namespace Go.Fw
open Go Go.Proofs
set_option maxHeartbeats 10000000
set_option maxRecDepth 100000
set_option linter.constructorNameAsVariable false
set_option linter.unusedVariables false
set_option linter.unusedSimpArgs false
theorem okWhole {rows : List Rw} {c : Int} (h1 : rowsB rows c = true) : RowsOK rows [] [(1, 0), (5, 0)] := by
  obtain ⟨hc, h3, h4⟩ := rowsG_of h1
  exact ⟨by omega, by decide, by simp, fun r hr k hk => by simp at hk, fun a ha hn r hr => by
    have := (h4 r hr).1
    simp only [List.mem_cons, List.not_mem_nil, or_false] at ha
    rcases ha with rfl | rfl
    · exact absurd rfl hn
    · show (0 : Int) ≤ 0 ∧ (0 : Int) < _
      omega, fun r hr v hv => by have := (h4 r hr).2 v hv; omega⟩
theorem okAll {rows : List Rw} {c : Int} (h1 : rowsB rows c = true) : RowsOK rows (seqK c.toNat) [] := by
  obtain ⟨hc, h3, h4⟩ := rowsG_of h1
  exact ⟨by omega, by rw [seqK_len]; omega, by simp, fun r hr k hk => by have := (h4 r hr).1; have := seqK_mem k hk; omega, fun a ha => by simp at ha, fun r hr v hv => by have := (h4 r hr).2 v hv; omega⟩
theorem byW_con {rows : List Rw} {c : Int} (h1 : rowsB rows c = true) : Has Tryd.prog 10 [CV.d (D.sl 1 (rows.map encRow)), CV.d (D.sl 1 []), CV.d (D.sl 2 ([(1, 0), (5, 0)].map encA)), CV.d (D.int .i64 1)] (fun rs _ => rs = [CV.d (D.sl 1 [encRow [(false, itoaS rows.length), oneS rows (5, 0)]]), CV.d (D.int .i64 0)]) := by
  have h := byD_con rows [] [(1, 0), (5, 0)] 1 (okWhole h1) (by rw [whole_by]; exact Int.lt_irrefl 1)
  rw [whole_by] at h
  exact h
theorem byAll_con {rows : List Rw} {c : Int} (h1 : rowsB rows c = true) : Has Tryd.prog 10 [CV.d (D.sl 1 (rows.map encRow)), CV.d (D.sl 1 ((seqK c.toNat).map intD)), CV.d (D.sl 2 []), CV.d (D.int .i64 1000)] (fun rs _ => rs = [CV.d (D.sl 1 ((distK rows).map encRow)), CV.d (D.int .i64 0)]) := by
  obtain ⟨hc, h3, h4⟩ := rowsG_of h1
  have e := all_by (rows := rows) (n := c.toNat) (fun r hr => by have := (h4 r hr).1; omega) (by omega)
  have h := byD_con rows (seqK c.toNat) [] 1000 (okAll h1) (by rw [e]; have := (distK_spec rows).2.2; omega)
  rw [e] at h
  exact h
def pl5 : Nat → Plan
  | 4 => tks 0 [0, 0, 0, 0, 0, 0, 0, 0, 0, 0] (tks 14 [0, 0] (.two 10 (tks 11 [0, 0] (.two 13 (.one 16 (tks 17 [0, 0, 0, 0, 0, 0, 0, 0, 0, 1, 0, 0, 1, 0, 0, 0] (.done))) 16 (tks 13 [1] (tks 17 [0, 0, 0, 0, 0, 0, 0, 0, 0, 1, 0, 0, 1, 0, 0, 0] (.done))))) 16 (tks 10 [1, 0, 0, 1] (tks 17 [0, 0, 0, 0, 0, 0, 0, 0, 0, 1, 0, 0, 1, 0, 0, 0] (.done)))))
  | 20 => tks 0 [0, 0, 0, 0, 0, 0, 0, 0, 0, 0, 0, 0] (.one 12 (tks 13 [0, 0] (.one 15 (.done))))
  | _ => .done
theorem groupWhole_con (rows : List Rw) (cols : Int) : Has Tryd.prog 5 [CV.d (D.sl 1 (rows.map encRow)), CV.d (D.int .i64 cols)] (fun rs _ => rs = [CV.d (D.bool true)]) := by
  have hb3 : Tryd.prog.bytesOf 3 = 8 := by kernel_rfl
  have hb37 : Tryd.prog.bytesOf 37 = 24 := by kernel_rfl
  refine Has_of_run (fn := Tryd.f5) (M := M0) fol (by kernel_rfl) 15 pl5 [] [] (by kernel_rfl) (Nat.le_of_ble_eq_true rfl) ?_
  (repeat' ((conv => whnf); first | done | (refine And.intro (fun h => ?_) (fun h => ?_) <;> (try simp only [Bool.or_eq_true, Bool.and_eq_true, Bool.or_eq_false_iff, Bool.and_eq_false_iff, toNat_pred, toNat_succ, toNat_addn, toNat_subn, decide_eq_true_eq, decide_eq_false_iff_not, Bool.not_eq_true', Bool.not_eq_false', List.length_map, Int.toNat_natCast, Int.not_lt, Int.not_le, Bool.not_eq_true, Bool.false_eq_true, Bool.true_eq_false, Bool.not_true, Bool.not_false, reduceCtorEq, beq_iff_eq, Bool.not_eq_eq_eq_not, bne_iff_ne, ne_eq, decide_not, Decidable.not_not, Classical.not_not, not_true_eq_false, not_false_eq_true] at h)) | exact (rfl : (_ : AV) = _) | exact (rfl : (_ : St) = _) | refine Exists.intro (α := AV) AV.dead (And.intro (fun h => Bool.noConfusion h) ?_) | apply ex_av | (refine fun (h : (_ : Bool) = true) => ?_; have h' := h; (try simp only [Bool.or_eq_true, Bool.and_eq_true, Bool.or_eq_false_iff, Bool.and_eq_false_iff, toNat_pred, toNat_succ, toNat_addn, toNat_subn, decide_eq_true_eq, decide_eq_false_iff_not, Bool.not_eq_true', Bool.not_eq_false', List.length_map, Int.toNat_natCast, Int.not_lt, Int.not_le, Bool.not_eq_true, Bool.false_eq_true, Bool.true_eq_false, Bool.not_true, Bool.not_false, reduceCtorEq, beq_iff_eq, Bool.not_eq_eq_eq_not, bne_iff_ne, ne_eq, decide_not, Decidable.not_not, Classical.not_not, not_true_eq_false, not_false_eq_true] at h')) | (refine And.intro (a := Both _ _ _) ?_ ?_; (refine ⟨fun h => ?_, fun h => ?_⟩ <;> first | rfl | exact h | exact Bool.noConfusion h | (rw [h]; rfl) | (rw [h]; simp only [Bool.not_false, Bool.not_true, Bool.and_true]; assumption) | (simp_all; done) | fail); skip) | refine And.intro rfl ?_ | refine Two.mk ?_ ?_ | refine And.intro (allU8_bytes _) ?_ | (refine And.intro (a := (_ : Bool) = true) ?_ ?_; (first | assumption | exact decide_eq_true (by assumption) | (rw [Bool.not_eq_true']; exact decide_eq_false (by assumption)) | (rw [Bool.not_not]; exact decide_eq_true (by assumption)) | (simp_all; done) | fail); skip) | refine And.intro (Or.inr rfl) ?_ | refine And.intro (Nat.le_of_ble_eq_true rfl) ?_ | refine And.intro (decide_eq_false (by omega)) ?_ | refine And.intro (show Program.stoodInHeld _ _ = _ by kernel_rfl) (And.intro (by kernel_rfl) ?_) | refine And.intro (show Nat.beq _ _ = _ from rfl) (And.intro (by decide) ?_) | refine And.intro ⟨rfl, rfl⟩ ?_ | refine And.intro ⟨rfl, rfl, trivial⟩ ?_ | refine And.intro (Int.natCast_nonneg _) ?_ | refine Or.inl (And.intro rfl (And.intro rfl (And.intro rfl (And.intro rfl ?_)))) | refine Or.inl (And.intro rfl (And.intro rfl ?_)) | refine Or.inr (And.intro (Nat.le_of_ble_eq_true rfl) ?_) | refine Or.inl (And.intro (by unfold in64; omega) ?_) | refine And.intro (by first | omega | (simp only [dlen, true_and, and_true, Nat.le_refl, List.length_map, List.length_append, List.length_cons, List.length_nil, List.length_take, List.length_drop, List.length_replicate, Int.toNat_natCast, List.append_nil, hb3, hb37, not_true_eq_false, not_false_eq_true] <;> omega) | fail) ?_ | refine And.intro (allU8_bytes _) ?_ | refine And.intro (show elemsP _ _ _ by repeat' (first | exact rfl | exact trivial | constructor)) ?_ | (exact absurd trivial h) | (refine (awake_con).mono fun rs bs hr => ?_; subst hr) | (refine (rows_con _ _).mono fun rs bs hr => ?_; subst hr) | ((have hrb := h.2; have hg := rowsG_of hrb; refine Has.mono (Has.norm (byW_con hrb) (by rfl)) (fun rs bs hr => ?_); subst hr)) | (refine (digits_con _ (by omega)).mono fun rs bs hr => ?_; subst hr) | (refine Has.mono (Has.norm (byAll_con hrb) (by rfl)) (fun rs bs hr => ?_); subst hr) | (refine Loops.by (M := M0) 15 pl5 fol (by kernel_rfl) (ι := Nat) (fun i => ⟨[(0, AV.d (D.sl 1 (rows.map encRow))), (1, AV.d (D.int .i64 cols)), (7, AV.ref [7] 16 1 0 ((seqK i).map intD).length), (8, AV.d (D.int .i64 i))], [([7], 16, AO.row 3 1 ((seqK i).map intD))], 17⟩) (fun i => (i : Int) ≤ cols) (fun i => cols.toNat - i) (fun i hI => ?_) (0) (by show (0 : Int) ≤ cols; omega) (Forget.mk' ⟨⟨rfl, rfl⟩, ⟨rfl, rfl⟩, ⟨rfl, rfl⟩, ⟨rfl, rfl⟩, trivial⟩ ⟨⟨rfl, rfl, rfl⟩, trivial⟩ rfl rfl); have hi := hI; have hsl := seqK_len i) | ((have hie : i = cols.toNat := (by omega); subst hie)) | (refine Loops.by (M := M0) 15 pl5 fol (by kernel_rfl) (ι := Nat) (fun i => ⟨[(0, AV.d (D.sl 1 (rows.map encRow))), (9, AV.d (D.sl 1 ((distK rows).map encRow))), (10, AV.d (D.int .i64 0)), (11, AV.ref [11] 16 1 0 ((distK (rows.take i)).map encRow).length), (12, AV.d (D.int .i64 i))], [([11], 16, AO.row 37 1 ((distK (rows.take i)).map encRow))], 17⟩) (fun i => i ≤ rows.length) (fun i => rows.length - i) (fun i hI => ?_) (0) (Nat.zero_le _) (Forget.mk' ⟨⟨rfl, rfl⟩, ⟨rfl, rfl⟩, ⟨rfl, rfl⟩, ⟨rfl, rfl⟩, ⟨rfl, rfl⟩, trivial⟩ ⟨⟨rfl, rfl, rfl⟩, trivial⟩ rfl rfl); have hi := hI; have hdl := distK_le rows i) | (refine Loops.by (M := M0) 15 pl5 fol (by kernel_rfl) (ι := Nat × Bool) (fun ⟨k, b⟩ => ⟨[(0, AV.d (D.sl 1 (rows.map encRow))), (9, AV.d (D.sl 1 ((distK rows).map encRow))), (10, AV.d (D.int .i64 0)), (11, AV.ref [11] 16 1 0 ((distK (rows.take i)).map encRow).length), (12, AV.d (D.int .i64 i)), (13, AV.d (D.bool b)), (14, AV.d (D.int .i64 k))], [([11], 16, AO.row 37 1 ((distK (rows.take i)).map encRow))], 17⟩) (fun ⟨k, b⟩ => k ≤ i ∧ NewS rows i k b) (fun ⟨k, b⟩ => i - k) (fun p hI => ?_) ((0, true)) ⟨Nat.zero_le _, NewS.zero _ _⟩ (Forget.mk' ⟨⟨rfl, rfl⟩, ⟨rfl, rfl⟩, ⟨rfl, rfl⟩, ⟨rfl, rfl⟩, ⟨rfl, rfl⟩, ⟨rfl, rfl⟩, ⟨rfl, rfl⟩, trivial⟩ ⟨⟨rfl, rfl, rfl⟩, trivial⟩ rfl rfl); obtain ⟨k, b⟩ := p; obtain ⟨hk, hnw⟩ := hI) | (refine (same18_con _ _).mono fun rs bs hr => ?_; subst hr) | (refine fun x hx => ?_; (try simp (disch := omega) only [Int.tdiv_eq_ediv_of_nonneg, Int.tmod_eq_emod_of_nonneg, bx, Bool.true_or, Bool.false_or, Bool.or_false, Bool.or_true, Bool.and_true, Bool.true_and, Bool.false_and, Bool.and_false, cond_true, cond_false, if_true, if_false, Bool.false_eq_true, min_nn, max_nn, min_ln, min_nl, max_ln, max_nl, getD_map, str_of_bytes, take_bytes, take_data, wrap_u64, wrap_u32, wrap_u8, shr_i64, shr_u64, shr_u32, shl_i64, shl_u64, Int.reduceToNat, Int.reducePow, Int.pow_succ, Int.pow_zero, Int.one_mul, Int.reduceMul, wrap_id, wrap_u8_nat, wrap_i64_u8, byteD_mk, map_snoc, map_app, set_map, take_map', drop_map', Nat.sub_zero, List.length_map, List.length_append, List.length_cons, List.length_nil, Int.toNat_natCast, List.drop_zero, List.take_succ_cons, List.take_zero, List.take_length, List.nil_append, List.append_nil, Nat.zero_add, toNat_pred, toNat_succ, toNat_addn, toNat_subn, not_true_eq_false, not_false_eq_true] at hx); subst hx) | rw [List.take_length] | (rw [List.take_of_length_le]; rotate_left; (first | omega | (simp only [dlen, true_and, and_true, Nat.le_refl, List.length_map, List.length_append, List.length_cons, List.length_nil, List.length_take, List.length_drop, List.length_replicate, Int.toNat_natCast, List.append_nil, hb3, hb37, not_true_eq_false, not_false_eq_true] <;> omega) | fail)) | refine fun h => ?_ | fail)); all_goals (try exact (AV.dead : AV)); all_goals (try (conv => whnf))
  all_goals first
    | (refine ⟨i + 1, ⟨by omega, by omega⟩, ?_⟩; rw [seqK_snoc]; exact (Forget.mk' ⟨⟨rfl, rfl⟩, ⟨rfl, rfl⟩, ⟨rfl, rfl⟩, ⟨rfl, rfl⟩, trivial⟩ ⟨⟨rfl, rfl, rfl⟩, trivial⟩ rfl rfl))
    | (exact ⟨(k + 1, _), ⟨⟨by show k + 1 ≤ i; omega, hnw.step (by omega) (by omega)⟩, by show i - (k + 1) < i - k; omega⟩, (Forget.mk' ⟨⟨rfl, rfl⟩, ⟨rfl, rfl⟩, ⟨rfl, rfl⟩, ⟨rfl, rfl⟩, ⟨rfl, rfl⟩, ⟨rfl, rfl⟩, ⟨rfl, rfl⟩, trivial⟩ ⟨⟨rfl, rfl, rfl⟩, trivial⟩ rfl rfl)⟩)
    | (refine ⟨i + 1, ⟨by omega, by omega⟩, ?_⟩; have hb := hnw.inK (by omega) hk (by omega); rw [dist_yes (by omega) (by rw [h] at hb; simpa using hb)]; exact (Forget.mk' ⟨⟨rfl, rfl⟩, ⟨rfl, rfl⟩, ⟨rfl, rfl⟩, ⟨rfl, rfl⟩, ⟨rfl, rfl⟩, trivial⟩ ⟨⟨rfl, rfl, rfl⟩, trivial⟩ rfl rfl))
    | (refine ⟨i + 1, ⟨by omega, by omega⟩, ?_⟩; have hb := hnw.inK (by omega) hk (by omega); rw [dist_no (by omega) (by rw [h] at hb; simpa using hb)]; exact (Forget.mk' ⟨⟨rfl, rfl⟩, ⟨rfl, rfl⟩, ⟨rfl, rfl⟩, ⟨rfl, rfl⟩, ⟨rfl, rfl⟩, trivial⟩ ⟨⟨rfl, rfl, rfl⟩, trivial⟩ rfl rfl))
    | (rw [decide_eq_true rfl]; done)
    | (exfalso; have h1 := one_none (rows := rows); rcases h with ((h | h) | h) | ⟨h2, h3⟩ <;> first | exact h | omega | (rw [h1 (by omega)] at h3; cases h3) | fail)
    | (exfalso; simp_all; done)
    | (trace_state; fail)
theorem groupWhole_law (xs : List D) (h : HasTs Tryd.prog Tryd.f5.params.toList xs) : Has Tryd.prog 5 (xs.map CV.d) (fun rs _ => rs = [.d (.bool true)]) := by
  obtain ⟨x, y, rfl, h1, h2⟩ := two_args (t := 22) (u := 3) h
  obtain ⟨rows, rfl⟩ := asRows h1
  obtain ⟨c, rfl, _⟩ := h2.asInt (k := .i64) (by kernel_rfl)
  exact groupWhole_con rows c
end Go.Fw
namespace Go.Fw
open Go
set_option linter.unusedVariables false
set_option linter.unusedSimpArgs false
theorem num_same {rows : List Rw} {keys : List Int} {i k : Nat} (hi : i < rows.length) (hk : k < rows.length) : (numsK (keysS rows keys)).getD i default = (numsK (keysS rows keys)).getD k default ↔ ofS (rows.getD i default) keys = ofS (rows.getD k default) keys := by
  have hl : i < (keysS rows keys).length := by rw [List.length_map]; exact hi
  have hl2 : k < (keysS rows keys).length := by rw [List.length_map]; exact hk
  rw [numsK_at hl, numsK_at hl2, keysS_at hi, keysS_at hk]
  have hm : ∀ q, q < rows.length → ofS (rows.getD q default) keys ∈ distK (keysS rows keys) := fun q hq => by
    have hlq : q < (keysS rows keys).length := by rw [List.length_map]; exact hq
    rw [(distK_spec _).2.1, ← keysS_at hq, getD_lt hlq]
    exact List.getElem_mem hlq
  obtain ⟨_, _, e1⟩ := idxK_mem (t := []) (hm i hi)
  obtain ⟨_, _, e2⟩ := idxK_mem (t := []) (hm k hk)
  constructor
  · intro h
    have : idxK (distK (keysS rows keys)) (ofS (rows.getD i default) keys) = idxK (distK (keysS rows keys)) (ofS (rows.getD k default) keys) := by omega
    rw [this] at e1
    rw [← e1]
    exact e2
  · intro h
    rw [h]
theorem next_up {rows : List Rw} {keys : List Int} {i : Nat} (hi : i < rows.length) :
    0 ≤ (numsK (keysS rows keys)).getD i default ∧ (numsK (keysS rows keys)).getD i default ≤ ((dsS rows keys i).length : Int) ∧
    ((numsK (keysS rows keys)).getD i default = ((dsS rows keys i).length : Int) → ((dsS rows keys i).length : Int) + 1 = ((dsS rows keys (i + 1)).length : Int)) ∧
    (¬ (numsK (keysS rows keys)).getD i default = ((dsS rows keys i).length : Int) → ((dsS rows keys i).length : Int) = ((dsS rows keys (i + 1)).length : Int)) := by
  have hg := gsS_len rows keys i
  rcases num_case (keys := keys) hi with ⟨hk, hn, hl⟩ | ⟨hk, hn⟩
  · rw [hn, dsS_old hi hk]
    omega
  · rw [hn, dsS_new hi hk]
    omega
theorem dsS_some {rows : List Rw} {keys : List Int} (h : ¬ keys.length = 0) (i : Nat) : (dsS rows keys i).length ≤ i := by
  unfold dsS
  rw [if_neg h]
  exact distK_le _ _
theorem byP_at {rows : List Rw} {keys : List Int} {j : Nat} (hj : j < (dsS rows keys rows.length).length) : (byS rows keys [(1, 0)]).getD j default = dj rows keys j ++ [(false, itoaS (grpS rows keys (dj rows keys j)).length)] := by
  unfold byS dj
  rw [List.getD_eq_getElem?_getD, List.getElem?_map, List.getElem?_eq_getElem hj, getD_lt hj]
  rfl
 
def valB (s : ByteArray) : Nat → Int
  | 0 => 0
  | p + 1 => 10 * valB s p + (bAt s p : Int) - 48
def valL (l : List UInt8) : Int := l.foldl (fun v b => 10 * v + (b.toNat : Int) - 48) 0
theorem valB_eq (s : ByteArray) : ∀ p, p ≤ s.size → valB s p = valL (s.data.toList.take p)
  | 0, _ => by simp [valB, valL]
  | p + 1, h => by
    have hs : p < s.data.toList.length := by
      have := dlen s
      omega
    rw [valB, valB_eq s p (by omega), List.take_add_one, List.getElem?_eq_getElem hs]
    unfold valL
    rw [List.foldl_append]
    have hs2 : p < s.data.size := by simpa using hs
    simp [bAt, hs2, Array.getElem?_eq_getElem hs2]
theorem decDigits_ge (n : Nat) : ∀ b ∈ Lib.decDigits n, 48 ≤ b.toNat := by
  induction n using Nat.strongRecOn with
  | _ n ih =>
    intro b hb
    rw [Lib.decDigits] at hb
    split at hb
    · rename_i h
      simp only [List.mem_singleton] at hb
      subst hb
      rw [UInt8.toNat_ofNat_of_lt' (by simp [UInt8.size]; omega)]
      omega
    · rename_i h
      rcases List.mem_append.1 hb with hb | hb
      · exact ih (n / 10) (by omega) b hb
      · rw [List.mem_singleton] at hb
        subst hb
        rw [UInt8.toNat_ofNat_of_lt' (by simp [UInt8.size]; omega)]
        omega
theorem valL_dec (n : Nat) : valL (Lib.decDigits n) = n := by
  induction n using Nat.strongRecOn with
  | _ n ih =>
    rw [Lib.decDigits]
    split
    · rename_i h
      simp only [valL, List.foldl_cons, List.foldl_nil]
      rw [UInt8.toNat_ofNat_of_lt' (by simp [UInt8.size]; omega)]
      omega
    · rename_i h
      have := ih (n / 10) (by omega)
      unfold valL at this ⊢
      rw [List.foldl_append, this]
      simp only [List.foldl_cons, List.foldl_nil]
      rw [UInt8.toNat_ofNat_of_lt' (by simp [UInt8.size]; omega)]
      omega
theorem val_up : ∀ (l : List UInt8) (v : Int), 0 ≤ v → (∀ b ∈ l, 48 ≤ b.toNat) → v ≤ l.foldl (fun v b => 10 * v + (b.toNat : Int) - 48) v
  | [], v, _, _ => Int.le_refl _
  | b :: r, v, h0, h => by
    have hb := h b (List.mem_cons_self ..)
    have := val_up r (10 * v + (b.toNat : Int) - 48) (by omega) fun x hx => h x (List.mem_cons_of_mem _ hx)
    rw [List.foldl_cons]
    omega
theorem valL_bnd {l : List UInt8} (h : ∀ b ∈ l, 48 ≤ b.toNat) (p : Nat) : 0 ≤ valL (l.take p) ∧ valL (l.take p) ≤ valL l := by
  have h0 : 0 ≤ valL (l.take p) := val_up (l.take p) 0 (Int.le_refl _) fun b hb => h b (List.mem_of_mem_take hb)
  refine ⟨h0, ?_⟩
  have e : valL l = (l.drop p).foldl (fun v b => 10 * v + (b.toNat : Int) - 48) (valL (l.take p)) := by
    conv => lhs; rw [← List.take_append_drop p l]
    unfold valL
    rw [List.foldl_append]
  rw [e]
  exact val_up _ _ h0 fun b hb => h b (List.mem_of_mem_drop hb)
theorem val_itoa (m : Nat) : valB (itoaS m) (itoaS m).size = m ∧ ∀ p, p ≤ (itoaS m).size → 0 ≤ valB (itoaS m) p ∧ valB (itoaS m) p ≤ m := by
  have hd : (itoaS m).data.toList = Lib.decDigits m := by simp [itoaS, strB]
  refine ⟨?_, fun p hp => ?_⟩
  · rw [valB_eq _ _ (Nat.le_refl _), List.take_of_length_le (by rw [dlen]; exact Nat.le_refl _), hd, valL_dec]
  · rw [valB_eq _ _ hp, hd]
    have := valL_bnd (decDigits_ge m) p
    rw [valL_dec] at this
    exact this
 
def cntS (rows : List Rw) (keys : List Int) (j : Nat) : Nat := (((gsS rows keys rows.length).take j).map List.length).sum
theorem cntS_step {rows : List Rw} {keys : List Int} {j : Nat} (hj : j < (dsS rows keys rows.length).length) : cntS rows keys (j + 1) = cntS rows keys j + (grpS rows keys (dj rows keys j)).length := by
  have hl : j < (gsS rows keys rows.length).length := by rw [gsS_len]; exact hj
  unfold cntS
  rw [List.take_add_one, List.getElem?_eq_getElem hl, ← gsS_at hj, getD_lt hl, List.map_append, List.sum_append]
  simp only [Option.toList_some, List.map_cons, List.map_nil, List.sum_cons, List.sum_nil, Nat.add_zero]
theorem sum_set : ∀ (l : List (List Rw)) (n : Nat) (r : Rw), n < l.length → ((l.set n (l.getD n default ++ [r])).map List.length).sum = (l.map List.length).sum + 1
  | [], n, r, h => by simp at h
  | x :: q, 0, r, h => by simp; omega
  | x :: q, n + 1, r, h => by
    have := sum_set q n r (by simpa using h)
    simp only [List.set_cons_succ, List.map_cons, List.sum_cons, List.getD_cons_succ]
    rw [this]
    omega
theorem gsS_sum {rows : List Rw} {keys : List Int} : ∀ i, i ≤ rows.length → ((gsS rows keys i).map List.length).sum = i
  | 0, _ => by
    rw [gsS_zero]
    split <;> rfl
  | i + 1, h => by
    have ih := gsS_sum (rows := rows) (keys := keys) i (by omega)
    cases hk : inK (dsS rows keys i) (ofS (rows.getD i default) keys) with
    | true =>
      obtain ⟨e1, e2⟩ := gsS_old (rows := rows) (keys := keys) (i := i) (by omega) hk
      rw [e1, sum_set _ _ _ e2, ih]
    | false =>
      rw [gsS_new (rows := rows) (keys := keys) (i := i) (by omega) hk, List.map_append, List.sum_append, ih]
      rfl
theorem cntS_all {rows : List Rw} {keys : List Int} {j : Nat} (hj : (dsS rows keys rows.length).length ≤ j) : cntS rows keys j = rows.length := by
  unfold cntS
  rw [List.take_of_length_le (by rw [gsS_len]; exact hj)]
  exact gsS_sum _ (Nat.le_refl _)
theorem sum_take : ∀ (l : List (List Rw)) (j : Nat), ((l.take j).map List.length).sum ≤ (l.map List.length).sum
  | [], j => by simp
  | x :: r, 0 => by simp
  | x :: r, j + 1 => by
    have := sum_take r j
    simp only [List.take_succ_cons, List.map_cons, List.sum_cons]
    omega
theorem cntS_le (rows : List Rw) (keys : List Int) (j : Nat) : cntS rows keys j ≤ rows.length := by
  have h1 := sum_take (gsS rows keys rows.length) j
  have h2 := gsS_sum (rows := rows) (keys := keys) rows.length (Nat.le_refl _)
  unfold cntS
  omega
theorem wrap_bAt (s : ByteArray) (i : Nat) : IntKind.i64.wrap (bAt s i) = bAt s i := wrap_id (by unfold bAt; omega) (by unfold bAt; have := (s.data.toList.getD i 0).toNat_lt; omega)
theorem getD_lastM (l : Rw) (x : Vl) : ((l ++ [x]).map encV).getD (l.length + 1 - 1) default = encV x := by simp [List.getD_eq_getElem?_getD]
theorem getD_last (l : Rw) (x : Vl) : (l ++ [x]).getD l.length default = x := by simp [List.getD_eq_getElem?_getD]
end Go.Fw
