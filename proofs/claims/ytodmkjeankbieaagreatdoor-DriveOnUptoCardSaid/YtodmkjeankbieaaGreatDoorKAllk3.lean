/- Texts of this claim, packed. -/
import Derived.Test.YtodmkjeankbieaaGreatDoorKAllk2
import Derived.Shelf.Utf8.RuneCount
import Derived.Shelf.Strconv.Itoa0
import Derived.Shelf.Strconv.Itoa1
import Derived.Shelf.LaysM
import Derived.Shelf.Strconv.Itoa2
import Derived.Shelf.Strconv.Itoa3
import Derived.Shelf.Strconv.Clone
import Derived.Shelf.Strconv.Lower
import Derived.Shelf.Strconv.ParseUint10
import Derived.Shelf.Strconv.ParseUint10Empty
import Derived.Shelf.Strconv.ParseUintEmpty
import Derived.Shelf.Strconv.ParseUint10b64
import Derived.Shelf.Strconv.ParseUint10b32
import Derived.Shelf.Strconv.ParseUint10b16
import Derived.Shelf.Strconv.ParseUint10b8
import Derived.Shelf.Strconv.ParseUint10At
import Derived.Ground.MpProg
import Derived.Shelf.Pu.ParseUintPublic10
import Derived.Shelf.Pu.ErrVarParseUint
import Derived.Shelf.Strings.Search1
import Derived.Shelf.Strings.Search2
import Derived.Shelf.Strings.Search3
import Derived.Shelf.Strings.Count
import Derived.Shelf.Strings.Shaped
import Derived.Shelf.Strings.Prefix
import Derived.Shelf.Strings.Split
import Derived.Shelf.Strings.SplitShaped
import Derived.Shelf.Unicode.Decode
import Derived.Shelf.Strings.RuneCount
import Derived.Shelf.Strings.Explode
import Derived.Shelf.Unicode.DecodeSlow
import Derived.Shelf.Unicode.DecodeAny
import Derived.Ground.SlsfProg
import Derived.Shelf.SlSortCmp.Insertion
set_option linter.all false
namespace Go.Proofs
open Go.Shelf
def Tryz.lays283_ren : Go.Shelf.Ren := ⟨fun | 283 => 115 | n => n, fun | 3 => 3 | 9 => 9 | 4 => 4 | n => n, fun | n => n⟩
theorem Tryz.lays283 : Go.Proofs.Lays.n283 Tryz.prog Tryz.lays283_ren := {
 mixed := by kernel_rfl
 f283 := Tryz.func115.trans (congrArg some (by kernel_rfl))
 t3 := Tryz.underlying3
 a3 := Tryz.isAgg3
 z3 := Tryz.sizeOf3
 v3 := Tryz.zeroValue3
 t4 := Tryz.underlying4
 a4 := Tryz.isAgg4
 z4 := Tryz.sizeOf4
 v4 := Tryz.zeroValue4
 t9 := Tryz.underlying9
 a9 := Tryz.isAgg9
 z9 := Tryz.sizeOf9
 v9 := Tryz.zeroValue9 }
open Go.Lib in
theorem Tryz.internal_strconv_small (i : Nat) (h : i < 100) (w : World) :
   Calls Tryz.prog 115 #[.int .i64 i] w fun e w' => e = .returned (.string ⟨(Lib.decDigits i).toArray⟩) ∧ w' = w := Any.internal_strconv_small Tryz.lays283 i h w
def Tryz.laysM284_ren : Go.Shelf.Ren := ⟨fun | 284 => 116 | 129 => 127 | 317 => 126 | 318 => 128 | n => n, fun | 53 => 71 | 3 => 3 | 212 => 209 | 0 => 0 | 4 => 4 | 46 => 124 | 5 => 5 | 9 => 9 | n => n, fun | 17 => 5 | n => n⟩
theorem Tryz.laysM284 : Go.Proofs.LaysM.n284 Tryz.prog Tryz.laysM284_ren := {
 mixed := by kernel_rfl
 f129 := Tryz.func127.trans (congrArg some (by kernel_rfl))
 f284 := Tryz.func116.trans (congrArg some (by kernel_rfl))
 f317 := Tryz.func126.trans (congrArg some (by kernel_rfl))
 f318 := Tryz.func128.trans (congrArg some (by kernel_rfl))
 t0 := Tryz.underlying0
 a0 := Tryz.isAgg0
 z0 := Tryz.sizeOf0
 v0 := Tryz.zeroValue0
 t3 := Tryz.underlying3
 a3 := Tryz.isAgg3
 z3 := Tryz.sizeOf3
 v3 := Tryz.zeroValue3
 t4 := Tryz.underlying4
 a4 := Tryz.isAgg4
 z4 := Tryz.sizeOf4
 v4 := Tryz.zeroValue4
 t5 := Tryz.underlying5
 a5 := Tryz.isAgg5
 z5 := Tryz.sizeOf5
 v5 := Tryz.zeroValue5
 t9 := Tryz.underlying9
 a9 := Tryz.isAgg9
 z9 := Tryz.sizeOf9
 v9 := Tryz.zeroValue9
 t46 := Tryz.underlying124
 a46 := Tryz.isAgg124
 z46 := Tryz.sizeOf124
 v46 := Tryz.zeroValue124
 t53 := Tryz.underlying71
 a53 := Tryz.isAgg71
 z53 := Tryz.sizeOf71
 v53 := Tryz.zeroValue71
 t212 := Tryz.underlying209
 a212 := Tryz.isAgg209
 z212 := Tryz.sizeOf209
 v212 := Tryz.zeroValue209
 g17 := by kernel_rfl
 i0 := by kernel_rfl
 i3 := by kernel_rfl
 i4 := by kernel_rfl
 i5 := by kernel_rfl
 i9 := by kernel_rfl
 i46 := by kernel_rfl
 i53 := by kernel_rfl
 i212 := by kernel_rfl
 m17 := by kernel_rfl }
open Go.Lib in
theorem Tryz.internal_strconv_numDigits (u : Nat) (h1 : 1 ≤ u) (h2 : u < 18446744073709551616) (w : World) (htab : Lib.TabIs Tryz.prog w "internal/strconv.uint64pow10" .u64 Lib.pow10Tab) :
   Calls Tryz.prog 116 #[.int .u64 u] w fun e w' => e = .returned (.int .i64 (Lib.nDigits u)) ∧ w' = w := Any.internal_strconv_numDigits Tryz.laysM284 u h1 h2 w htab
def Tryz.lays285_ren : Go.Shelf.Ren := ⟨fun | 285 => 117 | n => n, fun | 37 => 59 | 53 => 71 | 3 => 3 | 4 => 4 | 51 => 35 | 9 => 9 | 5 => 5 | 0 => 0 | n => n, fun | n => n⟩
theorem Tryz.lays285 : Go.Proofs.Lays.n285 Tryz.prog Tryz.lays285_ren := {
 mixed := by kernel_rfl
 f285 := Tryz.func117.trans (congrArg some (by kernel_rfl))
 t0 := Tryz.underlying0
 a0 := Tryz.isAgg0
 z0 := Tryz.sizeOf0
 v0 := Tryz.zeroValue0
 t3 := Tryz.underlying3
 a3 := Tryz.isAgg3
 z3 := Tryz.sizeOf3
 v3 := Tryz.zeroValue3
 t4 := Tryz.underlying4
 a4 := Tryz.isAgg4
 z4 := Tryz.sizeOf4
 v4 := Tryz.zeroValue4
 t5 := Tryz.underlying5
 a5 := Tryz.isAgg5
 z5 := Tryz.sizeOf5
 v5 := Tryz.zeroValue5
 t9 := Tryz.underlying9
 a9 := Tryz.isAgg9
 z9 := Tryz.sizeOf9
 v9 := Tryz.zeroValue9
 t37 := Tryz.underlying59
 a37 := Tryz.isAgg59
 z37 := Tryz.sizeOf59
 v37 := Tryz.zeroValue59
 t51 := Tryz.underlying35
 a51 := Tryz.isAgg35
 z51 := Tryz.sizeOf35
 v51 := Tryz.zeroValue35
 t53 := Tryz.underlying71
 a53 := Tryz.isAgg71
 z53 := Tryz.sizeOf71
 v53 := Tryz.zeroValue71 }
open Go.RowKit Go.Sort Go.Lib in
theorem Tryz.internal_strconv_formatBase10 (blk off cap : Nat) (u : Nat) (d : Array UInt8) (w : World) (hH : Holds (fun (b : UInt8) => Value.int .u8 (b.toNat : Int)) w blk off d) (hu : u < 10 ^ d.size) (hu64 : u < 18446744073709551616) (hsz : d.size < 4611686018427387904) :
   Calls Tryz.prog 117 #[.slice (some ⟨blk, off, none⟩) d.size cap, .int .u64 u] w fun e w' =>
     e = .returned (.tuple #[]) ∧ ∃ (n v' : Nat) (dk : Array UInt8), w' = (putRow (fun (b : UInt8) => Value.int .u8 (b.toNat : Int)) w blk off dk).drewN n ∧ FmtInv d.size u 0 v' dk := Any.internal_strconv_formatBase10 Tryz.lays285 blk off cap u d w hH hu hu64 hsz
def Tryz.laysM171_ren : Go.Shelf.Ren := ⟨fun | 171 => 75 | 243 => 97 | 246 => 120 | 283 => 115 | 284 => 116 | 285 => 117 | 286 => 118 | 129 => 127 | 317 => 126 | 318 => 128 | 319 => 129 | 320 => 130 | 337 => 132 | 338 => 133 | n => n, fun | 3 => 3 | 9 => 9 | 2 => 2 | 4 => 4 | 171 => 193 | 0 => 0 | 53 => 71 | 37 => 59 | 5 => 5 | 173 => 196 | 212 => 209 | 51 => 35 | 20 => 20 | 213 => 210 | 46 => 124 | 232 => 218 | 233 => 219 | n => n, fun | 17 => 5 | 18 => 6 | 19 => 7 | n => n⟩
theorem Tryz.laysM171 : Go.Proofs.LaysM.n171 Tryz.prog Tryz.laysM171_ren := {
 mixed := by kernel_rfl
 f129 := Tryz.func127.trans (congrArg some (by kernel_rfl))
 f171 := Tryz.func75.trans (congrArg some (by kernel_rfl))
 f243 := Tryz.func97.trans (congrArg some (by kernel_rfl))
 f246 := Tryz.func120.trans (congrArg some (by kernel_rfl))
 f283 := Tryz.func115.trans (congrArg some (by kernel_rfl))
 f284 := Tryz.func116.trans (congrArg some (by kernel_rfl))
 f285 := Tryz.func117.trans (congrArg some (by kernel_rfl))
 f286 := Tryz.func118.trans (congrArg some (by kernel_rfl))
 f317 := Tryz.func126.trans (congrArg some (by kernel_rfl))
 f318 := Tryz.func128.trans (congrArg some (by kernel_rfl))
 f319 := Tryz.func129.trans (congrArg some (by kernel_rfl))
 f320 := Tryz.func130.trans (congrArg some (by kernel_rfl))
 f337 := Tryz.func132.trans (congrArg some (by kernel_rfl))
 f338 := Tryz.func133.trans (congrArg some (by kernel_rfl))
 t0 := Tryz.underlying0
 a0 := Tryz.isAgg0
 z0 := Tryz.sizeOf0
 v0 := Tryz.zeroValue0
 t2 := Tryz.underlying2
 a2 := Tryz.isAgg2
 z2 := Tryz.sizeOf2
 v2 := Tryz.zeroValue2
 t3 := Tryz.underlying3
 a3 := Tryz.isAgg3
 z3 := Tryz.sizeOf3
 v3 := Tryz.zeroValue3
 t4 := Tryz.underlying4
 a4 := Tryz.isAgg4
 z4 := Tryz.sizeOf4
 v4 := Tryz.zeroValue4
 t5 := Tryz.underlying5
 a5 := Tryz.isAgg5
 z5 := Tryz.sizeOf5
 v5 := Tryz.zeroValue5
 t9 := Tryz.underlying9
 a9 := Tryz.isAgg9
 z9 := Tryz.sizeOf9
 v9 := Tryz.zeroValue9
 t20 := Tryz.underlying20
 a20 := Tryz.isAgg20
 z20 := Tryz.sizeOf20
 v20 := Tryz.zeroValue20
 t37 := Tryz.underlying59
 a37 := Tryz.isAgg59
 z37 := Tryz.sizeOf59
 v37 := Tryz.zeroValue59
 t46 := Tryz.underlying124
 a46 := Tryz.isAgg124
 z46 := Tryz.sizeOf124
 v46 := Tryz.zeroValue124
 t51 := Tryz.underlying35
 a51 := Tryz.isAgg35
 z51 := Tryz.sizeOf35
 v51 := Tryz.zeroValue35
 t53 := Tryz.underlying71
 a53 := Tryz.isAgg71
 z53 := Tryz.sizeOf71
 v53 := Tryz.zeroValue71
 t171 := Tryz.underlying193
 a171 := Tryz.isAgg193
 z171 := Tryz.sizeOf193
 v171 := Tryz.zeroValue193
 t173 := Tryz.underlying196
 a173 := Tryz.isAgg196
 z173 := Tryz.sizeOf196
 v173 := Tryz.zeroValue196
 t212 := Tryz.underlying209
 a212 := Tryz.isAgg209
 z212 := Tryz.sizeOf209
 v212 := Tryz.zeroValue209
 t213 := Tryz.underlying210
 a213 := Tryz.isAgg210
 z213 := Tryz.sizeOf210
 t232 := Tryz.underlying218
 a232 := Tryz.isAgg218
 z232 := Tryz.sizeOf218
 v232 := Tryz.zeroValue218
 t233 := Tryz.underlying219
 a233 := Tryz.isAgg219
 z233 := Tryz.sizeOf219
 v233 := Tryz.zeroValue219
 g17 := by kernel_rfl
 g18 := by kernel_rfl
 g19 := by kernel_rfl
 i0 := by kernel_rfl
 i2 := by kernel_rfl
 i3 := by kernel_rfl
 i4 := by kernel_rfl
 i5 := by kernel_rfl
 i9 := by kernel_rfl
 i20 := by kernel_rfl
 i37 := by kernel_rfl
 i46 := by kernel_rfl
 i51 := by kernel_rfl
 i53 := by kernel_rfl
 i171 := by kernel_rfl
 i173 := by kernel_rfl
 i212 := by kernel_rfl
 i232 := by kernel_rfl
 i233 := by kernel_rfl
 m17 := by kernel_rfl
 m18 := by kernel_rfl
 m19 := by kernel_rfl }
open Go.RowKit Go.Sort Go.Lib in
theorem Tryz.strconv_Itoa (n : Int) (h0 : -9223372036854775808 ≤ n) (h1 : n ≤ 9223372036854775807) (w : World) (htab : Lib.TabIs Tryz.prog w "internal/strconv.uint64pow10" .u64 Lib.pow10Tab) :
   Calls Tryz.prog 75 #[.int .i64 n] w fun e w' => e = .returned (.string ⟨(Lib.itoa n).toArray⟩) ∧ ∃ k os, w' = grow (w.drewN k) os := Any.strconv_Itoa Tryz.laysM171 n h0 h1 w htab
def Tryz.laysPu14_ren : Go.Shelf.Ren := ⟨fun | 14 => 71 | 16 => 93 | 17 => 94 | 19 => 109 | 20 => 110 | 21 => 111 | 22 => 112 | 23 => 113 | 24 => 114 | 25 => 124 | 27 => 75 | 26 => 125 | 28 => 97 | 29 => 120 | 30 => 115 | 31 => 116 | 32 => 117 | 33 => 118 | 35 => 127 | 34 => 126 | 36 => 128 | 37 => 129 | 38 => 130 | 39 => 132 | 40 => 133 | n => n, fun | 9 => 9 | 3 => 3 | 22 => 71 | 24 => 154 | 25 => 155 | 4 => 4 | 34 => 188 | 5 => 5 | 36 => 124 | 37 => 59 | 0 => 0 | 39 => 190 | 21 => 21 | 44 => 206 | 47 => 213 | 50 => 216 | 48 => 214 | 2 => 2 | 52 => 193 | 55 => 196 | 59 => 209 | 60 => 35 | 20 => 20 | 61 => 210 | 65 => 218 | 66 => 219 | 67 => 117 | n => n, fun | 0 => 3 | 1 => 4 | 2 => 5 | 3 => 6 | 4 => 7 | n => n⟩
theorem Tryz.laysPu14 : Go.Proofs.LaysPu.n14 Tryz.prog Tryz.laysPu14_ren := {
 mixed := by kernel_rfl
 f14 := Tryz.func71.trans (congrArg some (by kernel_rfl))
 f16 := Tryz.func93.trans (congrArg some (by kernel_rfl))
 f17 := Tryz.func94.trans (congrArg some (by kernel_rfl))
 f19 := Tryz.func109.trans (congrArg some (by kernel_rfl))
 f20 := Tryz.func110.trans (congrArg some (by kernel_rfl))
 f21 := Tryz.func111.trans (congrArg some (by kernel_rfl))
 f22 := Tryz.func112.trans (congrArg some (by kernel_rfl))
 f23 := Tryz.func113.trans (congrArg some (by kernel_rfl))
 f24 := Tryz.func114.trans (congrArg some (by kernel_rfl))
 f25 := Tryz.func124.trans (congrArg some (by kernel_rfl))
 f26 := Tryz.func125.trans (congrArg some (by kernel_rfl))
 f27 := Tryz.func75.trans (congrArg some (by kernel_rfl))
 f28 := Tryz.func97.trans (congrArg some (by kernel_rfl))
 f29 := Tryz.func120.trans (congrArg some (by kernel_rfl))
 f30 := Tryz.func115.trans (congrArg some (by kernel_rfl))
 f31 := Tryz.func116.trans (congrArg some (by kernel_rfl))
 f32 := Tryz.func117.trans (congrArg some (by kernel_rfl))
 f33 := Tryz.func118.trans (congrArg some (by kernel_rfl))
 f34 := Tryz.func126.trans (congrArg some (by kernel_rfl))
 f35 := Tryz.func127.trans (congrArg some (by kernel_rfl))
 f36 := Tryz.func128.trans (congrArg some (by kernel_rfl))
 f37 := Tryz.func129.trans (congrArg some (by kernel_rfl))
 f38 := Tryz.func130.trans (congrArg some (by kernel_rfl))
 f39 := Tryz.func132.trans (congrArg some (by kernel_rfl))
 f40 := Tryz.func133.trans (congrArg some (by kernel_rfl))
 t0 := Tryz.underlying0
 a0 := Tryz.isAgg0
 z0 := Tryz.sizeOf0
 v0 := Tryz.zeroValue0
 i0 := by kernel_rfl
 t2 := Tryz.underlying2
 a2 := Tryz.isAgg2
 z2 := Tryz.sizeOf2
 v2 := Tryz.zeroValue2
 i2 := by kernel_rfl
 t3 := Tryz.underlying3
 a3 := Tryz.isAgg3
 z3 := Tryz.sizeOf3
 v3 := Tryz.zeroValue3
 i3 := by kernel_rfl
 t4 := Tryz.underlying4
 a4 := Tryz.isAgg4
 z4 := Tryz.sizeOf4
 v4 := Tryz.zeroValue4
 i4 := by kernel_rfl
 t5 := Tryz.underlying5
 a5 := Tryz.isAgg5
 z5 := Tryz.sizeOf5
 v5 := Tryz.zeroValue5
 i5 := by kernel_rfl
 t9 := Tryz.underlying9
 a9 := Tryz.isAgg9
 z9 := Tryz.sizeOf9
 v9 := Tryz.zeroValue9
 i9 := by kernel_rfl
 t20 := Tryz.underlying20
 a20 := Tryz.isAgg20
 z20 := Tryz.sizeOf20
 v20 := Tryz.zeroValue20
 i20 := by kernel_rfl
 t21 := Tryz.underlying21
 a21 := Tryz.isAgg21
 z21 := Tryz.sizeOf21
 v21 := Tryz.zeroValue21
 i21 := by kernel_rfl
 t22 := Tryz.underlying71
 a22 := Tryz.isAgg71
 z22 := Tryz.sizeOf71
 v22 := Tryz.zeroValue71
 i22 := by kernel_rfl
 t24 := Tryz.underlying154
 a24 := Tryz.isAgg154
 z24 := Tryz.sizeOf154
 v24 := Tryz.zeroValue154
 i24 := by kernel_rfl
 t25 := Tryz.underlying155
 a25 := Tryz.isAgg155
 z25 := Tryz.sizeOf155
 v25 := Tryz.zeroValue155
 i25 := by kernel_rfl
 t34 := Tryz.underlying188
 a34 := Tryz.isAgg188
 z34 := Tryz.sizeOf188
 v34 := Tryz.zeroValue188
 i34 := by kernel_rfl
 c34 := by kernel_rfl
 t36 := Tryz.underlying124
 a36 := Tryz.isAgg124
 z36 := Tryz.sizeOf124
 v36 := Tryz.zeroValue124
 i36 := by kernel_rfl
 t37 := Tryz.underlying59
 a37 := Tryz.isAgg59
 z37 := Tryz.sizeOf59
 v37 := Tryz.zeroValue59
 i37 := by kernel_rfl
 t39 := Tryz.underlying190
 a39 := Tryz.isAgg190
 z39 := Tryz.sizeOf190
 v39 := Tryz.zeroValue190
 i39 := by kernel_rfl
 t44 := Tryz.underlying206
 a44 := Tryz.isAgg206
 z44 := Tryz.sizeOf206
 v44 := Tryz.zeroValue206
 i44 := by kernel_rfl
 t47 := Tryz.underlying213
 a47 := Tryz.isAgg213
 z47 := Tryz.sizeOf213
 v47 := Tryz.zeroValue213
 i47 := by kernel_rfl
 t48 := Tryz.underlying214
 a48 := Tryz.isAgg214
 z48 := Tryz.sizeOf214
 v48 := Tryz.zeroValue214
 i48 := by kernel_rfl
 t50 := Tryz.underlying216
 a50 := Tryz.isAgg216
 z50 := Tryz.sizeOf216
 v50 := Tryz.zeroValue216
 i50 := by kernel_rfl
 t52 := Tryz.underlying193
 a52 := Tryz.isAgg193
 z52 := Tryz.sizeOf193
 v52 := Tryz.zeroValue193
 i52 := by kernel_rfl
 t55 := Tryz.underlying196
 a55 := Tryz.isAgg196
 z55 := Tryz.sizeOf196
 v55 := Tryz.zeroValue196
 i55 := by kernel_rfl
 t59 := Tryz.underlying209
 a59 := Tryz.isAgg209
 z59 := Tryz.sizeOf209
 v59 := Tryz.zeroValue209
 i59 := by kernel_rfl
 t60 := Tryz.underlying35
 a60 := Tryz.isAgg35
 z60 := Tryz.sizeOf35
 v60 := Tryz.zeroValue35
 i60 := by kernel_rfl
 t61 := Tryz.underlying210
 a61 := Tryz.isAgg210
 z61 := Tryz.sizeOf210
 t65 := Tryz.underlying218
 a65 := Tryz.isAgg218
 z65 := Tryz.sizeOf218
 v65 := Tryz.zeroValue218
 i65 := by kernel_rfl
 t66 := Tryz.underlying219
 a66 := Tryz.isAgg219
 z66 := Tryz.sizeOf219
 v66 := Tryz.zeroValue219
 i66 := by kernel_rfl
 t67 := Tryz.underlying117
 a67 := Tryz.isAgg117
 z67 := Tryz.sizeOf117
 v67 := Tryz.zeroValue117
 i67 := by kernel_rfl
 g0 := by kernel_rfl
 m0 := by kernel_rfl
 g1 := by kernel_rfl
 m1 := by kernel_rfl
 g2 := by kernel_rfl
 m2 := by kernel_rfl
 g3 := by kernel_rfl
 m3 := by kernel_rfl
 g4 := by kernel_rfl
 m4 := by kernel_rfl }
open Go.RowKit in
theorem Tryz.strconv_ParseUint_10_at32_ok (s : ByteArray) (hmax : s.size ≤ 9223372036854775806) (u : Nat) (h : Lib.parseUintB 32 s.data.toList = .ok u) (w : World) :
   Calls Tryz.prog 71 #[.string s, .int .i64 10, .int .i64 32] w fun e w' => e = .returned (.tuple #[.int .u64 u, .nilIface]) ∧ (w' = w ∨ w' = Lib.bytesWorld w 5 s) := Any.strconv_ParseUint_10_at32_ok Tryz.laysPu14 s hmax u h w
open Go.RowKit in
theorem Tryz.strconv_ParseUint_10_at32_range_var (s : ByteArray) (hlim : s.size ≤ 281474976710656) (h : Lib.parseUintB 32 s.data.toList = .range) (tp : TypeId) (p : Value) (w : World) (hvar : w.var? Tryz.prog "strconv.ErrRange" = some #[.iface tp p]) :
   Calls Tryz.prog 71 #[.string s, .int .i64 10, .int .i64 32] w fun e w' => ∃ N, e = .returned (.tuple #[.int .u64 4294967295, .iface 190 (.pointer (some ⟨N, 0, none⟩))]) ∧ w.heap.size ≤ N ∧ w'.heap[N]? = some (.cells #[.string ⟨#[80, 97, 114, 115, 101, 85, 105, 110, 116]⟩, .string s, .iface tp p] 206 (0, 0)) ∧ Below w.heap.size w w' := Any.strconv_ParseUint_10_at32_range_var Tryz.laysPu14 s hlim h tp p w hvar
def Tryz.lays101_ren : Go.Shelf.Ren := ⟨fun | 101 => 73 | 208 => 96 | 206 => 119 | n => n, fun | 9 => 9 | 4 => 4 | 3 => 3 | n => n, fun | n => n⟩
theorem Tryz.lays101 : Go.Proofs.Lays.n101 Tryz.prog Tryz.lays101_ren := {
 mixed := by kernel_rfl
 f101 := Tryz.func73.trans (congrArg some (by kernel_rfl))
 f206 := Tryz.func119.trans (congrArg some (by kernel_rfl))
 f208 := Tryz.func96.trans (congrArg some (by kernel_rfl))
 t3 := Tryz.underlying3
 a3 := Tryz.isAgg3
 z3 := Tryz.sizeOf3
 v3 := Tryz.zeroValue3
 t4 := Tryz.underlying4
 a4 := Tryz.isAgg4
 z4 := Tryz.sizeOf4
 v4 := Tryz.zeroValue4
 t9 := Tryz.underlying9
 a9 := Tryz.isAgg9
 z9 := Tryz.sizeOf9
 v9 := Tryz.zeroValue9 }
open Go.RowKit Go.Lib in
theorem Tryz.strings_TrimPrefix (s p : ByteArray) (w : World) :
   Calls Tryz.prog 73 #[.string s, .string p] w fun e w' => e = .returned (.string ⟨(Lib.trimPrefix s.data.toList p.data.toList).toArray⟩) ∧ w' = w := Any.strings_TrimPrefix Tryz.lays101 s p w
def Tryz.lays146_ren : Go.Shelf.Ren := ⟨fun | 146 => 17 | 221 => 41 | 268 => 68 | 138 => 69 | 143 => 70 | 195 => 89 | 197 => 90 | 218 => 91 | 219 => 92 | 260 => 104 | 217 => 105 | 225 => 106 | 224 => 107 | 267 => 108 | 266 => 122 | 314 => 123 | n => n, fun | 9 => 9 | 31 => 22 | 3 => 3 | 4 => 4 | 0 => 0 | 105 => 178 | 21 => 21 | 5 => 5 | 46 => 124 | 119 => 199 | 139 => 202 | 138 => 201 | 146 => 203 | 51 => 35 | n => n, fun | 1 => 0 | 3 => 1 | 4 => 2 | n => n⟩
theorem Tryz.lays146 : Go.Proofs.Lays.n146 Tryz.prog Tryz.lays146_ren := {
 mixed := by kernel_rfl
 f138 := Tryz.func69.trans (congrArg some (by kernel_rfl))
 f143 := Tryz.func70.trans (congrArg some (by kernel_rfl))
 f146 := Tryz.func17.trans (congrArg some (by kernel_rfl))
 f195 := Tryz.func89.trans (congrArg some (by kernel_rfl))
 f197 := Tryz.func90.trans (congrArg some (by kernel_rfl))
 f217 := Tryz.func105.trans (congrArg some (by kernel_rfl))
 f218 := Tryz.func91.trans (congrArg some (by kernel_rfl))
 f219 := Tryz.func92.trans (congrArg some (by kernel_rfl))
 f221 := Tryz.func41.trans (congrArg some (by kernel_rfl))
 f224 := Tryz.func107.trans (congrArg some (by kernel_rfl))
 f225 := Tryz.func106.trans (congrArg some (by kernel_rfl))
 f260 := Tryz.func104.trans (congrArg some (by kernel_rfl))
 f266 := Tryz.func122.trans (congrArg some (by kernel_rfl))
 f267 := Tryz.func108.trans (congrArg some (by kernel_rfl))
 f268 := Tryz.func68.trans (congrArg some (by kernel_rfl))
 f314 := Tryz.func123.trans (congrArg some (by kernel_rfl))
 t0 := Tryz.underlying0
 a0 := Tryz.isAgg0
 z0 := Tryz.sizeOf0
 v0 := Tryz.zeroValue0
 t3 := Tryz.underlying3
 a3 := Tryz.isAgg3
 z3 := Tryz.sizeOf3
 v3 := Tryz.zeroValue3
 t4 := Tryz.underlying4
 a4 := Tryz.isAgg4
 z4 := Tryz.sizeOf4
 v4 := Tryz.zeroValue4
 t5 := Tryz.underlying5
 a5 := Tryz.isAgg5
 z5 := Tryz.sizeOf5
 v5 := Tryz.zeroValue5
 t9 := Tryz.underlying9
 a9 := Tryz.isAgg9
 z9 := Tryz.sizeOf9
 v9 := Tryz.zeroValue9
 t21 := Tryz.underlying21
 a21 := Tryz.isAgg21
 z21 := Tryz.sizeOf21
 v21 := Tryz.zeroValue21
 t31 := Tryz.underlying22
 a31 := Tryz.isAgg22
 z31 := Tryz.sizeOf22
 v31 := Tryz.zeroValue22
 t46 := Tryz.underlying124
 a46 := Tryz.isAgg124
 z46 := Tryz.sizeOf124
 v46 := Tryz.zeroValue124
 t51 := Tryz.underlying35
 a51 := Tryz.isAgg35
 z51 := Tryz.sizeOf35
 v51 := Tryz.zeroValue35
 t105 := Tryz.underlying178
 a105 := Tryz.isAgg178
 z105 := Tryz.sizeOf178
 v105 := Tryz.zeroValue178
 t119 := Tryz.underlying199
 a119 := Tryz.isAgg199
 z119 := Tryz.sizeOf199
 t138 := Tryz.underlying201
 a138 := Tryz.isAgg201
 z138 := Tryz.sizeOf201
 v138 := Tryz.zeroValue201
 t139 := Tryz.underlying202
 a139 := Tryz.isAgg202
 z139 := Tryz.sizeOf202
 v139 := Tryz.zeroValue202
 t146 := Tryz.underlying203
 a146 := Tryz.isAgg203
 z146 := Tryz.sizeOf203
 v146 := Tryz.zeroValue203
 g1 := by kernel_rfl
 g3 := by kernel_rfl
 g4 := by kernel_rfl }
open Go.RowKit Go.Lib in
theorem Tryz.strings_Split (s sep : ByteArray) (m : Int) (w : World) (hs : s.size < 4294967281) (hm : w.cell? ⟨0, 0, none⟩ = some (.int .i64 m)) (h1 : 1 ≤ sep.size) :
   Calls Tryz.prog 17 #[.string s, .string sep] w fun e w' =>
     e = .returned (.slice (some ⟨w.heap.size, 0, none⟩) (Lib.countB s sep + 1) (Lib.countB s sep + 1)) ∧ w' = w.alloc (.cells ((Lib.splitB sep 0 (Lib.countB s sep) s).map Value.string).toArray 9) := Any.strings_Split Tryz.lays146 (by kernel_rfl) s sep m w hs hm h1
end Go.Proofs


namespace Go.Proofs.YtodmkjeankbieaaGreatDoor
open Go.RowKit Go.Sort Go.Lib Go.Shelf

theorem holds_zero0 (w : World) (t : TypeId) (n : Nat) (hn : n ≤ 24) : Holds (fun (b : UInt8) => Value.int .u8 (b.toNat : Int)) (w.alloc (.cells Lib.zeros24 t)) w.heap.size 0 (Array.replicate n 0) := by
 intro j hj
 rw [Array.size_replicate] at hj
 refine ⟨?_, World.frozen?_alloc_new _ _ _ _⟩
 rw [Nat.zero_add, World.cell?_alloc_new, Lib.zeros24_at j (by omega), getElem!_pos _ j (by simpa using hj)]
 simp

theorem fin_pos0 (w : World) (o : Obj) (dk : Array UInt8) (k : Nat) : ∃ os, (putRow (fun (b : UInt8) => Value.int .u8 (b.toNat : Int)) (w.alloc o) w.heap.size 0 dk).drewN k = grow (w.drewN k) os := by
 rw [alloc_eq_grow]
 obtain ⟨os', _, e⟩ := putRow_grow_new (fun (b : UInt8) => Value.int .u8 (b.toNat : Int)) w #[o] w.heap.size 0 dk (Nat.le_refl _)
 exact ⟨os', by rw [e]; rfl⟩
set_option maxHeartbeats 6400000 in
set_option maxRecDepth 100000 in
theorem fmtU_in (u : Nat) (hu64 : u < 18446744073709551616) (w : World) (htab : Lib.TabIs Tryz.prog w "internal/strconv.uint64pow10" .u64 Lib.pow10Tab) :
   Calls Tryz.prog 95 #[.int .u64 (u : Int), .int .i64 10] w fun e w' => e = .returned (.string ⟨(Lib.itoa (u : Int)).toArray⟩) ∧ ∃ k os, w' = grow (w.drewN k) os := by
 by_cases hs : u < 100
 · have HS := Lib.hid (Tryz.internal_strconv_small u hs w)
   have hs1 : (u : Int) < 100 := by omega
   go_enter Tryz.func95, Tryz.ntmps95
   go_wp2_with fail
   refine HS.out.mono ?_
   rintro e w' ⟨rfl, rfl⟩
   go_wp2
   go_ret
   refine ⟨?_, 0, #[], by simp [World.drewN_zero]⟩
   rw [Lib.itoa_nonneg]
   rfl
 · have hu1 : 1 ≤ u := by omega
   have hs1 : ¬ (u : Int) < 100 := by omega
   have hnd20 : Lib.nDigits u ≤ 20 := by have := Lib.numDigits_eq u hu1 hu64; split at this <;> omega
   have hal : Tryz.prog.arrayLen 193 = 24 := by kernel_rfl
   have hsl1 : ∀ W, (Instr.sliceAt 193 (.pointer (some ⟨w.heap.size, 0, none⟩)) none (some (.int .i64 (Lib.nDigits u : Int))) none).run Tryz.prog W = .ok (.slice (some ⟨w.heap.size, 0, none⟩) (Lib.nDigits u) 24) W := fun W => by
     rw [run_sliceAt_array_h W 193 ⟨w.heap.size, 0, none⟩ (by kernel_rfl) .i64 (Lib.nDigits u : Int) (by omega) (by rw [hal]; omega)]
     go_simp
   have hH0 := holds_zero0 w 193 (Lib.nDigits u) (by omega)
   have hfmt := Tryz.internal_strconv_formatBase10 w.heap.size 0 24 u (Array.replicate (Lib.nDigits u) 0) (w.alloc (.cells Lib.zeros24 193)) hH0 (by rw [Array.size_replicate]; exact Lib.lt_pow_nDigits u) hu64 (by rw [Array.size_replicate]; omega)
   rw [Array.size_replicate] at hfmt
   have HH0 := Lib.hid hH0
   have HFMT := Lib.hid hfmt
   have HND := Lib.hid (Tryz.internal_strconv_numDigits u hu1 hu64 _ (Lib.tabIs_alloc htab (.cells Lib.zeros24 193)))
   clear hH0 hal hfmt hs
   go_enter Tryz.func95, Tryz.ntmps95
   go_wp2_with fail
   refine HND.out.mono ?_
   rintro e w' ⟨rfl, rfl⟩
   go_wp2_with fail
   refine HFMT.out.mono ?_
   rintro e w' ⟨rfl, k, v', dk, rfl, hF⟩
   have hcv : (convert 59 9 (.slice (some ⟨w.heap.size, 0, none⟩) (Lib.nDigits u) 24)).run Tryz.prog ((putRow (fun (b : UInt8) => Value.int .u8 (b.toNat : Int)) (w.alloc (.cells Lib.zeros24 193)) w.heap.size 0 dk).drewN k) = .ok (.string ⟨(Lib.decDigits u).toArray⟩) ((putRow (fun (b : UInt8) => Value.int .u8 (b.toNat : Int)) (w.alloc (.cells Lib.zeros24 193)) w.heap.size 0 dk).drewN k) := by
     have h := run_convert_bytes_back (P := Tryz.prog) ((putRow (fun (b : UInt8) => Value.int .u8 (b.toNat : Int)) (w.alloc (.cells Lib.zeros24 193)) w.heap.size 0 dk).drewN k) 59 9 5 ⟨w.heap.size, 0, none⟩ 24 (Lib.decDigits u) Tryz.underlying59 Tryz.underlying5 Tryz.underlying9 (fun j hj => by
       rw [Lib.row_is_numeral hF j hj, Lib.add_plain, World.cell?_drewN]
       exact cell?_putRow (fun (b : UInt8) => Value.int .u8 (b.toNat : Int)) _ w.heap.size 0 _ dk HH0.out (by rw [hF.size, Array.size_replicate]) j (by rw [hF.size]; rw [Lib.decDigits_length] at hj; exact hj))
     rw [Lib.decDigits_length] at h
     exact h
   go_wp2
   go_ret
   obtain ⟨os, eo⟩ := fin_pos0 w (.cells Lib.zeros24 193) dk k
   refine ⟨?_, k, os, eo⟩
   rw [Lib.itoa_nonneg]
   rfl
end Go.Proofs.YtodmkjeankbieaaGreatDoor


namespace Go.Proofs.YtodmkjeankbieaaGreatDoor
open Go.RowKit Go.Sort Go.Lib

def dgb (n : Nat) : UInt8 := UInt8.ofNat (48 + n % 10)
theorem dgb_nat (n : Nat) : ((dgb n).toNat : Int) = 48 + (n : Int) % 10 := by
 unfold dgb; rw [UInt8.toNat_ofNat']; omega
theorem bA_dec1 {n : Nat} (h : n < 10) : bA (decDigits n) = ⟨#[dgb n]⟩ := by
 rw [decDigits_one h]; unfold dgb; rw [Nat.mod_eq_of_lt h]; rfl
theorem bA_dec2 {n : Nat} (h : ¬ n < 10) : bA (decDigits n) = bA (decDigits (n / 10)) ++ ⟨#[dgb n]⟩ := by
 rw [decDigits, dif_neg h, bA_app]; rfl
theorem bA_size (l : Tx) : (bA l).size = l.length := by unfold bA; simp [ByteArray.size]
theorem nDig_le : ∀ (k u : Nat), u < 10 ^ k → 1 ≤ k → Lib.nDigits u ≤ k
 | 0, u, _, h => by omega
 | k + 1, u, hu, _ => by
   unfold Lib.nDigits
   split
   · omega
   · rename_i h10
     have : Lib.nDigits (u / 10) ≤ k := nDig_le k (u / 10) (by rw [Nat.pow_succ] at hu; omega) (by
       apply Classical.byContradiction
       intro hk
       have : k = 0 := by omega
       subst this
       simp at hu; omega)
     omega
theorem dec_size {n : Nat} (hn : n < 9223372036854775808) : (bA (decDigits n)).size ≤ 19 := by
 rw [bA_size, decDigits_length]; exact nDig_le 19 n (by omega) (by omega)
set_option maxHeartbeats 1600000 in
set_option maxRecDepth 100000 in
theorem digits_any (n : Nat) (hn : n < 9223372036854775808) (w : World) : Calls Tryz.prog 11 #[.int .i64 (n : Int)] w fun e w' => e = .returned (.string (bA (decDigits n))) ∧ Fr w w' := by
 induction n using Nat.strongRecOn generalizing w with
 | _ n ih =>
   have hr0 : (0 : Int) ≤ (n : Int) % 10 := by omega
   have hr1 : (n : Int) % 10 < 10 := by omega
   have hcv : (convert 59 9 (.slice (some ⟨w.heap.size, 0, none⟩) 1 1)).run Tryz.prog (w.alloc (.cells #[.int .u8 (48 + (n : Int) % 10)] 5)) = .ok (.string ⟨#[dgb n]⟩) (w.alloc (.cells #[.int .u8 (48 + (n : Int) % 10)] 5)) := by
     have h := run_convert_bytes_back (P := Tryz.prog) (w.alloc (.cells #[.int .u8 (48 + (n : Int) % 10)] 5)) 59 9 5 ⟨w.heap.size, 0, none⟩ 1 [dgb n] Tryz.underlying59 Tryz.underlying5 Tryz.underlying9 (fun j hj => by
       have : j = 0 := by simpa using hj
       subst this
       rw [Lib.add_plain, World.cell?_alloc_new, List.getElem_cons_zero, dgb_nat]
       rfl)
     exact h
   have HF := Lib.hid (show Fr w (w.alloc (.cells #[.int .u8 (48 + (n : Int) % 10)] 5)) from (Kept.refl _ w).alloc _)
   by_cases h10 : n < 10
   · have HE := Lib.hid (bA_dec1 h10)
     have hlt : (n : Int) < 10 := by omega
     clear ih
     go_enter Tryz.func11, Tryz.ntmps11
     go_wp2
     go_ret
     exact ⟨by rw [HE.out]; rfl, HF.out⟩
   · have HE := Lib.hid (bA_dec2 h10)
     have hlt : ¬ (n : Int) < 10 := by omega
     have HI := Lib.hid (ih (n / 10) (by omega) (by omega) (w.alloc (.cells #[.int .u8 (48 + (n : Int) % 10)] 5)))
     obtain ⟨q, eq⟩ : ∃ q, q = n / 10 := ⟨_, rfl⟩
     rw [← eq] at HI HE
     have hsz : (bA (decDigits q)).size ≤ 19 := dec_size (by omega)
     have hsz2 : ¬ 9223372036854775807 < (bA (decDigits q)).size + 1 := by omega
     have hq1 : (n : Int) / 10 = (q : Int) := by omega
     have hq2 : (n : Int).tdiv 10 = (q : Int) := by rw [Int.tdiv_eq_ediv_of_nonneg (by omega)]; omega
     clear ih eq
     go_enter Tryz.func11, Tryz.ntmps11
     go_wp2_with fail
     refine HI.out.mono ?_
     rintro e w2 ⟨rfl, f2⟩
     have HF2 := Lib.hid (HF.out.trans f2)
     clear f2 HI
     go_wp2
     go_ret
     exact ⟨by rw [HE.out]; rfl, HF2.out⟩
end Go.Proofs.YtodmkjeankbieaaGreatDoor


namespace Go.Proofs.YtodmkjeankbieaaGreatDoor
open Go.RowKit Go.Sort Go.Lib

def saidF (s : Tx) (l : List Nat) : Tx := l.foldl (fun t n => t ++ 32 :: decDigits n) s
theorem saidF_snoc (s : Tx) (l : List Nat) (n : Nat) : saidF s (l ++ [n]) = saidF s l ++ 32 :: decDigits n := by simp [saidF, List.foldl_append]
theorem saidF_step {s : Tx} {l : List Nat} {k n : Nat} (h : l[k]? = some n) : saidF s (l.take (k + 1)) = saidF s (l.take k) ++ 32 :: decDigits n := by
 rw [List.take_add_one, h]; exact saidF_snoc s _ n
theorem saidF_len (s : Tx) : ∀ (l : List Nat), (∀ n ∈ l, n < 9223372036854775808) → (saidF s l).length ≤ s.length + 20 * l.length := by
 intro l
 induction l generalizing s with
 | nil => intro _; simp [saidF]
 | cons n l ih =>
   intro h
   have h1 := ih (s ++ 32 :: decDigits n) (fun m hm => h m (List.mem_cons_of_mem _ hm))
   have h2 : (decDigits n).length ≤ 19 := by have := dec_size (h n List.mem_cons_self); rw [bA_size] at this; exact this
   have h3 : saidF s (n :: l) = saidF (s ++ 32 :: decDigits n) l := rfl
   rw [h3]
   simp only [List.length_append, List.length_cons] at h1 ⊢
   omega
def i64s (l : List Nat) : List Value := l.map fun (n : Nat) => Value.int .i64 (n : Int)

set_option maxHeartbeats 1600000 in
set_option maxRecDepth 100000 in
theorem said_any (R : Nat → Prop) (s : Tx) (l : List Nat) (hl : ∀ n ∈ l, n < 9223372036854775808) (hs : s.length + 20 * l.length < 9223372036854775000) (A : Option Addr) (c : Nat) (w : World) (hr : Reads w R 1 A l.length (i64s l)) :
   Calls Tryz.prog 9 #[.string (bA s), .slice A l.length c] w fun e w' => e = .returned (.string (bA (saidF s l))) ∧ Fr w w' := by
 have HR := Lib.hid hr
 have HL := Lib.hid hl
 clear hr hl
 go_enter Tryz.func9, Tryz.ntmps9
 go_wp2
 go_loopw [5, 0] (fun i t wr => ∃ k : Nat, k ≤ l.length ∧ i = .int .i64 k ∧ t = .string (bA (saidF s (l.take k))) ∧ Fr w wr) (fun i _ _ => l.length - (intOf i).toNat)
 case atStart => exact ⟨0, by omega, rfl, rfl, Kept.refl _ w⟩
 case round =>
   obtain ⟨k, hk, rfl, rfl, hfr⟩ := hrel
   by_cases hlt : k < l.length
   · have hx : l[k]? = some l[k] := List.getElem?_eq_getElem hlt
     have hm : l[k] < 9223372036854775808 := HL.out _ (List.getElem_mem hlt)
     generalize l[k] = n at *
     have HX := Lib.hid hx
     obtain ⟨b, off, rfl, _, hc⟩ := (HR.out.kept hfr (fun _ _ h => h)).2 (by omega)
     have d0 := hc k (.int .i64 (n : Int)) (by unfold i64s; rw [List.getElem?_map, hx]; rfl)
     have hb := cell_lt d0
     clear hc hx
     have hsz1 : (bA (saidF s (l.take k))).size < 9223372036854775000 := by
       rw [bA_size]
       have := saidF_len s (l.take k) (fun m hm => HL.out m (List.mem_of_mem_take hm))
       rw [List.length_take] at this
       omega
     have hsz2 := dec_size hm
     have HF := Lib.hid hfr
     clear hfr
     have hsz3 : ¬ 9223372036854775807 < (bA (saidF s (l.take k))).size + 1 := by omega
     have HN := Lib.hid (digits_any n hm wr)
     have HE : Hid (bA (saidF s (l.take (k + 1))) = bA (saidF s (l.take k)) ++ ⟨#[32]⟩ ++ bA (decDigits n)) := by
       show _ = _
       rw [saidF_step HX.out, ByteArray.append_assoc, show (32 :: decDigits n : Tx) = [32] ++ decDigits n from rfl, bA_app, bA_app]
       rfl
     go_wp2_with fail
     refine HN.out.mono ?_
     rintro e w1 ⟨rfl, f1⟩
     have HF1 := Lib.hid (HF.out.trans f1)
     clear f1
     have hsz4 : ¬ 9223372036854775807 < (bA (saidF s (l.take k))).size + 1 + (bA (decDigits n)).size := by omega
     go_wp2
     go_roundw
     case rel => exact ⟨k + 1, by omega, by go_num, by rw [HE.out], HF1.out⟩
     case measure => simp [intOf]; omega
   · obtain rfl : k = l.length := by omega
     rw [List.take_length]
     go_wp2
     go_ret
     exact ⟨rfl, hfr⟩
end Go.Proofs.YtodmkjeankbieaaGreatDoor


namespace Go.Proofs.YtodmkjeankbieaaGreatDoor
open Go.RowKit Go.Sort Go.Lib

theorem bA_get {s : Tx} {k : Nat} {c : UInt8} (h : k < (bA s).size) (hc : s[k]? = some c) : (bA s)[k]'h = c := by
 have hk : k < s.length := by rw [bA_size] at h; exact h
 rw [List.getElem?_eq_getElem hk] at hc
 injection hc
def NumRes (o : Option Nat) (e : Ending) : Prop :=
 match o with
 | some u => e = .returned (.tuple #[.int .u32 (u : Int), .bool true])
 | none => ∃ x : Int, e = .returned (.tuple #[.int .u32 x, .bool false])
theorem numRes_none {s : Tx} (h : numF s = none) (x : Int) : NumRes (numF s) (.returned (.tuple #[.int .u32 x, .bool false])) := by rw [h]; exact ⟨x, rfl⟩
theorem numRes_some {s : Tx} {u : Nat} (h : numF s = some u) : NumRes (numF s) (.returned (.tuple #[.int .u32 (u : Int), .bool true])) := by rw [h]; rfl
theorem numF_len {s : Tx} (h : s.length < 1 ∨ 10 < s.length ∨ (s.head? = some 48 ∧ 1 < s.length)) : numF s = none := by unfold numF; rw [if_pos h]
theorem numF_no {s : Tx} {k : Nat} {c : UInt8} (hc : s[k]? = some c) (h : digit c = false) : numF s = none := by
 unfold numF
 split
 · rfl
 · rw [if_neg]
   intro ha
   rw [List.all_eq_true] at ha
   have := ha c (List.mem_of_getElem? hc)
   rw [h] at this; cases this
theorem numF_of {s : Tx} (h1 : ¬ s.length < 1) (h2 : ¬ 10 < s.length) (h3 : ¬ (s.head? = some 48 ∧ 1 < s.length)) (h : s.all digit = true) : numF s = if valF 0 s < 4294967296 then some (valF 0 s) else none := by
 unfold numF
 rw [if_neg (by rintro (h | h | h) <;> contradiction), if_pos h]
theorem valF_lt : ∀ (l : Tx) (acc m : Nat), l.all digit = true → acc < 10 ^ m → valF acc l < 10 ^ (m + l.length)
 | [], acc, m, _, h => by simpa [valF] using h
 | c :: l, acc, m, hd, h => by
   rw [List.all_cons, Bool.and_eq_true] at hd
   have hc : 48 ≤ c.toNat ∧ c.toNat ≤ 57 := of_decide_eq_true hd.1
   rw [valF_cons]
   have := valF_lt l (10 * acc + (c.toNat - 48)) (m + 1) hd.2 (by rw [Nat.pow_succ]; omega)
   rw [List.length_cons]
   rwa [show m + (l.length + 1) = m + 1 + l.length by omega]
def numTo (s : Tx) (k a : Nat) : Prop := (s.take k).all digit = true ∧ valF 0 (s.take k) = a
theorem numTo_0 (s : Tx) : numTo s 0 0 := ⟨rfl, rfl⟩
theorem numTo_s {s : Tx} {k a : Nat} {c : UInt8} (h : numTo s k a) (hc : s[k]? = some c) (hd : digit c = true) : numTo s (k + 1) (10 * a + (c.toNat - 48)) := by
 unfold numTo at *
 rw [List.take_add_one, hc]
 refine ⟨?_, ?_⟩
 · rw [List.all_append, h.1]; simp [hd]
 · show valF 0 (s.take k ++ [c]) = _
   rw [valF_snoc, h.2]
theorem numTo_lt {s : Tx} {k a : Nat} (h : numTo s k a) (hk : s.length ≤ 10) : a < 10000000000 := by
 have h1 := valF_lt (s.take k) 0 0 h.1 (by omega)
 rw [h.2] at h1
 have h2 : 10 ^ (0 + (s.take k).length) ≤ 10 ^ 10 := Nat.pow_le_pow_right (by omega) (by rw [List.length_take]; omega)
 omega

set_option maxHeartbeats 1600000 in
set_option maxRecDepth 100000 in
theorem number_any (s : Tx) (w : World) :
   Calls Tryz.prog 8 #[.string (bA s)] w fun e w' => NumRes (numF s) e ∧ w' = w := by
 have hsz : (bA s).size = s.length := bA_size s
 have HG : Hid (∀ k c, (h : k < (bA s).size) → s[k]? = some c → (bA s)[k]'h = c) := fun k c h hc => bA_get h hc
 generalize bA s = b at *
 by_cases h1 : s.length < 1
 · have HN := Lib.hid (numF_len (Or.inl h1))
   have hb : b.size < 1 := by omega
   clear hsz
   go_enter Tryz.func8, Tryz.ntmps8
   go_wp2
   go_ret2
   exact ⟨numRes_none HN.out 0, rfl⟩
 · by_cases h2 : 10 < s.length
   · have HN := Lib.hid (numF_len (Or.inr (Or.inl h2)))
     have hb : 10 < b.size := by omega
     have hb2 : ¬ b.size < 1 := by omega
     clear hsz
     go_enter Tryz.func8, Tryz.ntmps8
     go_wp2
     go_ret2
     exact ⟨numRes_none HN.out 0, rfl⟩
   · have hsz0 : 0 < b.size := by omega
     have hx : s[0]? = some s[0] := List.getElem?_eq_getElem (by omega)
     have hhd : s.head? = some s[0] := by rw [List.head?_eq_getElem?]; exact hx
     generalize s[0] = c at *
     have hb0 : b[0]'hsz0 = c := HG.out 0 c hsz0 hx
     have hsz1 : ¬ b.size < 1 := by omega
     have hsz2 : ¬ 10 < b.size := by omega
     by_cases h0 : s.head? = some 48 ∧ 1 < s.length
     · have HN := Lib.hid (numF_len (Or.inr (Or.inr h0)))
       have hb : 1 < b.size := by omega
       have hc : c.toNat = 48 := by
         rw [hhd] at h0
         injection h0.1 with h
         rw [h]; rfl
       clear hsz h0 hhd hx
       go_enter Tryz.func8, Tryz.ntmps8
       go_wp2
       go_ret2
       exact ⟨numRes_none HN.out 0, rfl⟩
     · have hc : ¬ (c.toNat = 48 ∧ 1 < b.size) := by
         rintro ⟨h, h'⟩
         exact h0 ⟨by rw [hhd]; congr 1; exact UInt8.toNat_inj.1 h, by omega⟩
       have HO := Lib.hid (fun h => numF_of h1 h2 h0 h)
       clear hhd hx h0
       have hs10 : s.length ≤ 10 := by omega
       have hc2 : c.toNat ≠ 48 ∨ (c.toNat = 48 ∧ ¬ 1 < b.size) := by omega
       clear hc
       rcases hc2 with hc | ⟨hc, hc2⟩
       all_goals
         go_enter Tryz.func8, Tryz.ntmps8
         go_wp2
         go_loopw [4, 5] (fun av i wr => ∃ k a : Nat, k ≤ s.length ∧ av = .int .i64 a ∧ i = .int .i64 k ∧ Hid (numTo s k a) ∧ wr = w) (fun _ i _ => s.length - (intOf i).toNat)
         case atStart => exact ⟨0, 0, by omega, rfl, rfl, numTo_0 s, rfl⟩
         case round =>
           obtain ⟨k, a, hk, rfl, rfl, hto, rfl⟩ := hrel
           have ha := numTo_lt hto.out hs10
           by_cases hlt : k < s.length
           · have hkb : k < b.size := by omega
             have hy : s[k]? = some s[k] := List.getElem?_eq_getElem hlt
             generalize s[k] = d at *
             have hbk : b[k]'hkb = d := HG.out k d hkb hy
             have HY := Lib.hid hy
             clear hy
             by_cases hd : 48 ≤ d.toNat ∧ d.toNat ≤ 57
             · have HT := Lib.hid (numTo_s hto.out HY.out (by unfold digit; simpa using hd))
               obtain ⟨hd1, hd2⟩ := hd
               have hw1 : IntKind.u8.wrap ((d.toNat : Int) - 48) = ((d.toNat - 48 : Nat) : Int) := by simp [IntKind.wrap, IntKind.bits, IntKind.signed]; omega
               go_wp2
               go_roundw
               case rel => exact ⟨k + 1, 10 * a + (d.toNat - 48), by omega, by go_num, by go_num, HT, trivial⟩
               case measure => simp [intOf]; omega
             · have HN := Lib.hid (numF_no HY.out (by unfold digit; simpa using hd))
               clear hto
               go_wp2
               all_goals go_ret2
               all_goals exact ⟨numRes_none HN.out 0, rfl⟩
           · obtain rfl : k = s.length := by omega
             have hto := hto.out
             unfold numTo at hto
             rw [List.take_length] at hto
             obtain ⟨he, hv⟩ := hto
             have HO2 := Lib.hid (HO.out he)
             rw [hv] at HO2
             clear hv he
             have hkb : ¬ s.length < b.size := by omega
             by_cases hsm : a < 4294967296
             · have HO3 := HO2.out
               rw [if_pos hsm] at HO3
               have HO4 := Lib.hid HO3
               clear HO3
               have hm : (a : Int) % 4294967296 = (a : Int) := by omega
               have hsb : decide ((a : Int) < 4294967296) = true := decide_eq_true (by omega)
               go_wp2
               go_ret2
               exact ⟨numRes_some HO4.out, rfl⟩
             · have HO3 := HO2.out
               rw [if_neg hsm] at HO3
               have HO4 := Lib.hid HO3
               clear HO3
               obtain ⟨q, hq⟩ : ∃ q : Int, q = (a : Int) % 4294967296 := ⟨_, rfl⟩
               have hm : (a : Int) % 4294967296 = q := hq.symm
               have hq0 : 0 ≤ q := by omega
               have hq1 : q < 4294967296 := by omega
               clear hq
               have hsb : decide ((a : Int) < 4294967296) = false := decide_eq_false (by omega)
               go_wp2
               go_ret2
               exact ⟨numRes_none HO4.out q, rfl⟩
end Go.Proofs.YtodmkjeankbieaaGreatDoor


namespace Go.Proofs.YtodmkjeankbieaaGreatDoor
open Go.RowKit Go.Sort Go.Lib

theorem slStr : SlTy Tryz.prog 22 9 1 16 := SlTy.mk' (z := .string ⟨#[]⟩) Tryz.underlying22 (by kernel_rfl) rfl (by decide)
def txs (l : List Tx) : List Value := l.map fun t => .string (bA t)
theorem txs_len (l : List Tx) : (txs l).length = l.length := by simp [txs]
theorem txs_snoc (l : List Tx) (t : Tx) : txs (l ++ [t]) = txs l ++ [.string (bA t)] := by simp [txs]
theorem bA_extract (s : Tx) (f k : Nat) : (bA s).extract f k = bA ((s.drop f).take (k - f)) := by rw [extract_eq]; rfl

def cutTo (s : Tx) (b : UInt8) (k f : Nat) (done : List Tx) : Prop :=
 f ≤ k ∧ done.length ≤ k ∧ ((k ≤ s.length ∧ partsL b s = done ++ glue ((s.drop f).take (k - f)) (partsL b (s.drop k))) ∨ (k = s.length + 1 ∧ partsL b s = done))
theorem cutTo_0 (s : Tx) (b : UInt8) : cutTo s b 0 0 [] := by
 refine ⟨by omega, by simp, .inl ⟨by omega, ?_⟩⟩
 simp [glue_nil]
theorem cutTo_hit {s : Tx} {b : UInt8} {k f : Nat} {done : List Tx} (h : cutTo s b k f done) (hc : s[k]? = some b) : cutTo s b (k + 1) (k + 1) (done ++ [(s.drop f).take (k - f)]) := by
 have hk : k < s.length := (List.getElem?_eq_some_iff.1 hc).1
 obtain ⟨h1, h2, ⟨_, h3⟩ | ⟨h3, _⟩⟩ := h
 · refine ⟨by omega, by simp; omega, .inl ⟨by omega, ?_⟩⟩
   have e : s.drop k = b :: s.drop (k + 1) := by
     rw [List.drop_eq_getElem_cons hk]
     rw [List.getElem?_eq_getElem hk] at hc
     injection hc with hc
     rw [hc]
   rw [h3, e]
   have e2 : partsL b (b :: s.drop (k + 1)) = [] :: partsL b (s.drop (k + 1)) := by
     show (if b = b then _ else _) = _
     rw [if_pos rfl]
   rw [e2, Nat.sub_self, List.take_zero, glue_nil]
   simp [glue]
 · omega
theorem cutTo_miss {s : Tx} {b c : UInt8} {k f : Nat} {done : List Tx} (h : cutTo s b k f done) (hc : s[k]? = some c) (hne : c ≠ b) : cutTo s b (k + 1) f done := by
 have hk : k < s.length := (List.getElem?_eq_some_iff.1 hc).1
 obtain ⟨h1, h2, ⟨_, h3⟩ | ⟨h3, _⟩⟩ := h
 · refine ⟨by omega, by omega, .inl ⟨by omega, ?_⟩⟩
   have e : s.drop k = c :: s.drop (k + 1) := by
     rw [List.drop_eq_getElem_cons hk]
     rw [List.getElem?_eq_getElem hk] at hc
     injection hc with hc
     rw [hc]
   rw [h3, e]
   have e2 : partsL b (c :: s.drop (k + 1)) = glue [c] (partsL b (s.drop (k + 1))) := by
     show (if c = b then _ else _) = _
     rw [if_neg hne]
   rw [e2, glue_glue]
   congr 2
   rw [show k + 1 - f = (k - f) + 1 by omega, List.take_add_one]
   congr 1
   rw [List.getElem?_drop, show f + (k - f) = k by omega, hc]
   rfl
 · omega
theorem cutTo_end {s : Tx} {b : UInt8} {f : Nat} {done : List Tx} (h : cutTo s b s.length f done) : cutTo s b (s.length + 1) (s.length + 1) (done ++ [(s.drop f).take (s.length - f)]) := by
 obtain ⟨h1, h2, ⟨_, h3⟩ | ⟨h3, _⟩⟩ := h
 · refine ⟨by omega, by simp; omega, .inr ⟨rfl, ?_⟩⟩
   rw [h3, List.drop_length]
   simp [partsL, glue]
 · omega
theorem cutTo_all {s : Tx} {b : UInt8} {f : Nat} {done : List Tx} (h : cutTo s b (s.length + 1) f done) : partsL b s = done := by
 obtain ⟨h1, h2, ⟨_, h3⟩ | ⟨_, h3⟩⟩ := h
 · omega
 · exact h3

set_option maxHeartbeats 1600000 in
set_option maxRecDepth 100000 in
theorem splitk_any (s : Tx) (b : UInt8) (hs : s.length < 4294967296) (w : World) :
   Calls Tryz.prog 5 #[.string (bA s), .int .u8 (b.toNat : Int)] w fun e w' => ∃ v, e = .returned v ∧ w'.ownsRow w.heap.size 9 1 v (partsL b s).length (txs (partsL b s)) ∧ Fr w w' := by
 have hsz : (bA s).size = s.length := bA_size s
 have HG : Hid (∀ k c, (h : k < (bA s).size) → s[k]? = some c → (bA s)[k]'h = c) := fun k c h hc => bA_get h hc
 have HX : Hid (∀ f k, (bA s).extract f k = bA ((s.drop f).take (k - f))) := bA_extract s
 generalize bA s = t at *
 obtain ⟨bn, hbn⟩ : ∃ bn : Nat, b.toNat = bn := ⟨_, rfl⟩
 rw [hbn]
 have HBN := Lib.hid hbn
 clear hbn
 go_enter Tryz.func5, Tryz.ntmps5
 go_wp2
 go_loopw [5, 6, 7] (fun ov fv iv wr => ∃ (k f : Nat) (done : List Tx), k ≤ s.length + 1 ∧ fv = .int .i64 f ∧ iv = .int .i64 k ∧ Hid (cutTo s b k f done) ∧ Hid (wr.ownsRow w.heap.size 9 1 ov done.length (txs done)) ∧ Hid (Fr w wr)) (fun _ _ i _ => s.length + 1 - (intOf i).toNat)
 case atStart => exact ⟨0, 0, [], by omega, rfl, rfl, cutTo_0 s b, World.ownsRow_nil _ _ _ _, Kept.refl _ w⟩
 case round =>
   obtain ⟨k, f, done, hk, rfl, rfl, hcut, ho, hf⟩ := hrel
   have hsw := hf.out.size
   have hcf := hcut.out.1
   have hcd := hcut.out.2.1
   by_cases hle : k ≤ s.length
   · by_cases hend : k = s.length
     · subst hend
       have HM := Lib.hid (cutTo_end hcut.out)
       have hxt := HX.out f s.length
       have hkl : ((s.length : Int) == (s.length : Int)) = true := beq_self_eq_true _
       clear hcut
       go_wp2_with (first
         | (at_builtin
            refine wpList_app (base := w.heap.size) _ rfl slStr (.tmp 25) (.tmp 30) rfl u5 _ _ rfl (World.ownsRow.alloc ho.out _) (fun _ => True) _ 1 1 [.string (bA ((s.drop f).take (s.length - f)))] rfl (Reads.lit' (by simp) trivial rfl) ?_ ?_ ?_ ?_ ?_
            · simp [Value.oneCell']
            · omega
            · unfold maxLen; omega
            · simp; omega
            intro v7 w7 hown7 hk7 _
            have HO7 := Lib.hid (show w7.ownsRow w.heap.size 9 1 v7 (done ++ [(s.drop f).take (s.length - f)]).length (txs (done ++ [(s.drop f).take (s.length - f)])) from by rw [List.length_append, List.length_singleton, txs_snoc]; exact hown7)
            have HF7 := Lib.hid ((hf.out.alloc _).app (World.ownsRow.alloc ho.out _) hk7)
            clear hown7 hk7)
         | go_in)
       go_roundw
       case rel => exact ⟨s.length + 1, s.length + 1, _, by omega, by go_num, by go_num, HM, HO7, HF7⟩
       case measure => simp [intOf]
     · have hx : s[k]? = some s[k] := List.getElem?_eq_getElem (by omega)
       generalize s[k] = c at *
       have hkt : k < t.size := by omega
       obtain ⟨cn, hcn⟩ : ∃ cn : Nat, (t[k]'hkt).toNat = cn := ⟨_, rfl⟩
       have hcn2 : c.toNat = cn := by rw [← hcn, HG.out k c hkt hx]
       by_cases hcb : c = b
       · subst hcb
         have HM := Lib.hid (cutTo_hit hcut.out hx)
         have hxt := HX.out f k
         have hkl : ((k : Int) == (s.length : Int)) = false := beq_false_of_ne (by omega)
         have hcb : cn = bn := by rw [← hcn2, HBN.out]
         have hnl : ((cn : Int) == (bn : Int)) = true := by rw [hcb]; exact beq_self_eq_true _
         clear hcut hx hcn2 hcb
         go_wp2_with (first
           | (at_builtin
              refine wpList_app (base := w.heap.size) _ rfl slStr (.tmp 25) (.tmp 30) rfl u5 _ _ rfl (World.ownsRow.alloc ho.out _) (fun _ => True) _ 1 1 [.string (bA ((s.drop f).take (k - f)))] rfl (Reads.lit' (by simp) trivial rfl) ?_ ?_ ?_ ?_ ?_
              · simp [Value.oneCell']
              · omega
              · unfold maxLen; omega
              · simp; omega
              intro v7 w7 hown7 hk7 _
              have HO7 := Lib.hid (show w7.ownsRow w.heap.size 9 1 v7 (done ++ [(s.drop f).take (k - f)]).length (txs (done ++ [(s.drop f).take (k - f)])) from by rw [List.length_append, List.length_singleton, txs_snoc]; exact hown7)
              have HF7 := Lib.hid ((hf.out.alloc _).app (World.ownsRow.alloc ho.out _) hk7)
              clear hown7 hk7)
           | go_in)
         go_roundw
         case rel => exact ⟨k + 1, k + 1, _, by omega, by go_num, by go_num, HM, HO7, HF7⟩
         case measure => simp [intOf]; omega
       · have HM := Lib.hid (cutTo_miss hcut.out hx hcb)
         have hne : ¬ cn = bn := by
           intro h; apply hcb; apply UInt8.toNat_inj.1; rw [hcn2, HBN.out, h]
         have hkl : ((k : Int) == (s.length : Int)) = false := beq_false_of_ne (by omega)
         have hnl : ((cn : Int) == (bn : Int)) = false := beq_false_of_ne (by omega)
         clear hcut hx hcn2 hcb
         go_wp2
         go_roundw
         case rel => exact ⟨k + 1, f, done, by omega, rfl, by go_num, HM, ho, hf⟩
         case measure => simp [intOf]; omega
   · obtain rfl : k = s.length + 1 := by omega
     have HA := Lib.hid (cutTo_all hcut.out)
     have HO := Lib.hid ho.out
     go_wp2
     go_ret
     exact ⟨_, rfl, by rw [HA.out]; exact HO.out, hf.out⟩
end Go.Proofs.YtodmkjeankbieaaGreatDoor


namespace Go.Proofs.YtodmkjeankbieaaGreatDoor
open Go.RowKit

theorem ret_int {k : IntKind} {a b : Int} (h : a = b) : Ending.returned (.int k a) = .returned (.int k b) := by rw [h]

theorem do64 (op a b : Int) (h0 : 0 ≤ a) (h1 : a ≤ 18446744073709551615) (g0 : 0 ≤ b) (g1 : b ≤ 18446744073709551615) (w : World) :
   Calls Tryz.prog 76 #[.int .i64 op, .int .u64 a, .int .u64 b] w fun e w' => e = .returned (.int .u64 (wideOp op a b)) ∧ w = w' := by
 go_enter Tryz.func76, Tryz.ntmps76
 go_wp2
 all_goals go_ret
 all_goals refine ⟨ret_int ?_, rfl⟩
 all_goals unfold wideOp
 · rw [opM_1 ‹_›, IntKind.wrap_u64]
 · rw [opM_2 ‹_›, IntKind.wrap_u64]
 · rw [opM_3 ‹_›, IntKind.wrap_u64]
 · rw [opM_4 ‹_›, (bits_u64 a b h0 h1 g0 g1).1]
 · rw [opM_5 ‹_›, (bits_u64 a b h0 h1 g0 g1).2]
 · rw [opM_6 ‹_›, if_pos ‹_›]
 · rw [opM_6 ‹_›, if_neg (by omega)]
 · rw [opM_0 ‹_› ‹_› ‹_› ‹_› ‹_› ‹_›]

theorem do32 (op a b : Int) (h0 : 0 ≤ a) (h1 : a ≤ 4294967295) (g0 : 0 ≤ b) (g1 : b ≤ 4294967295) (w : World) :
   Calls Tryz.prog 77 #[.int .i64 op, .int .u32 a, .int .u32 b] w fun e w' => e = .returned (.int .u32 (narrowOp op a b)) ∧ w = w' := by
 go_enter Tryz.func77, Tryz.ntmps77
 go_wp2
 all_goals go_ret
 all_goals refine ⟨ret_int ?_, rfl⟩
 all_goals unfold narrowOp
 · rw [opM_1 ‹_›]
 · rw [opM_2 ‹_›]
 · rw [opM_3 ‹_›]
 · rw [opM_4 ‹_›, (bits_u32 a b h0 h1 g0 g1).1]
 · rw [opM_5 ‹_›, (bits_u32 a b h0 h1 g0 g1).2]
 · rw [opM_6 ‹_›, if_pos ‹_›]
 · rw [opM_6 ‹_›, if_neg (by omega)]
 · rw [opM_0 ‹_› ‹_› ‹_› ‹_› ‹_› ‹_›]

theorem Wide_any (op a b : Int) (h0 : 0 ≤ a) (h1 : a ≤ 18446744073709551615) (g0 : 0 ≤ b) (g1 : b ≤ 18446744073709551615) (w : World) :
   Calls Tryz.prog 53 #[.int .i64 op, .int .u64 a, .int .u64 b] w fun e w' => e = .returned (.int .u64 (wideOp op a b)) ∧ w = w' := by
 go_enter Tryz.func53, Tryz.ntmps53
 go_wp2_with (go_at_call 76; refine (do64 _ _ _ h0 h1 g0 g1 _).mono ?_; rintro e w' ⟨rfl, rfl⟩)
 go_ret
 exact ⟨rfl, rfl⟩

theorem Narrow_any (op a b : Int) (h0 : 0 ≤ a) (h1 : a ≤ 4294967295) (g0 : 0 ≤ b) (g1 : b ≤ 4294967295) (w : World) :
   Calls Tryz.prog 54 #[.int .i64 op, .int .u32 a, .int .u32 b] w fun e w' => e = .returned (.int .u32 (narrowOp op a b)) ∧ w = w' := by
 go_enter Tryz.func54, Tryz.ntmps54
 go_wp2_with (go_at_call 77; refine (do32 _ _ _ h0 h1 g0 g1 _).mono ?_; rintro e w' ⟨rfl, rfl⟩)
 go_ret
 exact ⟨rfl, rfl⟩

end Go.Proofs.YtodmkjeankbieaaGreatDoor

