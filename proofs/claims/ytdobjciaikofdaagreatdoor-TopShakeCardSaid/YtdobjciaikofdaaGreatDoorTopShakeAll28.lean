/- Part 28 of 39 of what the proof of this law needs. Put together by a program out of the texts: Shelf Hc Mp Hd. -/
import Derived.Shelf.Strings.Builder1
import Derived.Shelf.Strings.Builder2
import Derived.Shelf.Strings.OnBuilder
import Derived.Shelf.Small.Utf8
import Derived.Shelf.Small.Bits
import Derived.Shelf.Small.Strs
import Derived.Shelf.Small.Wraps
import Derived.Shelf.Strings.BuilderF
import Derived.Shelf.Strings.BuilderK
import Derived.Shelf.Utf8.RuneCount
import Derived.Shelf.Strings.Builder2Cap
import Derived.Shelf.Strconv.Itoa0
import Derived.Shelf.Strconv.Itoa1
import Derived.Shelf.LaysM
import Derived.Shelf.Strconv.Itoa2
import Derived.Shelf.Strconv.Itoa3
import Derived.Shelf.Bytes.Len
import Derived.Shelf.Bytes.TryGrow
import Derived.Shelf.Bytes.GrowSliceCatch
import Derived.Shelf.Bytes.GrowSlice
import Derived.Shelf.Bytes.Reset
import Derived.Shelf.Bytes.Bytes
import Derived.Shelf.Strconv.Clone
import Derived.Shelf.Strconv.SyntaxError
import Derived.Shelf.Strconv.Lower
import Derived.Shelf.Strconv.ParseUint10
import Derived.Shelf.Strconv.ParseUint10Empty
import Derived.Shelf.Strconv.RangeError
import Derived.Shelf.Strconv.ParseUintEmpty
import Derived.Shelf.Strconv.ParseUint10b64
import Derived.Shelf.Strconv.ParseUint10b32
import Derived.Shelf.Strconv.ParseUint10b16
import Derived.Shelf.Strconv.ParseUint10b8
import Derived.Ground.MpProg
import Derived.Shelf.Pu.ParseUintPublic10
import Derived.Shelf.Strings.Search1
import Derived.Shelf.Strings.Search2
import Derived.Shelf.Strings.Search3
import Derived.Shelf.Strings.Count
import Derived.Shelf.Strings.Shaped
import Derived.Shelf.Bytes.ResetKept
import Derived.Shelf.Bytes.LenAt
import Derived.Shelf.Bytes.TryGrowAt
import Derived.Shelf.Strings.Prefix
import Derived.Shelf.Strings.Split
import Derived.Shelf.Strings.SplitShaped
import Derived.Shelf.Unicode.Decode
import Derived.Shelf.Strings.Runes
import Derived.Shelf.Strings.RuneCount
import Derived.Shelf.Strings.Explode
import Derived.Shelf.Bits.Mul64
import Derived.Shelf.Unicode.DecodeSlow
import Derived.Shelf.Unicode.DecodeAny
import Derived.Shelf.Slices.Turned
import Derived.Ground.SlbCloneProg
import Derived.Shelf.Bytes.SlClone
import Derived.Shelf.Bytes.SlSmallAll
import Derived.Shelf.Bytes.SlEqualAll
import Derived.Shelf.Bytes.Small
import Derived.Test.YtdobjciaikofdaaGreatDoorProg
import Derived.Test.YtdobjciaikofdaaGreatDoorTopShakeAll27
import Derived.RangeFuncRecord
import Derived.Carry
section
namespace Go.Proofs
open Go.Shelf
def Tryz.lays169_ren : Go.Shelf.Ren := ⟨fun | 169 => 56 | n => n, fun | 70 => 104 | 9 => 9 | 0 => 0 | 72 => 106 | 37 => 22 | 127 => 177 | 3 => 3 | 5 => 5 | n => n, fun | n => n⟩
theorem Tryz.lays169 : Go.Proofs.Lays.n169 Tryz.prog Tryz.lays169_ren := {
 mixed := by kernel_rfl
 f169 := Tryz.func56.trans (congrArg some (by kernel_rfl))
 t0 := Tryz.underlying0
 a0 := Tryz.isAgg0
 z0 := Tryz.sizeOf0
 v0 := Tryz.zeroValue0
 t3 := Tryz.underlying3
 a3 := Tryz.isAgg3
 z3 := Tryz.sizeOf3
 v3 := Tryz.zeroValue3
 t9 := Tryz.underlying9
 a9 := Tryz.isAgg9
 z9 := Tryz.sizeOf9
 v9 := Tryz.zeroValue9
 t37 := Tryz.underlying22
 a37 := Tryz.isAgg22
 z37 := Tryz.sizeOf22
 v37 := Tryz.zeroValue22
 t70 := Tryz.underlying104
 a70 := Tryz.isAgg104
 z70 := Tryz.sizeOf104
 v70 := Tryz.zeroValue104
 t72 := Tryz.underlying106
 a72 := Tryz.isAgg106
 z72 := Tryz.sizeOf106
 v72 := Tryz.zeroValue106
 t127 := Tryz.underlying177
 a127 := Tryz.isAgg177
 z127 := Tryz.sizeOf177
 v127 := Tryz.zeroValue177 }
theorem Tryz.Builder_Extra_169 : Builder.Extra Tryz.prog Tryz.lays169_ren := {
 sizeBuilder := by kernel_rfl
 liesBuilder := by kernel_rfl
 t5 := Tryz.underlying5
 a5 := Tryz.isAgg5
 z5 := Tryz.sizeOf5
 v5 := Tryz.zeroValue5
 infoByte := by kernel_rfl
 cellsByte := by kernel_rfl
 sizeByte := by kernel_rfl
 neB5 := by decide }
open Go.RowKit in
theorem Tryz.Builder_String_any (B b : Nat) (l : List UInt8) (w : World) (h : Lib.IsBuilder 106 5 B b (Lib.byteCells l) w) (hBw : B <= w.heap.size) :
  Calls Tryz.prog 56 #[.pointer (some ⟨b, 0, none⟩)] w fun e w' => e = .returned (.string ⟨l.toArray⟩) /\ Below B w w' := Any.Builder_String_any Tryz.lays169 Tryz.Builder_Extra_169 B b l w h hBw
def Tryz.lays156_ren : Go.Shelf.Ren := ⟨fun | 156 => 97 | 165 => 143 | 166 => 54 | 169 => 56 | 240 => 98 | 241 => 215 | 276 => 144 | 277 => 262 | n => n, fun | 31 => 164 | 9 => 9 | 3 => 3 | 4 => 4 | 0 => 0 | 20 => 20 | 72 => 106 | 76 => 111 | 70 => 104 | 37 => 22 | 75 => 110 | 127 => 177 | 164 => 234 | 5 => 5 | 80 => 114 | n => n, fun | n => n⟩
theorem Tryz.lays156 : Go.Proofs.Lays.n156 Tryz.prog Tryz.lays156_ren := {
 mixed := by kernel_rfl
 f156 := Tryz.func97.trans (congrArg some (by kernel_rfl))
 f165 := Tryz.func143.trans (congrArg some (by kernel_rfl))
 f166 := Tryz.func54.trans (congrArg some (by kernel_rfl))
 f169 := Tryz.func56.trans (congrArg some (by kernel_rfl))
 f240 := Tryz.func98.trans (congrArg some (by kernel_rfl))
 f241 := Tryz.func215.trans (congrArg some (by kernel_rfl))
 f276 := Tryz.func144.trans (congrArg some (by kernel_rfl))
 f277 := Tryz.func262.trans (congrArg some (by kernel_rfl))
 t0 := Tryz.underlying0
 a0 := Tryz.isAgg0
 z0 := Tryz.sizeOf0
 v0 := Tryz.zeroValue0
 t3 := Tryz.underlying3
 a3 := Tryz.isAgg3
 z3 := Tryz.sizeOf3
 v3 := Tryz.zeroValue3
 t4 := Tryz.underlying4
 a4 := Tryz.isAgg4
 z4 := Tryz.sizeOf4
 v4 := Tryz.zeroValue4
 t9 := Tryz.underlying9
 a9 := Tryz.isAgg9
 z9 := Tryz.sizeOf9
 v9 := Tryz.zeroValue9
 t20 := Tryz.underlying20
 a20 := Tryz.isAgg20
 z20 := Tryz.sizeOf20
 v20 := Tryz.zeroValue20
 t31 := Tryz.underlying164
 a31 := Tryz.isAgg164
 z31 := Tryz.sizeOf164
 v31 := Tryz.zeroValue164
 t37 := Tryz.underlying22
 a37 := Tryz.isAgg22
 z37 := Tryz.sizeOf22
 v37 := Tryz.zeroValue22
 t70 := Tryz.underlying104
 a70 := Tryz.isAgg104
 z70 := Tryz.sizeOf104
 v70 := Tryz.zeroValue104
 t72 := Tryz.underlying106
 a72 := Tryz.isAgg106
 z72 := Tryz.sizeOf106
 v72 := Tryz.zeroValue106
 t75 := Tryz.underlying110
 a75 := Tryz.isAgg110
 z75 := Tryz.sizeOf110
 v75 := Tryz.zeroValue110
 t76 := Tryz.underlying111
 a76 := Tryz.isAgg111
 z76 := Tryz.sizeOf111
 v76 := Tryz.zeroValue111
 t127 := Tryz.underlying177
 a127 := Tryz.isAgg177
 z127 := Tryz.sizeOf177
 v127 := Tryz.zeroValue177
 t164 := Tryz.underlying234
 a164 := Tryz.isAgg234
 z164 := Tryz.sizeOf234
 v164 := Tryz.zeroValue234 }
theorem Tryz.Builder_Extra_156 : Builder.Extra Tryz.prog Tryz.lays156_ren := {
 sizeBuilder := by kernel_rfl
 liesBuilder := by kernel_rfl
 t5 := Tryz.underlying5
 a5 := Tryz.isAgg5
 z5 := Tryz.sizeOf5
 v5 := Tryz.zeroValue5
 infoByte := by kernel_rfl
 cellsByte := by kernel_rfl
 sizeByte := by kernel_rfl
 neB5 := by decide }
open Go.RowKit in
theorem Tryz.strings_Join (bk o c : Nat) (xs : List ByteArray) (sep : ByteArray) (w : World) (hcells : ∀ (j : Nat) x, xs[j]? = some x -> w.cell? ⟨bk, o + j, none⟩ = some (.string x)) (hbk : bk < w.heap.size) (hN : xs.length <= 140737488355328) (hcap : xs.length <= c) (hlen : (Lib.join (xs.map (·.data.toList)) sep.data.toList).length <= 140737488355328) :
  Calls Tryz.prog 97 #[.slice (some ⟨bk, o, none⟩) xs.length c, .string sep] w fun e w' => e = .returned (.string ⟨(Lib.join (xs.map (·.data.toList)) sep.data.toList).toArray⟩) /\ Below w.heap.size w w' := Any.strings_Join Tryz.lays156 Tryz.Builder_Extra_156 bk o c xs sep w hcells hbk hN hcap hlen
def Tryz.lays137_ren : Go.Shelf.Ren := ⟨fun | 137 => 138 | 217 => 195 | 266 => 251 | n => n, fun | 9 => 9 | 5 => 5 | 3 => 3 | n => n, fun | n => n⟩
theorem Tryz.lays137 : Go.Proofs.Lays.n137 Tryz.prog Tryz.lays137_ren := {
 mixed := by kernel_rfl
 f137 := Tryz.func138.trans (congrArg some (by kernel_rfl))
 f217 := Tryz.func195.trans (congrArg some (by kernel_rfl))
 f266 := Tryz.func251.trans (congrArg some (by kernel_rfl))
 t3 := Tryz.underlying3
 a3 := Tryz.isAgg3
 z3 := Tryz.sizeOf3
 v3 := Tryz.zeroValue3
 t5 := Tryz.underlying5
 a5 := Tryz.isAgg5
 z5 := Tryz.sizeOf5
 v5 := Tryz.zeroValue5
 t9 := Tryz.underlying9
 a9 := Tryz.isAgg9
 z9 := Tryz.sizeOf9
 v9 := Tryz.zeroValue9 }
open Go.RowKit in
theorem Tryz.strings_IndexByte (s : ByteArray) (c : Int) (w : World) :
  Calls Tryz.prog 138 #[.string s, .int .u8 c] w fun e w' => e = .returned (.int .i64 (Lib.indexByte s.data.toList c.toNat.toUInt8)) /\ w' = w := Any.strings_IndexByte Tryz.lays137 s c w
def Tryz.lays104_ren : Go.Shelf.Ren := ⟨fun | 104 => 94 | 211 => 139 | 207 => 196 | n => n, fun | 9 => 9 | 4 => 4 | 24 => 160 | 3 => 3 | n => n, fun | n => n⟩
theorem Tryz.lays104 : Go.Proofs.Lays.n104 Tryz.prog Tryz.lays104_ren := {
 mixed := by kernel_rfl
 f104 := Tryz.func94.trans (congrArg some (by kernel_rfl))
 f207 := Tryz.func196.trans (congrArg some (by kernel_rfl))
 f211 := Tryz.func139.trans (congrArg some (by kernel_rfl))
 t3 := Tryz.underlying3
 a3 := Tryz.isAgg3
 z3 := Tryz.sizeOf3
 v3 := Tryz.zeroValue3
 t4 := Tryz.underlying4
 a4 := Tryz.isAgg4
 z4 := Tryz.sizeOf4
 v4 := Tryz.zeroValue4
 t9 := Tryz.underlying9
 a9 := Tryz.isAgg9
 z9 := Tryz.sizeOf9
 v9 := Tryz.zeroValue9
 t24 := Tryz.underlying160
 a24 := Tryz.isAgg160
 z24 := Tryz.sizeOf160
 v24 := Tryz.zeroValue160 }
open Go.RowKit in
theorem Tryz.strings_CutSuffix (s p : ByteArray) (w : World) (hs : s.size <= 9223372036854775807) :
  Calls Tryz.prog 94 #[.string s, .string p] w fun e w' => e = .returned (.tuple #[.string ⟨(Lib.trimSuffix s.data.toList p.data.toList).toArray⟩, .bool (Lib.hasSuffix s.data.toList p.data.toList)]) /\ w' = w := Any.strings_CutSuffix Tryz.lays104 s p w hs
def Tryz.lays283_ren : Go.Shelf.Ren := ⟨fun | 283 => 258 | n => n, fun | 3 => 3 | 9 => 9 | 4 => 4 | n => n, fun | n => n⟩
theorem Tryz.lays283 : Go.Proofs.Lays.n283 Tryz.prog Tryz.lays283_ren := {
 mixed := by kernel_rfl
 f283 := Tryz.func258.trans (congrArg some (by kernel_rfl))
 t3 := Tryz.underlying3
 a3 := Tryz.isAgg3
 z3 := Tryz.sizeOf3
 v3 := Tryz.zeroValue3
 t4 := Tryz.underlying4
 a4 := Tryz.isAgg4
 z4 := Tryz.sizeOf4
 v4 := Tryz.zeroValue4
 t9 := Tryz.underlying9
 a9 := Tryz.isAgg9
 z9 := Tryz.sizeOf9
 v9 := Tryz.zeroValue9 }
open Go.Lib in
theorem Tryz.internal_strconv_small (i : Nat) (h : i < 100) (w : World) :
  Calls Tryz.prog 258 #[.int .i64 i] w fun e w' => e = .returned (.string ⟨(Lib.decDigits i).toArray⟩) /\ w' = w := Any.internal_strconv_small Tryz.lays283 i h w
def Tryz.laysPu14_ren : Go.Shelf.Ren := ⟨fun | 14 => 284 | 16 => 308 | 17 => 309 | 19 => 326 | 20 => 327 | 21 => 328 | 22 => 329 | 23 => 330 | 24 => 331 | 25 => 337 | 27 => 266 | 26 => 338 | 28 => 293 | 29 => 314 | 30 => 258 | 31 => 259 | 32 => 260 | 33 => 261 | 35 => 240 | 34 => 285 | 36 => 286 | 37 => 287 | 38 => 288 | 39 => 310 | 40 => 311 | n => n, fun | 9 => 9 | 3 => 3 | 22 => 39 | 24 => 110 | 25 => 338 | 4 => 4 | 34 => 367 | 5 => 5 | 36 => 254 | 37 => 22 | 0 => 0 | 39 => 369 | 21 => 21 | 44 => 387 | 47 => 177 | 50 => 392 | 48 => 390 | 2 => 2 | 52 => 314 | 55 => 316 | 59 => 341 | 60 => 154 | 20 => 20 | 61 => 342 | 65 => 372 | 66 => 373 | 67 => 114 | n => n, fun | 0 => 17 | 1 => 18 | 2 => 7 | 3 => 11 | 4 => 12 | n => n⟩
theorem Tryz.laysPu14 : Go.Proofs.LaysPu.n14 Tryz.prog Tryz.laysPu14_ren := {
 mixed := by kernel_rfl
 f14 := Tryz.func284.trans (congrArg some (by kernel_rfl))
 f16 := Tryz.func308.trans (congrArg some (by kernel_rfl))
 f17 := Tryz.func309.trans (congrArg some (by kernel_rfl))
 f19 := Tryz.func326.trans (congrArg some (by kernel_rfl))
 f20 := Tryz.func327.trans (congrArg some (by kernel_rfl))
 f21 := Tryz.func328.trans (congrArg some (by kernel_rfl))
 f22 := Tryz.func329.trans (congrArg some (by kernel_rfl))
 f23 := Tryz.func330.trans (congrArg some (by kernel_rfl))
 f24 := Tryz.func331.trans (congrArg some (by kernel_rfl))
 f25 := Tryz.func337.trans (congrArg some (by kernel_rfl))
 f26 := Tryz.func338.trans (congrArg some (by kernel_rfl))
 f27 := Tryz.func266.trans (congrArg some (by kernel_rfl))
 f28 := Tryz.func293.trans (congrArg some (by kernel_rfl))
 f29 := Tryz.func314.trans (congrArg some (by kernel_rfl))
 f30 := Tryz.func258.trans (congrArg some (by kernel_rfl))
 f31 := Tryz.func259.trans (congrArg some (by kernel_rfl))
 f32 := Tryz.func260.trans (congrArg some (by kernel_rfl))
 f33 := Tryz.func261.trans (congrArg some (by kernel_rfl))
 f34 := Tryz.func285.trans (congrArg some (by kernel_rfl))
 f35 := Tryz.func240.trans (congrArg some (by kernel_rfl))
 f36 := Tryz.func286.trans (congrArg some (by kernel_rfl))
 f37 := Tryz.func287.trans (congrArg some (by kernel_rfl))
 f38 := Tryz.func288.trans (congrArg some (by kernel_rfl))
 f39 := Tryz.func310.trans (congrArg some (by kernel_rfl))
 f40 := Tryz.func311.trans (congrArg some (by kernel_rfl))
 t0 := Tryz.underlying0
 a0 := Tryz.isAgg0
 z0 := Tryz.sizeOf0
 v0 := Tryz.zeroValue0
 i0 := by kernel_rfl
 t2 := Tryz.underlying2
 a2 := Tryz.isAgg2
 z2 := Tryz.sizeOf2
 v2 := Tryz.zeroValue2
 i2 := by kernel_rfl
 t3 := Tryz.underlying3
 a3 := Tryz.isAgg3
 z3 := Tryz.sizeOf3
 v3 := Tryz.zeroValue3
 i3 := by kernel_rfl
 t4 := Tryz.underlying4
 a4 := Tryz.isAgg4
 z4 := Tryz.sizeOf4
 v4 := Tryz.zeroValue4
 i4 := by kernel_rfl
 t5 := Tryz.underlying5
 a5 := Tryz.isAgg5
 z5 := Tryz.sizeOf5
 v5 := Tryz.zeroValue5
 i5 := by kernel_rfl
 t9 := Tryz.underlying9
 a9 := Tryz.isAgg9
 z9 := Tryz.sizeOf9
 v9 := Tryz.zeroValue9
 i9 := by kernel_rfl
 t20 := Tryz.underlying20
 a20 := Tryz.isAgg20
 z20 := Tryz.sizeOf20
 v20 := Tryz.zeroValue20
 i20 := by kernel_rfl
 t21 := Tryz.underlying21
 a21 := Tryz.isAgg21
 z21 := Tryz.sizeOf21
 v21 := Tryz.zeroValue21
 i21 := by kernel_rfl
 t22 := Tryz.underlying39
 a22 := Tryz.isAgg39
 z22 := Tryz.sizeOf39
 v22 := Tryz.zeroValue39
 i22 := by kernel_rfl
 t24 := Tryz.underlying110
 a24 := Tryz.isAgg110
 z24 := Tryz.sizeOf110
 v24 := Tryz.zeroValue110
 i24 := by kernel_rfl
 t25 := Tryz.underlying338
 a25 := Tryz.isAgg338
 z25 := Tryz.sizeOf338
 v25 := Tryz.zeroValue338
 i25 := by kernel_rfl
 t34 := Tryz.underlying367
 a34 := Tryz.isAgg367
 z34 := Tryz.sizeOf367
 v34 := Tryz.zeroValue367
 i34 := by kernel_rfl
 c34 := by kernel_rfl
 t36 := Tryz.underlying254
 a36 := Tryz.isAgg254
 z36 := Tryz.sizeOf254
 v36 := Tryz.zeroValue254
 i36 := by kernel_rfl
 t37 := Tryz.underlying22
 a37 := Tryz.isAgg22
 z37 := Tryz.sizeOf22
 v37 := Tryz.zeroValue22
 i37 := by kernel_rfl
 t39 := Tryz.underlying369
 a39 := Tryz.isAgg369
 z39 := Tryz.sizeOf369
 v39 := Tryz.zeroValue369
 i39 := by kernel_rfl
 t44 := Tryz.underlying387
 a44 := Tryz.isAgg387
 z44 := Tryz.sizeOf387
 v44 := Tryz.zeroValue387
 i44 := by kernel_rfl
 t47 := Tryz.underlying177
 a47 := Tryz.isAgg177
 z47 := Tryz.sizeOf177
 v47 := Tryz.zeroValue177
 i47 := by kernel_rfl
 t48 := Tryz.underlying390
 a48 := Tryz.isAgg390
 z48 := Tryz.sizeOf390
 v48 := Tryz.zeroValue390
 i48 := by kernel_rfl
 t50 := Tryz.underlying392
 a50 := Tryz.isAgg392
 z50 := Tryz.sizeOf392
 v50 := Tryz.zeroValue392
 i50 := by kernel_rfl
 t52 := Tryz.underlying314
 a52 := Tryz.isAgg314
 z52 := Tryz.sizeOf314
 v52 := Tryz.zeroValue314
 i52 := by kernel_rfl
 t55 := Tryz.underlying316
 a55 := Tryz.isAgg316
 z55 := Tryz.sizeOf316
 v55 := Tryz.zeroValue316
 i55 := by kernel_rfl
 t59 := Tryz.underlying341
 a59 := Tryz.isAgg341
 z59 := Tryz.sizeOf341
 v59 := Tryz.zeroValue341
 i59 := by kernel_rfl
 t60 := Tryz.underlying154
 a60 := Tryz.isAgg154
 z60 := Tryz.sizeOf154
 v60 := Tryz.zeroValue154
 i60 := by kernel_rfl
 t61 := Tryz.underlying342
 a61 := Tryz.isAgg342
 z61 := Tryz.sizeOf342
 t65 := Tryz.underlying372
 a65 := Tryz.isAgg372
 z65 := Tryz.sizeOf372
 v65 := Tryz.zeroValue372
 i65 := by kernel_rfl
 t66 := Tryz.underlying373
 a66 := Tryz.isAgg373
 z66 := Tryz.sizeOf373
 v66 := Tryz.zeroValue373
 i66 := by kernel_rfl
 t67 := Tryz.underlying114
 a67 := Tryz.isAgg114
 z67 := Tryz.sizeOf114
 v67 := Tryz.zeroValue114
 i67 := by kernel_rfl
 g0 := by kernel_rfl
 m0 := by kernel_rfl
 g1 := by kernel_rfl
 m1 := by kernel_rfl
 g2 := by kernel_rfl
 m2 := by kernel_rfl
 g3 := by kernel_rfl
 m3 := by kernel_rfl
 g4 := by kernel_rfl
 m4 := by kernel_rfl }
open Go.RowKit in
theorem Tryz.strconv_ParseUint_10_at64_ok (s : ByteArray) (hmax : s.size <= 9223372036854775806) (u : Nat) (h : Lib.parseUintB 64 s.data.toList = .ok u) (w : World) :
  Calls Tryz.prog 284 #[.string s, .int .i64 10, .int .i64 64] w fun e w' => e = .returned (.tuple #[.int .u64 u, .nilIface]) /\ (w' = w \/ w' = Lib.bytesWorld w 5 s) := Any.strconv_ParseUint_10_at64_ok Tryz.laysPu14 s hmax u h w
def Tryz.lays146_ren : Go.Shelf.Ren := ⟨fun | 146 => 197 | 221 => 252 | 268 => 279 | 138 => 280 | 143 => 281 | 195 => 302 | 197 => 303 | 218 => 304 | 219 => 305 | 260 => 321 | 217 => 195 | 225 => 322 | 224 => 323 | 267 => 324 | 266 => 251 | 314 => 336 | n => n, fun | 9 => 9 | 31 => 164 | 3 => 3 | 4 => 4 | 0 => 0 | 105 => 352 | 21 => 21 | 5 => 5 | 46 => 254 | 119 => 380 | 139 => 383 | 138 => 382 | 146 => 384 | 51 => 154 | n => n, fun | 1 => 6 | 3 => 15 | 4 => 16 | n => n⟩
theorem Tryz.lays146 : Go.Proofs.Lays.n146 Tryz.prog Tryz.lays146_ren := {
 mixed := by kernel_rfl
 f138 := Tryz.func280.trans (congrArg some (by kernel_rfl))
 f143 := Tryz.func281.trans (congrArg some (by kernel_rfl))
 f146 := Tryz.func197.trans (congrArg some (by kernel_rfl))
 f195 := Tryz.func302.trans (congrArg some (by kernel_rfl))
 f197 := Tryz.func303.trans (congrArg some (by kernel_rfl))
 f217 := Tryz.func195.trans (congrArg some (by kernel_rfl))
 f218 := Tryz.func304.trans (congrArg some (by kernel_rfl))
 f219 := Tryz.func305.trans (congrArg some (by kernel_rfl))
 f221 := Tryz.func252.trans (congrArg some (by kernel_rfl))
 f224 := Tryz.func323.trans (congrArg some (by kernel_rfl))
 f225 := Tryz.func322.trans (congrArg some (by kernel_rfl))
 f260 := Tryz.func321.trans (congrArg some (by kernel_rfl))
 f266 := Tryz.func251.trans (congrArg some (by kernel_rfl))
 f267 := Tryz.func324.trans (congrArg some (by kernel_rfl))
 f268 := Tryz.func279.trans (congrArg some (by kernel_rfl))
 f314 := Tryz.func336.trans (congrArg some (by kernel_rfl))
 t0 := Tryz.underlying0
 a0 := Tryz.isAgg0
 z0 := Tryz.sizeOf0
 v0 := Tryz.zeroValue0
 t3 := Tryz.underlying3
 a3 := Tryz.isAgg3
 z3 := Tryz.sizeOf3
 v3 := Tryz.zeroValue3
 t4 := Tryz.underlying4
 a4 := Tryz.isAgg4
 z4 := Tryz.sizeOf4
 v4 := Tryz.zeroValue4
 t5 := Tryz.underlying5
 a5 := Tryz.isAgg5
 z5 := Tryz.sizeOf5
 v5 := Tryz.zeroValue5
 t9 := Tryz.underlying9
 a9 := Tryz.isAgg9
 z9 := Tryz.sizeOf9
 v9 := Tryz.zeroValue9
 t21 := Tryz.underlying21
 a21 := Tryz.isAgg21
 z21 := Tryz.sizeOf21
 v21 := Tryz.zeroValue21
 t31 := Tryz.underlying164
 a31 := Tryz.isAgg164
 z31 := Tryz.sizeOf164
 v31 := Tryz.zeroValue164
 t46 := Tryz.underlying254
 a46 := Tryz.isAgg254
 z46 := Tryz.sizeOf254
 v46 := Tryz.zeroValue254
 t51 := Tryz.underlying154
 a51 := Tryz.isAgg154
 z51 := Tryz.sizeOf154
 v51 := Tryz.zeroValue154
 t105 := Tryz.underlying352
 a105 := Tryz.isAgg352
 z105 := Tryz.sizeOf352
 v105 := Tryz.zeroValue352
 t119 := Tryz.underlying380
 a119 := Tryz.isAgg380
 z119 := Tryz.sizeOf380
 t138 := Tryz.underlying382
 a138 := Tryz.isAgg382
 z138 := Tryz.sizeOf382
 v138 := Tryz.zeroValue382
 t139 := Tryz.underlying383
 a139 := Tryz.isAgg383
 z139 := Tryz.sizeOf383
 v139 := Tryz.zeroValue383
 t146 := Tryz.underlying384
 a146 := Tryz.isAgg384
 z146 := Tryz.sizeOf384
 v146 := Tryz.zeroValue384
 g1 := by kernel_rfl
 g3 := by kernel_rfl
 g4 := by kernel_rfl }
open Go.RowKit Go.Lib in
theorem Tryz.strings_Split (s sep : ByteArray) (m : Int) (w : World) (hs : s.size < 4294967281) (hm : w.cell? ⟨6, 0, none⟩ = some (.int .i64 m)) (h1 : 1 <= sep.size) :
  Calls Tryz.prog 197 #[.string s, .string sep] w fun e w' =>
   e = .returned (.slice (some ⟨w.heap.size, 0, none⟩) (Lib.countB s sep + 1) (Lib.countB s sep + 1)) /\ w' = w.alloc (.cells ((Lib.splitB sep 0 (Lib.countB s sep) s).map Value.string).toArray 9) := Any.strings_Split Tryz.lays146 (by kernel_rfl) s sep m w hs hm h1
def Tryz.lays152_ren : Go.Shelf.Ren := ⟨fun | 152 => 306 | 137 => 138 | 119 => 325 | 224 => 323 | 225 => 322 | 217 => 195 | 266 => 251 | n => n, fun | 9 => 9 | 21 => 21 | 3 => 3 | 4 => 4 | 5 => 5 | 0 => 0 | 46 => 254 | n => n, fun | n => n⟩
theorem Tryz.lays152 : Go.Proofs.Lays.n152 Tryz.prog Tryz.lays152_ren := {
 mixed := by kernel_rfl
 f119 := Tryz.func325.trans (congrArg some (by kernel_rfl))
 f137 := Tryz.func138.trans (congrArg some (by kernel_rfl))
 f152 := Tryz.func306.trans (congrArg some (by kernel_rfl))
 f217 := Tryz.func195.trans (congrArg some (by kernel_rfl))
 f224 := Tryz.func323.trans (congrArg some (by kernel_rfl))
 f225 := Tryz.func322.trans (congrArg some (by kernel_rfl))
 f266 := Tryz.func251.trans (congrArg some (by kernel_rfl))
 t0 := Tryz.underlying0
 a0 := Tryz.isAgg0
 z0 := Tryz.sizeOf0
 v0 := Tryz.zeroValue0
 t3 := Tryz.underlying3
 a3 := Tryz.isAgg3
 z3 := Tryz.sizeOf3
 v3 := Tryz.zeroValue3
 t4 := Tryz.underlying4
 a4 := Tryz.isAgg4
 z4 := Tryz.sizeOf4
 v4 := Tryz.zeroValue4
 t5 := Tryz.underlying5
 a5 := Tryz.isAgg5
 z5 := Tryz.sizeOf5
 v5 := Tryz.zeroValue5
 t9 := Tryz.underlying9
 a9 := Tryz.isAgg9
 z9 := Tryz.sizeOf9
 v9 := Tryz.zeroValue9
 t21 := Tryz.underlying21
 a21 := Tryz.isAgg21
 z21 := Tryz.sizeOf21
 v21 := Tryz.zeroValue21
 t46 := Tryz.underlying254
 a46 := Tryz.isAgg254
 z46 := Tryz.sizeOf254
 v46 := Tryz.zeroValue254 }
open Go.RowKit Go.Lib in
theorem Tryz.strings_IndexRune_ascii (s : ByteArray) (r : Int) (w : World) (h0 : 0 <= r) (h1 : r < 128) :
  Calls Tryz.prog 306 #[.string s, .int .i32 r] w fun e w' => e = .returned (.int .i64 (Lib.indexByte s.data.toList r.toNat.toUInt8)) /\ w' = w := Any.strings_IndexRune_ascii Tryz.lays152 s r w h0 h1
def Tryz.lays107_ren : Go.Shelf.Ren := ⟨fun | 107 => 82 | 108 => 129 | n => n, fun | 28 => 145 | 3 => 3 | 4 => 4 | 0 => 0 | n => n, fun | n => n⟩
theorem Tryz.lays107 : Go.Proofs.Lays.n107 Tryz.prog Tryz.lays107_ren := {
 mixed := by kernel_rfl
 f107 := Tryz.func82.trans (congrArg some (by kernel_rfl))
 f108 := Tryz.func129.trans (congrArg some (by kernel_rfl))
 t0 := Tryz.underlying0
 a0 := Tryz.isAgg0
 z0 := Tryz.sizeOf0
 v0 := Tryz.zeroValue0
 t3 := Tryz.underlying3
 a3 := Tryz.isAgg3
 z3 := Tryz.sizeOf3
 v3 := Tryz.zeroValue3
 t4 := Tryz.underlying4
 a4 := Tryz.isAgg4
 z4 := Tryz.sizeOf4
 v4 := Tryz.zeroValue4
 t28 := Tryz.underlying145
 a28 := Tryz.isAgg145
 z28 := Tryz.sizeOf145
 v28 := Tryz.zeroValue145 }
open Go.Lib in
theorem Tryz.slices_Contains_int (b off n c : Nat) (zs : List Int) (x : Int) (w : World) (hz : n <= zs.length) (hbig : n <= 9223372036854775807) (hc : ∀ j, j < zs.length -> w.cell? ⟨b, off + j, none⟩ = some (.int .i64 (zs.getD j 0))) :
  Calls Tryz.prog 82 #[.slice (some ⟨b, off, none⟩) n c, .int .i64 x] w fun e w' => e = .returned (.bool ((zs.take n).contains x)) /\ w' = w := Any.slices_Contains_int Tryz.lays107 b off n c zs x w hz hbig hc
def Tryz.laysSlK4_ren : Go.Shelf.Ren := ⟨fun | 4 => 28 | n => n, fun | 22 => 22 | 4 => 4 | 5 => 5 | n => n, fun | n => n⟩
theorem Tryz.laysSlK4 : Go.Proofs.SlLaysK.n4 Tryz.prog Tryz.laysSlK4_ren := {
 mixed := by kernel_rfl
 f4 := Tryz.func28.trans (congrArg some (by kernel_rfl))
 t4 := Tryz.underlying4
 a4 := Tryz.isAgg4
 z4 := Tryz.sizeOf4
 v4 := Tryz.zeroValue4
 t22 := Tryz.underlying22
 a22 := Tryz.isAgg22
 z22 := Tryz.sizeOf22
 v22 := Tryz.zeroValue22
 t5 := Tryz.underlying5
 i5 := by kernel_rfl }
open Go.RowKit Go.Lib in
theorem Tryz.bytes_Clone_at (a : Addr) (n c : Nat) (xs : List Int) (w : World) (hx : xs.length = n) (hbig : n <= 140737488355328) (hc : ∀ i, i < n -> w.cell? (a.add i) = some (.int .u8 (xs.getD i 0))) :
  Calls Tryz.prog 28 #[.slice (some a) n c] w fun e w' => ∃ v', e = .returned v' /\ w'.ownsRow w.heap.size 5 1 v' n (xs.map (Value.int .u8)) /\ v' ≠ .slice none 0 0 /\ Below w.heap.size w w' := Any.bytes_Clone_at Tryz.laysSlK4 a n c xs w hx hbig hc
open Go.RowKit Go.Lib in
theorem Tryz.bytes_Clone_nil (n c : Nat) (w : World) :
  Calls Tryz.prog 28 #[.slice none n c] w fun e w' => e = .returned (.slice none 0 0) /\ w' = w := Any.bytes_Clone_nil Tryz.laysSlK4 n c w
def Tryz.laysnb115_ren : Go.Shelf.Ren := ⟨fun | 115 => 126 | n => n, fun | 37 => 22 | 4 => 4 | 9 => 9 | 5 => 5 | n => n, fun | n => n⟩
theorem Tryz.laysnb115 : Go.Proofs.Lays.nb115 Tryz.prog Tryz.laysnb115_ren := {
 mixed := by kernel_rfl
 f115 := Tryz.func126.trans (congrArg some (by kernel_rfl))
 t4 := Tryz.underlying4
 a4 := Tryz.isAgg4
 z4 := Tryz.sizeOf4
 v4 := Tryz.zeroValue4
 t9 := Tryz.underlying9
 a9 := Tryz.isAgg9
 z9 := Tryz.sizeOf9
 v9 := Tryz.zeroValue9
 t37 := Tryz.underlying22
 a37 := Tryz.isAgg22
 z37 := Tryz.sizeOf22
 v37 := Tryz.zeroValue22
 t5 := Tryz.underlying5
 a5 := Tryz.isAgg5
 z5 := Tryz.sizeOf5
 v5 := Tryz.zeroValue5 }
theorem Tryz.bytes_Equal_all (p1 p2 : Option Addr) (n c m d : Nat) (xs ys : List Int) (w : World) (hx : xs.length = n) (hy : ys.length = m) (h1 : Lib.BytesIn w p1 n xs) (h2 : Lib.BytesIn w p2 m ys) :
  Calls Tryz.prog 126 #[.slice p1 n c, .slice p2 m d] w fun e w' => e = .returned (.bool (Lib.bytesOf xs == Lib.bytesOf ys)) /\ w' = w := Any.bytes_Equal_all Tryz.laysnb115 p1 p2 n c m d xs ys w hx hy h1 h2
end Go.Proofs
end
namespace Go.Proofs.YtdobjciaikofdaaGreatDoor
section
open Go.RowKit Go.Shelf Bt
attribute [local go_sem] vals_get? vals_get vals_size rowAt_at rowAt_past hasRow_at hasRow_past run_loadRow run_storeCells_row setRow_at setRow_past lt_s2 lt_s3 lt_s4 lt_s5 lt_s6
attribute [local go_sem ↓] loadRow_is
theorem contains_rates (b rate : Nat) (hr : rate ∈ [72, 104, 136, 144, 168]) (w : World) {t : TypeId} (h : w.heap[b]? = some (.cells #[.int .i64 72, .int .i64 104, .int .i64 136, .int .i64 144, .int .i64 168] t (0, 0))) :
  Calls Tryz.prog 82 #[.slice (some ⟨b, 0, none⟩) 5 5, .int .i64 rate] w fun e w' => e = .returned (.bool true) /\ w' = w := by
 have := Tryz.slices_Contains_int b 0 5 5 [72, 104, 136, 144, 168] rate w (by simp) (by omega) (fun j hj => by
  rw [Nat.zero_add, cell_of_row w b j _ t (0, 0) h]
  match j, hj with
  | 0, _ | 1, _ | 2, _ | 3, _ | 4, _ => rfl)
 rw [show (([72, 104, 136, 144, 168] : List Int).take 5).contains (rate : Int) = true by simp at hr ⊢; omega] at this
 exact this
theorem contains_sufs (b suf : Nat) (hs : suf ∈ [4, 6, 31]) (w : World) {t : TypeId} (h : w.heap[b]? = some (.cells #[.int .i64 4, .int .i64 6, .int .i64 31] t (0, 0))) :
  Calls Tryz.prog 82 #[.slice (some ⟨b, 0, none⟩) 3 3, .int .i64 suf] w fun e w' => e = .returned (.bool true) /\ w' = w := by
 have := Tryz.slices_Contains_int b 0 3 3 [4, 6, 31] suf w (by simp) (by omega) (fun j hj => by
  rw [Nat.zero_add, cell_of_row w b j _ t (0, 0) h]
  match j, hj with
  | 0, _ | 1, _ | 2, _ => rfl)
 rw [show (([4, 6, 31] : List Int).take 3).contains (suf : Int) = true by simp at hs ⊢; omega] at this
 exact this
def buildI (t : TypeId) (p : Array (Nat × Value)) : Sem Value := Instr.build t p
theorem build_is (t : TypeId) (p : Array (Nat × Value)) : Instr.build t p = buildI t p := by unfold buildI; rfl
theorem build_sp (rate suf at_ : Nat) (a : Nat -> Nat) (rd : Bool) (w : World) : (buildI 127 #[(0, .int .i64 rate), (1, .int .i64 suf), (2, .agg (vals .u64 25 (fun j => (a j : Int)))), (3, .int .i64 at_), (4, .bool rd)]).run Tryz.prog w = .ok (.agg (spC ⟨rate, suf, a, at_, rd⟩)) w := by kernel_rfl
section
attribute [local go_sem ↓] build_is
set_option maxRecDepth 100000 in
set_option maxHeartbeats 2000000 in
theorem from_w (rate suf : Nat) (hr : rate ∈ [72, 104, 136, 144, 168]) (hs : suf ∈ [4, 6, 31]) (a : Nat -> Nat) (at_ : Nat) (rd : Bool) (hat : at_ < rate) (w : World) :
  Calls Tryz.prog 38 #[.int .i64 rate, .int .i64 suf, .agg (vals .u64 25 (fun j => (a j : Int))), .int .i64 at_, .bool rd] w fun e w' => ∃ nb, e = .returned (.tuple #[.pointer (some ⟨nb, 0, none⟩), .int .i64 0]) /\ w.heap.size <= nb /\ Sp w' nb ⟨rate, suf, a, at_, rd⟩ /\ Below w.heap.size w w' := by
 have C1 : Hid (∀ (b : Nat) (W : World) (t : TypeId), W.heap[b]? = some (.cells #[.int .i64 72, .int .i64 104, .int .i64 136, .int .i64 144, .int .i64 168] t (0, 0)) -> Calls Tryz.prog 82 #[.slice (some ⟨b, 0, none⟩) 5 5, .int .i64 rate] W fun e w' => e = .returned (.bool true) /\ w' = W) := Lib.hid fun b W t h => contains_rates b rate hr W h
 have C2 : Hid (∀ (b : Nat) (W : World) (t : TypeId), W.heap[b]? = some (.cells #[.int .i64 4, .int .i64 6, .int .i64 31] t (0, 0)) -> Calls Tryz.prog 82 #[.slice (some ⟨b, 0, none⟩) 3 3, .int .i64 suf] W fun e w' => e = .returned (.bool true) /\ w' = W) := Lib.hid fun b W t h => contains_sufs b suf hs W h
 have hb := build_sp rate suf at_ a rd
 have h1 : ¬ ((at_ : Int) < 0) := by omega
 have h2 : ¬ ((rate : Int) < (at_ : Int)) := by omega
 have h3 : ¬ ((at_ : Int) = (rate : Int)) := by omega
 clear hr hs hat
 go_enter Tryz.func38, Tryz.ntmps38
 go_wp2_with (first | (go_at_call 82; (with_reducible refine (C1.out _ _ _ (heap_at _ _ _ ?hsz)).mono ?_); (case hsz => simp); rintro e w1 ⟨rfl, rfl⟩) | (go_at_call 82; (with_reducible refine (C2.out _ _ _ (heap_at _ _ _ ?hsz)).mono ?_); (case hsz => simp); rintro e w1 ⟨rfl, rfl⟩))
 go_ret2
 exact ⟨_, rfl, by omega, ⟨_, _, heap_at _ _ _ (by simp), Nat.le_refl _⟩, bl_alloc (bl_alloc (bl_alloc (bl_alloc (bl_refl w))))⟩
end
theorem new_w (rate suf : Nat) (hr : rate ∈ [72, 104, 136, 144, 168]) (hs : suf ∈ [4, 6, 31]) (w : World) :
  Calls Tryz.prog 62 #[.int .i64 rate, .int .i64 suf] w fun e w' => ∃ nb, e = .returned (.tuple #[.pointer (some ⟨nb, 0, none⟩), .int .i64 0]) /\ w.heap.size <= nb /\ Sp w' nb ⟨rate, suf, fun _ => 0, 0, false⟩ /\ Below w.heap.size w w' := by
 have CF : Hid (∀ W : World, Calls Tryz.prog 38 #[.int .i64 rate, .int .i64 suf, .agg #[.int .u64 0, .int .u64 0, .int .u64 0, .int .u64 0, .int .u64 0, .int .u64 0, .int .u64 0, .int .u64 0, .int .u64 0, .int .u64 0, .int .u64 0, .int .u64 0, .int .u64 0, .int .u64 0, .int .u64 0, .int .u64 0, .int .u64 0, .int .u64 0, .int .u64 0, .int .u64 0, .int .u64 0, .int .u64 0, .int .u64 0, .int .u64 0, .int .u64 0], .int .i64 0, .bool false] W fun e w' => ∃ nb, e = .returned (.tuple #[.pointer (some ⟨nb, 0, none⟩), .int .i64 0]) /\ W.heap.size <= nb /\ Sp w' nb ⟨rate, suf, fun _ => 0, 0, false⟩ /\ Below W.heap.size W w') := Lib.hid fun W => from_w rate suf hr hs (fun _ => 0) 0 false (by simp at hr; omega) W
 clear hr hs
 go_enter Tryz.func62, Tryz.ntmps62
 go_wp2_with (go_at_call 38; (with_reducible refine (CF.out _).mono ?_); rintro e w1 ⟨nb, rfl, hn, hS, hB⟩)
 go_ret2
 exact ⟨nb, rfl, hn, hS, hB⟩
end
section
open Go.RowKit Go.Shelf
theorem run_und {t : TypeId} {d : TypeDesc} {w : World} (h : Tryz.prog.underlying t = some d) : (underlying t).run Tryz.prog w = .ok d w := by
 show (Sem.run Tryz.prog (program >>= fun p => match p.underlying t with | some d => pure d | none => stuck _) w) = _
 simp only [program, Sem.run_bind, Sem.run, Result.andThen, h]
 rfl
theorem run_checkKey {kt : TypeId} {K k : IntKind} {x : Int} {w : World} (hk : Tryz.prog.underlying kt = some (.int K)) (e : Bool) (n : Nat) : (Instr.checkKey e (n + 1) kt (.int k x)).run Tryz.prog w = .ok () w := by
 unfold Instr.checkKey
 simp [go_sem, run_und hk]
theorem run_getMap {b clock : Nat} {es : Array MapEntry} {w : World} (hw : w.heap[b]? = some (.map es clock)) : (getObj b).run Tryz.prog w = .ok (.map es clock) w := by
 simp [getObj, go_sem, hw, Sem.run]
theorem run_setMap {b clock : Nat} {es : Array MapEntry} {w : World} (o : Obj) (hw : w.heap[b]? = some (.map es clock)) : (setObj b o).run Tryz.prog w = .ok () (w.putObj b o) := by
 simp [setObj, go_sem, hw, Sem.run, World.putObj]
theorem run_findKey {kt : TypeId} {K : IntKind} {key : Int} {l : List MapEntry} {r : Option (Nat × Value)} {w : World} (hk : Tryz.prog.underlying kt = some (.int K)) (hf : Instr.findNow (.int K) (.int .i64 key) l 0 = some r) : (Instr.findKey kt (.int .i64 key) l).run Tryz.prog w = .ok r w := by
 unfold Instr.findKey
 simp [go_sem, run_und hk, hf]
theorem run_mapUpdate_new {T kt et : TypeId} {K : IntKind} {b clock : Nat} {es : Array MapEntry} {key : Int} {v : Value} {w : World} (hT : Tryz.prog.underlying T = some (.map kt et)) (hk : Tryz.prog.underlying kt = some (.int K))
  (hw : w.heap[b]? = some (.map es clock)) (hf : Instr.findNow (.int K) (.int .i64 key) es.toList 0 = some none) :
  (Instr.mapUpdate T (.map (some b)) (.int .i64 key) v).run Tryz.prog w = .ok () (w.putObj b (.map (es.push ⟨.int .i64 key, v, clock⟩) (clock + 1))) := by
 obtain ⟨n, hn⟩ : ∃ n, 10000 = n + 1 := ⟨9999, rfl⟩
 unfold Instr.mapUpdate
 rw [hn]
 simp [go_sem, run_und hT, run_getMap hw, run_checkKey hk, run_findKey hk hf, run_setMap _ hw]
theorem run_lookup_hit {T kt et : TypeId} {K : IntKind} {b clock : Nat} {es : Array MapEntry} {key : Int} {i : Nat} {v : Value} {w : World} {ok : Bool} (hT : Tryz.prog.underlying T = some (.map kt et)) (hk : Tryz.prog.underlying kt = some (.int K))
  (hw : w.heap[b]? = some (.map es clock)) (hf : Instr.findNow (.int K) (.int .i64 key) es.toList 0 = some (some (i, v))) :
  (Instr.lookup T (.map (some b)) (.int .i64 key) ok).run Tryz.prog w = .ok (if ok then .tuple #[v, .bool true] else v) w := by
 obtain ⟨n, hn⟩ : ∃ n, 10000 = n + 1 := ⟨9999, rfl⟩
 unfold Instr.lookup
 rw [hn]
 simp [go_sem, run_und hT, run_getMap hw, run_checkKey hk, run_findKey hk hf]
end
section
open Go.RowKit Go.Shelf Bt
attribute [local go_sem] vals_get? vals_get vals_size rowAt_at rowAt_past hasRow_at hasRow_past run_loadRow run_storeCells_row setRow_at setRow_past lt_s2 lt_s3 lt_s4 lt_s5 lt_s6
structure TabR (w : World) : Prop where
 c0 : w.cell? ⟨1, 0, none⟩ = some (.int .i64 128)
 c1 : w.cell? ⟨1, 1, none⟩ = some (.int .i64 168)
 c2 : w.cell? ⟨1, 2, none⟩ = some (.int .i64 256)
 c3 : w.cell? ⟨1, 3, none⟩ = some (.int .i64 136)
theorem TabR.grown {w w1 : World} {r : Option Nat} (h : TabR w) (hg : w.grownBy w1 r) (hr : some 1 ≠ r) : TabR w1 :=
 ⟨cell_keep h.c0 hg hr, cell_keep h.c1 hg hr, cell_keep h.c2 hg hr, cell_keep h.c3 hg hr⟩
def bitsC (r : Nat) : Nat := [128, 256].getD r 0
def rateC (r : Nat) : Nat := [168, 136].getD r 0
theorem ix_rates0 (w : World) : (Instr.index 181 (.agg #[.int .i64 128, .int .i64 168, .int .i64 256, .int .i64 136]) (.int .i64 0)).run Tryz.prog w = .ok (.agg #[.int .i64 128, .int .i64 168]) w := by kernel_rfl
theorem ix_rates1 (w : World) : (Instr.index 181 (.agg #[.int .i64 128, .int .i64 168, .int .i64 256, .int .i64 136]) (.int .i64 1)).run Tryz.prog w = .ok (.agg #[.int .i64 256, .int .i64 136]) w := by kernel_rfl
attribute [local go_sem] ix_rates0 ix_rates1
def esR : Nat -> Array MapEntry
 | 0 => #[]
 | 1 => #[⟨.int .i64 168, .int .i64 128, 0⟩]
 | _ => #[⟨.int .i64 168, .int .i64 128, 0⟩, ⟨.int .i64 136, .int .i64 256, 1⟩]
theorem below_putObj {B b : Nat} {w w1 : World} (h : Below B w w1) (hb : B <= b) (o : Obj) : Below B w (w1.putObj b o) :=
 ⟨h.os, h.tape, h.output, by rw [World.putObj_size]; exact h.size, fun k hk => by rw [World.putObj_heap_other (by omega)]; exact h.block k hk⟩
set_option maxRecDepth 100000 in
set_option maxHeartbeats 2000000 in
theorem prefix_w (r : Nat) (hr : r < 2) (a1 a2 : Option Addr) (c1 c2 : Nat) (w : World) (hT : TabR w) :
  Calls Tryz.prog 104 #[.int .i64 (rateC r : Nat), nmV a1 c1 a2 c2] w fun e w' => e = .returned (.tuple #[.slice none 0 0, .bool false]) /\ Below w.heap.size w w' := by
 obtain ⟨q0, q1, q2, q3⟩ := hT
 have hlt := cell_lt q0
 have hlt2 : 1 < w.heap.size + 1 := by omega
 have hm := @run_makeMap Tryz.prog
 have CR : Hid (∀ W : World, Calls Tryz.prog 58 #[.agg #[.slice a1 0 c1, .slice a2 0 c2]] W fun e w' => e = .returned (.bool true) /\ Below W.heap.size W w') := Lib.hid (right_w a1 a2 c1 c2)
 have CE : Hid (∀ W : World, Calls Tryz.prog 130 #[.agg #[.slice a1 0 c1, .slice a2 0 c2]] W fun e w' => e = .returned (.bool true) /\ Below W.heap.size W w') := Lib.hid (empty_w a1 a2 c1 c2)
 unfold nmV
 go_enter Tryz.func104, Tryz.ntmps104
 go_wp2
 clear hm q0 q1 q2 q3
 go_loopw [11] (fun i wr => ∃ k : Nat, k <= 2 /\ i = .int .i64 k /\ Hid (wr.heap[w.heap.size + 1]? = some (.map (esR k) k) /\ wr.heap[w.heap.size]? = some (.cells #[.slice a1 0 c1, .slice a2 0 c2] 29 (0, 0)) /\ Below w.heap.size w wr)) (fun i _ => 2 - (intOf i).toNat)
 case atStart => exact ⟨0, by omega, rfl, Lib.hid ⟨heap_at _ _ _ (by simp), heap_past _ _ _ _ (by simp) (heap_at _ _ _ rfl), bl_alloc (bl_alloc (bl_refl w))⟩⟩
 case round =>
  obtain ⟨k, hk, rfl, HI⟩ := hrel
  have hl1 : w.heap.size + 1 < wr.heap.size := (Array.getElem?_eq_some_iff.1 HI.out.1).1
  obtain rfl | rfl | rfl : k = 0 \/ k = 1 \/ k = 2 := by omega
  ·have hu := run_mapUpdate_new (T := 249) (v := .int .i64 128) (key := 168) Tryz.underlying249 Tryz.underlying3 (heap_past wr (.cells #[.int .i64 128, .int .i64 168] 180) _ _ hl1 HI.out.1) (by rfl)
   go_wp2
   go_roundw
   case rel => exact ⟨1, by omega, by go_num, Lib.hid ⟨by rw [World.putObj_heap_same (by simp; omega)]; rfl, by rw [World.putObj_heap_other (by omega), Below.heap_alloc _ _ _ (by omega)]; exact HI.out.2.1, below_putObj (bl_alloc HI.out.2.2) (by omega) _⟩⟩
   case measure => simp [intOf]
  ·have hu := run_mapUpdate_new (T := 249) (v := .int .i64 256) (key := 136) Tryz.underlying249 Tryz.underlying3 (heap_past wr (.cells #[.int .i64 256, .int .i64 136] 180) _ _ hl1 HI.out.1) (by rfl)
   go_wp2
   go_roundw
   case rel => exact ⟨2, by omega, by go_num, Lib.hid ⟨by rw [World.putObj_heap_same (by simp; omega)]; rfl, by rw [World.putObj_heap_other (by omega), Below.heap_alloc _ _ _ (by omega)]; exact HI.out.2.1, below_putObj (bl_alloc HI.out.2.2) (by omega) _⟩⟩
   case measure => simp [intOf]
  ·have B0 := Lib.hid HI.out.2.2
   have k0 := cell_of_row wr w.heap.size 0 _ _ _ HI.out.2.1
   have k1 := cell_of_row wr w.heap.size 1 _ _ _ HI.out.2.1
   obtain rfl | rfl : r = 0 \/ r = 1 := by omega
   ·have e0 : ((rateC 0 : Nat) : Int) = 168 := rfl
    have hu := run_lookup_hit (T := 249) (v := .int .i64 128) (key := 168) (ok := false) Tryz.underlying249 Tryz.underlying3 HI.out.1 (i := 0) (by rfl)
    go_wp2_with (first | (go_at_call 58; (with_reducible refine (CR.out _).mono ?_); rintro e w1 ⟨rfl, hB1⟩; have z0 := (hB1.cell (p := ⟨w.heap.size, 0, none⟩) (cell_lt k0)).trans k0; have z1 := (hB1.cell (p := ⟨w.heap.size, 1, none⟩) (cell_lt k0)).trans k1; have hB1 := Lib.hid hB1) | (go_at_call 130; (with_reducible refine (CE.out _).mono ?_); rintro e w2 ⟨rfl, hB2⟩))
    go_ret2
    exact ⟨rfl, bl_call (bl_call B0.out hB1.out) hB2⟩
   ·have e0 : ((rateC 1 : Nat) : Int) = 136 := rfl
    have hu := run_lookup_hit (T := 249) (v := .int .i64 256) (key := 136) (ok := false) Tryz.underlying249 Tryz.underlying3 HI.out.1 (i := 1) (by rfl)
    go_wp2_with (first | (go_at_call 58; (with_reducible refine (CR.out _).mono ?_); rintro e w1 ⟨rfl, hB1⟩; have z0 := (hB1.cell (p := ⟨w.heap.size, 0, none⟩) (cell_lt k0)).trans k0; have z1 := (hB1.cell (p := ⟨w.heap.size, 1, none⟩) (cell_lt k0)).trans k1; have hB1 := Lib.hid hB1) | (go_at_call 130; (with_reducible refine (CE.out _).mono ?_); rintro e w2 ⟨rfl, hB2⟩))
    go_ret2
    exact ⟨rfl, bl_call (bl_call B0.out hB1.out) hB2⟩
theorem cell_past {w : World} {o : Obj} {b off : Nat} (h : b < w.heap.size) : (w.alloc o).cell? ⟨b, off, none⟩ = w.cell? ⟨b, off, none⟩ := World.cell?_of_block (Below.heap_alloc w o b h)
theorem rate_mem {r : Nat} (hr : r < 2) : rateC r ∈ [72, 104, 136, 144, 168] := by
 obtain rfl | rfl : r = 0 \/ r = 1 := by omega
 ·decide
 ·decide
set_option maxRecDepth 100000 in
set_option maxHeartbeats 2000000 in
theorem cnew_w (r : Nat) (hr : r < 2) (a1 a2 : Option Addr) (c1 c2 : Nat) (w : World) (hT : TabR w) :
  Calls Tryz.prog 60 #[.int .i64 (bitsC r : Nat), nmV a1 c1 a2 c2] w fun e w' => ∃ nb, e = .returned (.tuple #[.pointer (some ⟨nb, 0, none⟩), .int .i64 0]) /\ w.heap.size <= nb /\ Sp w' nb ⟨rateC r, 31, fun _ => 0, 0, false⟩ /\ Below w.heap.size w w' := by
 have HT : Hid (∀ {w' : World}, Below w.heap.size w w' -> TabR w') := Lib.hid fun hB => hT.grown (gb_below (r := none) hB) (by simp)
 obtain ⟨q0, q1, q2, q3⟩ := hT
 have hlt := cell_lt q0
 have hlt2 : 1 < w.heap.size + 1 := by omega
 have CR : Hid (∀ W : World, Calls Tryz.prog 58 #[.agg #[.slice a1 0 c1, .slice a2 0 c2]] W fun e w' => e = .returned (.bool true) /\ Below W.heap.size W w') := Lib.hid (right_w a1 a2 c1 c2)
 have CS : Hid (∀ W : World, Calls Tryz.prog 84 #[.agg #[.slice a1 0 c1, .slice a2 0 c2]] W fun e w' => e = .returned (.int .i64 31) /\ Below W.heap.size W w') := Lib.hid (suffix_w a1 a2 c1 c2)
 have CN : Hid (∀ W : World, Calls Tryz.prog 62 #[.int .i64 (rateC r : Nat), .int .i64 31] W fun e w' => ∃ nb, e = .returned (.tuple #[.pointer (some ⟨nb, 0, none⟩), .int .i64 0]) /\ W.heap.size <= nb /\ Sp w' nb ⟨rateC r, 31, fun _ => 0, 0, false⟩ /\ Below W.heap.size W w') := Lib.hid fun W => new_w (rateC r) 31 (rate_mem hr) (by decide) W
 have CP : Hid (∀ W : World, TabR W -> Calls Tryz.prog 104 #[.int .i64 (rateC r : Nat), .agg #[.slice a1 0 c1, .slice a2 0 c2]] W fun e w' => e = .returned (.tuple #[.slice none 0 0, .bool false]) /\ Below W.heap.size W w') := Lib.hid (prefix_w r hr a1 a2 c1 c2)
 unfold nmV
 go_enter Tryz.func60, Tryz.ntmps60
 go_wp2
 clear q0 q1 q2 q3
 go_loopw [13] (fun i wr => ∃ k : Nat, k <= r /\ i = .int .i64 k /\ Hid (wr.heap[w.heap.size]? = some (.cells #[.slice a1 0 c1, .slice a2 0 c2] 29 (0, 0)) /\ Below w.heap.size w wr)) (fun i _ => 2 - (intOf i).toNat)
 case atStart => exact ⟨0, by omega, rfl, Lib.hid ⟨heap_at _ _ _ rfl, bl_alloc (bl_refl w)⟩⟩
 case round =>
  obtain ⟨k, hk, rfl, HI⟩ := hrel
  have hl1 : w.heap.size < wr.heap.size := (Array.getElem?_eq_some_iff.1 HI.out.1).1
  have hl2 : w.heap.size < wr.heap.size + 1 := by omega
  have k0 := cell_of_row wr w.heap.size 0 _ _ _ HI.out.1
  have k1 := cell_of_row wr w.heap.size 1 _ _ _ HI.out.1
  obtain ⟨rfl, rfl⟩ | ⟨rfl, rfl⟩ | ⟨rfl, rfl⟩ : k = 0 /\ r = 0 \/ k = 0 /\ r = 1 \/ k = 1 /\ r = 1 := by omega
  ·have e0 : ((rateC 0 : Nat) : Int) = 168 := rfl
   have e1 : ((bitsC 0 : Nat) : Int) = 128 := rfl
   rw [e0] at CN CP
   have y := cell_of_row (wr.alloc (.cells #[.int .i64 128, .int .i64 168] 180)) wr.heap.size 1 _ _ _ (heap_at _ _ _ rfl)
   have B0 := Lib.hid HI.out.2
   go_wp2_with (go_at_call 58; (with_reducible refine (CR.out _).mono ?_); rintro e w1 ⟨rfl, hB1⟩; have z0 := (hB1.cell (p := ⟨w.heap.size, 0, none⟩) (by simp; omega)).trans ((cell_past (o := .cells #[.int .i64 128, .int .i64 168] 180) hl1).trans k0); have z1 := (hB1.cell (p := ⟨w.heap.size, 1, none⟩) (by simp; omega)).trans ((cell_past (o := .cells #[.int .i64 128, .int .i64 168] 180) hl1).trans k1); have z2 := (hB1.cell (p := ⟨wr.heap.size, 1, none⟩) (by simp)).trans y; have B1 : Hid (Below w.heap.size w w1) := Lib.hid (bl_call (bl_alloc B0.out) hB1); clear hB1)
   have l1 := cell_lt z0
   have l2 := cell_lt z2
   clear y k0 k1 HI hl1 hl2
   go_region_with (first | (go_at_call 84; (with_reducible refine (CS.out _).mono ?_); rintro e w2 ⟨rfl, hB2⟩; have x0 := (hB2.cell (p := ⟨w.heap.size, 0, none⟩) l1).trans z0; have x1 := (hB2.cell (p := ⟨w.heap.size, 1, none⟩) l1).trans z1; have x2 := (hB2.cell (p := ⟨wr.heap.size, 1, none⟩) l2).trans z2; have B2 : Hid (Below w.heap.size w w2) := Lib.hid (bl_call (bl_drew B1.out) hB2); clear hB2) | (go_at_call 62; (with_reducible refine (CN.out _).mono ?_); rintro e w3 ⟨nb, rfl, hn, hS, hB3⟩; have u0 := (hB3.cell (p := ⟨w.heap.size, 0, none⟩) (cell_lt x0)).trans x0; have u1 := (hB3.cell (p := ⟨w.heap.size, 1, none⟩) (cell_lt x0)).trans x1; have u2 := (hB3.cell (p := ⟨wr.heap.size, 1, none⟩) (cell_lt x2)).trans x2; have hn2 := Lib.hid (Nat.le_trans B2.out.size hn); have B3 : Hid (Below w.heap.size w w3) := Lib.hid (bl_call B2.out hB3); have hS := Lib.hid hS; clear hB3 hn))
   all_goals
    go_wp2_with (go_at_call 104; (with_reducible refine (CP.out _ (HT.out B3.out)).mono ?_); rintro e w4 ⟨rfl, hB4⟩)
    go_ret2
    exact ⟨nb, rfl, hn2.out, hS.out.below (Nat.le_refl _) hB4, bl_call B3.out hB4⟩
  ·have e1 : ((bitsC 1 : Nat) : Int) = 256 := rfl
   have B0 := Lib.hid HI.out.2
   go_wp2
   go_roundw
   case rel => exact ⟨1, by omega, by go_num, Lib.hid ⟨heap_past _ _ _ _ hl1 HI.out.1, bl_alloc B0.out⟩⟩
   case measure => simp [intOf]
  ·have e0 : ((rateC 1 : Nat) : Int) = 136 := rfl
   have e1 : ((bitsC 1 : Nat) : Int) = 256 := rfl
   rw [e0] at CN CP
   have y := cell_of_row (wr.alloc (.cells #[.int .i64 256, .int .i64 136] 180)) wr.heap.size 1 _ _ _ (heap_at _ _ _ rfl)
   have B0 := Lib.hid HI.out.2
   go_wp2_with (go_at_call 58; (with_reducible refine (CR.out _).mono ?_); rintro e w1 ⟨rfl, hB1⟩; have z0 := (hB1.cell (p := ⟨w.heap.size, 0, none⟩) (by simp; omega)).trans ((cell_past (o := .cells #[.int .i64 256, .int .i64 136] 180) hl1).trans k0); have z1 := (hB1.cell (p := ⟨w.heap.size, 1, none⟩) (by simp; omega)).trans ((cell_past (o := .cells #[.int .i64 256, .int .i64 136] 180) hl1).trans k1); have z2 := (hB1.cell (p := ⟨wr.heap.size, 1, none⟩) (by simp)).trans y; have B1 : Hid (Below w.heap.size w w1) := Lib.hid (bl_call (bl_alloc B0.out) hB1); clear hB1)
   have l1 := cell_lt z0
   have l2 := cell_lt z2
   clear y k0 k1 HI hl1 hl2
   go_region_with (first | (go_at_call 84; (with_reducible refine (CS.out _).mono ?_); rintro e w2 ⟨rfl, hB2⟩; have x0 := (hB2.cell (p := ⟨w.heap.size, 0, none⟩) l1).trans z0; have x1 := (hB2.cell (p := ⟨w.heap.size, 1, none⟩) l1).trans z1; have x2 := (hB2.cell (p := ⟨wr.heap.size, 1, none⟩) l2).trans z2; have B2 : Hid (Below w.heap.size w w2) := Lib.hid (bl_call (bl_drew B1.out) hB2); clear hB2) | (go_at_call 62; (with_reducible refine (CN.out _).mono ?_); rintro e w3 ⟨nb, rfl, hn, hS, hB3⟩; have u0 := (hB3.cell (p := ⟨w.heap.size, 0, none⟩) (cell_lt x0)).trans x0; have u1 := (hB3.cell (p := ⟨w.heap.size, 1, none⟩) (cell_lt x0)).trans x1; have u2 := (hB3.cell (p := ⟨wr.heap.size, 1, none⟩) (cell_lt x2)).trans x2; have hn2 := Lib.hid (Nat.le_trans B2.out.size hn); have B3 : Hid (Below w.heap.size w w3) := Lib.hid (bl_call B2.out hB3); have hS := Lib.hid hS; clear hB3 hn))
   all_goals
    go_wp2_with (go_at_call 104; (with_reducible refine (CP.out _ (HT.out B3.out)).mono ?_); rintro e w4 ⟨rfl, hB4⟩)
    go_ret2
    exact ⟨nb, rfl, hn2.out, hS.out.below (Nat.le_refl _) hB4, bl_call B3.out hB4⟩
end
end Go.Proofs.YtdobjciaikofdaaGreatDoor
