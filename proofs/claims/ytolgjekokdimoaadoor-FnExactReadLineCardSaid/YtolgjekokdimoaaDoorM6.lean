/-
  Part 6 of the proof of FnExactReadLine: a verification-condition generator over the program and the contracts of its functions, in the order of their use.
  Conditions: none.
-/
import Derived.Test.YtolgjekokdimoaaDoorM5
import Derived.Test.YtolgjekokdimoaaDoorChecked
import Derived.Lib.Builder
import Derived.Lib.AppendStr
import Derived.Lib.UnsafeStr
import Derived.WalkKit
import Derived.OwnWalk
import Derived.Laws.Externs
import Derived.Shelf.Strings.Builder1
import Derived.Shelf.Strings.Builder2
import Derived.Shelf.Strings.BuilderF
import Derived.Shelf.Utf8.RuneCount
import Derived.Shelf.Strconv.Atoi
import Derived.Shelf.Strconv.Itoa0
import Derived.Shelf.Strconv.Itoa1
import Derived.Shelf.LaysM
import Derived.Shelf.Strconv.Itoa2
import Derived.Shelf.Strconv.Itoa3
import Derived.Shelf.Strconv.AtoiErrFast
import Derived.Shelf.Strconv.ParseIntEmpty
import Derived.Shelf.Strconv.AtoiFail
import Derived.Shelf.Strconv.Clone
import Derived.Shelf.Strconv.SyntaxError
import Derived.Shelf.LaysC
import Derived.Shelf.Strconv.ToError
import Derived.Shelf.Strconv.Lower
import Derived.Shelf.Strconv.ParseUint10
import Derived.Shelf.Strconv.ParseUint10Empty
import Derived.Shelf.Strconv.ParseUint10Any
import Derived.Shelf.Strconv.ParseInt10
import Derived.Shelf.Strconv.AtoiLong
import Derived.Shelf.Strconv.AtoiInnerAll
import Derived.Shelf.Strconv.RangeError
import Derived.Shelf.Strconv.ToErrorRange
import Derived.Shelf.Strconv.AtoiAll
import Derived.Shelf.Strconv.ErrVarAll
import Derived.Shelf.Strings.Search1
import Derived.Shelf.Strings.Search2
import Derived.Shelf.Strings.Search3
import Derived.Shelf.Strings.Count
import Derived.Shelf.Strings.Shaped
import Derived.Shelf.Strings.Prefix
import Derived.Shelf.Strings.Split
import Derived.Shelf.Strings.SplitShaped
import Derived.Shelf.Unicode.Decode
import Derived.Shelf.Strings.RuneCount
import Derived.Shelf.Strings.Explode
import Derived.Shelf.Bits.Mul64
import Derived.Shelf.Strings.Repeat
import Derived.Shelf.Unicode.DecodeSlow
import Derived.Shelf.Unicode.DecodeAny
import Derived.Test.YtolgjekokdimoaaDoorProg
import Derived.Lib.Split
set_option linter.unusedVariables false
set_option linter.unusedSimpArgs false
set_option linter.unusedSectionVars false

section
namespace Go.Proofs.YtolgjekokdimoaaDoor
variable [LaidG]
set_option maxRecDepth 100000

/-- int64 -/
noncomputable def T2 : TI := ⟨false, [.int .i64], 0, [], 8, .int .i64, false⟩
theorem T2_ok : TIok Tryd.prog 2 T2 := tiok_mk (i := Tryd.t2) Tryd.underlying2 Tryd.type2 rfl rfl rfl rfl rfl rfl (by kernel_rfl) (by decide) (by decide) (by decide) rfl (fun h => by cases h)
theorem T2_sz : T2.sz = 1 := rfl
theorem T2_pty : T2.pty = .int .i64 := rfl
/-- int -/
noncomputable def T3 : TI := ⟨false, [.int .i64], 0, [], 8, .int .i64, false⟩
theorem T3_ok : TIok Tryd.prog 3 T3 := tiok_mk (i := Tryd.t3) Tryd.underlying3 Tryd.type3 rfl rfl rfl rfl rfl rfl (by kernel_rfl) (by decide) (by decide) (by decide) rfl (fun h => by cases h)
theorem T3_sz : T3.sz = 1 := rfl
theorem T3_pty : T3.pty = .int .i64 := rfl
/-- bool -/
noncomputable def T4 : TI := ⟨false, [.bool], 0, [], 1, .bool, false⟩
theorem T4_ok : TIok Tryd.prog 4 T4 := tiok_mk (i := Tryd.t4) Tryd.underlying4 Tryd.type4 rfl rfl rfl rfl rfl rfl (by kernel_rfl) (by decide) (by decide) (by decide) rfl (fun h => by cases h)
theorem T4_sz : T4.sz = 1 := rfl
theorem T4_pty : T4.pty = .bool := rfl
/-- uint8 -/
noncomputable def T5 : TI := ⟨false, [.int .u8], 0, [], 1, .int .u8, false⟩
theorem T5_ok : TIok Tryd.prog 5 T5 := tiok_mk (i := Tryd.t5) Tryd.underlying5 Tryd.type5 rfl rfl rfl rfl rfl rfl (by kernel_rfl) (by decide) (by decide) (by decide) rfl (fun h => by cases h)
theorem T5_sz : T5.sz = 1 := rfl
theorem T5_pty : T5.pty = .int .u8 := rfl
/-- abi.BoundsErrorCode -/
noncomputable def T6 : TI := ⟨false, [.int .u8], 0, [], 1, .int .u8, false⟩
theorem T6_ok : TIok Tryd.prog 6 T6 := tiok_mk (i := Tryd.t6) Tryd.underlying6 Tryd.type6 rfl rfl rfl rfl rfl rfl (by kernel_rfl) (by decide) (by decide) (by decide) rfl (fun h => by cases h)
theorem T6_sz : T6.sz = 1 := rfl
theorem T6_pty : T6.pty = .int .u8 := rfl
/-- a struct -/
noncomputable def T7 : TI := ⟨true, [.int .i64, .int .i64, .bool, .int .u8], 0, [(0, 2), (1, 3), (2, 4), (3, 6)], 24, .struct (match Tryd.t7.desc with | .struct fs => fs | _ => #[]), true⟩
theorem T7_ok : TIok Tryd.prog 7 T7 := tiok_mk (i := Tryd.t7) Tryd.underlying7 Tryd.type7 rfl rfl rfl rfl rfl rfl (by kernel_rfl) (by decide) (by decide) (by decide) rfl (fun _ => ⟨Tryd.stoodInHeld7, Tryd.eqGuardType7⟩)
theorem T7_sz : T7.sz = 4 := rfl
theorem T7_pty : T7.pty = .agg [.int .i64, .int .i64, .bool, .int .u8] := rfl
/-- runtime.boundsError -/
noncomputable def T8 : TI := ⟨true, [.int .i64, .int .i64, .bool, .int .u8], 0, [(0, 2), (1, 3), (2, 4), (3, 6)], 24, .struct (match Tryd.t7.desc with | .struct fs => fs | _ => #[]), true⟩
theorem T8_ok : TIok Tryd.prog 8 T8 := tiok_mk (i := Tryd.t8) Tryd.underlying8 Tryd.type8 rfl rfl rfl rfl rfl rfl (by kernel_rfl) (by decide) (by decide) (by decide) rfl (fun _ => ⟨Tryd.stoodInHeld8, Tryd.eqGuardType8⟩)
theorem T8_sz : T8.sz = 4 := rfl
theorem T8_pty : T8.pty = .agg [.int .i64, .int .i64, .bool, .int .u8] := rfl
/-- string -/
noncomputable def T9 : TI := ⟨false, [.str], 0, [], 16, .string, false⟩
theorem T9_ok : TIok Tryd.prog 9 T9 := tiok_mk (i := Tryd.t9) Tryd.underlying9 Tryd.type9 rfl rfl rfl rfl rfl rfl (by kernel_rfl) (by decide) (by decide) (by decide) rfl (fun h => by cases h)
theorem T9_sz : T9.sz = 1 := rfl
theorem T9_pty : T9.pty = .str := rfl
/-- runtime.errorString -/
noncomputable def T10 : TI := ⟨false, [.str], 0, [], 16, .string, false⟩
theorem T10_ok : TIok Tryd.prog 10 T10 := tiok_mk (i := Tryd.t10) Tryd.underlying10 Tryd.type10 rfl rfl rfl rfl rfl rfl (by kernel_rfl) (by decide) (by decide) (by decide) rfl (fun h => by cases h)
theorem T10_sz : T10.sz = 1 := rfl
theorem T10_pty : T10.pty = .str := rfl
/-- runtime.plainError -/
noncomputable def T11 : TI := ⟨false, [.str], 0, [], 16, .string, false⟩
theorem T11_ok : TIok Tryd.prog 11 T11 := tiok_mk (i := Tryd.t11) Tryd.underlying11 Tryd.type11 rfl rfl rfl rfl rfl rfl (by kernel_rfl) (by decide) (by decide) (by decide) rfl (fun h => by cases h)
theorem T11_sz : T11.sz = 1 := rfl
theorem T11_pty : T11.pty = .str := rfl
/-- uintptr -/
noncomputable def T12 : TI := ⟨false, [.int .u64], 0, [], 8, .int .u64, false⟩
theorem T12_ok : TIok Tryd.prog 12 T12 := tiok_mk (i := Tryd.t12) Tryd.underlying12 Tryd.type12 rfl rfl rfl rfl rfl rfl (by kernel_rfl) (by decide) (by decide) (by decide) rfl (fun h => by cases h)
theorem T12_sz : T12.sz = 1 := rfl
theorem T12_pty : T12.pty = .int .u64 := rfl
/-- a struct -/
noncomputable def T13 : TI := ⟨true, [.str, .int .u64], 0, [(0, 9), (1, 12)], 24, .struct (match Tryd.t13.desc with | .struct fs => fs | _ => #[]), false⟩
theorem T13_ok : TIok Tryd.prog 13 T13 := tiok_mk (i := Tryd.t13) Tryd.underlying13 Tryd.type13 rfl rfl rfl rfl rfl rfl (by kernel_rfl) (by decide) (by decide) (by decide) rfl (fun h => by cases h)
theorem T13_sz : T13.sz = 2 := rfl
theorem T13_pty : T13.pty = .agg [.str, .int .u64] := rfl
/-- runtime.errorAddressString -/
noncomputable def T14 : TI := ⟨true, [.str, .int .u64], 0, [(0, 9), (1, 12)], 24, .struct (match Tryd.t13.desc with | .struct fs => fs | _ => #[]), false⟩
theorem T14_ok : TIok Tryd.prog 14 T14 := tiok_mk (i := Tryd.t14) Tryd.underlying14 Tryd.type14 rfl rfl rfl rfl rfl rfl (by kernel_rfl) (by decide) (by decide) (by decide) rfl (fun h => by cases h)
theorem T14_sz : T14.sz = 2 := rfl
theorem T14_pty : T14.pty = .agg [.str, .int .u64] := rfl
/-- *runtime.TypeAssertionError -/
noncomputable def T15 : TI := ⟨false, [.opq], 0, [], 8, .pointer 170, false⟩
theorem T15_ok : TIok Tryd.prog 15 T15 := tiok_mk (i := Tryd.t15) Tryd.underlying15 Tryd.type15 rfl rfl rfl rfl rfl rfl (by kernel_rfl) (by decide) (by decide) (by decide) rfl (fun h => by cases h)
theorem T15_sz : T15.sz = 1 := rfl
theorem T15_pty : T15.pty = .opq := rfl
/-- *runtime.PanicNilError -/
noncomputable def T16 : TI := ⟨false, [.opq], 0, [], 8, .pointer 173, false⟩
theorem T16_ok : TIok Tryd.prog 16 T16 := tiok_mk (i := Tryd.t16) Tryd.underlying16 Tryd.type16 rfl rfl rfl rfl rfl rfl (by kernel_rfl) (by decide) (by decide) (by decide) rfl (fun h => by cases h)
theorem T16_sz : T16.sz = 1 := rfl
theorem T16_pty : T16.pty = .opq := rfl
/-- *abi.Type -/
noncomputable def T17 : TI := ⟨false, [.opq], 0, [], 8, .pointer 180, false⟩
theorem T17_ok : TIok Tryd.prog 17 T17 := tiok_mk (i := Tryd.t17) Tryd.underlying17 Tryd.type17 rfl rfl rfl rfl rfl rfl (by kernel_rfl) (by decide) (by decide) (by decide) rfl (fun h => by cases h)
theorem T17_sz : T17.sz = 1 := rfl
theorem T17_pty : T17.pty = .opq := rfl
/-- a struct -/
noncomputable def T18 : TI := ⟨true, [.opq], 0, [(0, 17)], 8, .struct (match Tryd.t18.desc with | .struct fs => fs | _ => #[]), false⟩
theorem T18_ok : TIok Tryd.prog 18 T18 := tiok_mk (i := Tryd.t18) Tryd.underlying18 Tryd.type18 rfl rfl rfl rfl rfl rfl (by kernel_rfl) (by decide) (by decide) (by decide) rfl (fun h => by cases h)
theorem T18_sz : T18.sz = 1 := rfl
theorem T18_pty : T18.pty = .agg [.opq] := rfl
/-- maps.unhashableTypeError -/
noncomputable def T19 : TI := ⟨true, [.opq], 0, [(0, 17)], 8, .struct (match Tryd.t18.desc with | .struct fs => fs | _ => #[]), false⟩
theorem T19_ok : TIok Tryd.prog 19 T19 := tiok_mk (i := Tryd.t19) Tryd.underlying19 Tryd.type19 rfl rfl rfl rfl rfl rfl (by kernel_rfl) (by decide) (by decide) (by decide) rfl (fun h => by cases h)
theorem T19_sz : T19.sz = 1 := rfl
theorem T19_pty : T19.pty = .agg [.opq] := rfl
/-- int32 -/
noncomputable def T21 : TI := ⟨false, [.int .i32], 0, [], 4, .int .i32, false⟩
theorem T21_ok : TIok Tryd.prog 21 T21 := tiok_mk (i := Tryd.t21) Tryd.underlying21 Tryd.type21 rfl rfl rfl rfl rfl rfl (by kernel_rfl) (by decide) (by decide) (by decide) rfl (fun h => by cases h)
theorem T21_sz : T21.sz = 1 := rfl
theorem T21_pty : T21.pty = .int .i32 := rfl
/-- []string -/
noncomputable def T25 : TI := ⟨false, [.list (.str)], 9, [], 24, .slice 9, false⟩
theorem T25_ok : TIok Tryd.prog 25 T25 := tiok_mk (i := Tryd.t25) Tryd.underlying25 Tryd.type25 rfl rfl rfl rfl rfl rfl (by kernel_rfl) (by decide) (by decide) (by decide) rfl (fun h => by cases h)
theorem T25_sz : T25.sz = 1 := rfl
theorem T25_pty : T25.pty = .list (.str) := rfl
/-- a struct -/
noncomputable def T26 : TI := ⟨true, [.int .i64, .int .i64, .int .i64, .list (.str)], 0, [(0, 3), (1, 3), (2, 3), (3, 25)], 48, .struct (match Tryd.t26.desc with | .struct fs => fs | _ => #[]), false⟩
theorem T26_ok : TIok Tryd.prog 26 T26 := tiok_mk (i := Tryd.t26) Tryd.underlying26 Tryd.type26 rfl rfl rfl rfl rfl rfl (by kernel_rfl) (by decide) (by decide) (by decide) rfl (fun h => by cases h)
theorem T26_sz : T26.sz = 4 := rfl
theorem T26_pty : T26.pty = .agg [.int .i64, .int .i64, .int .i64, .list (.str)] := rfl
/-- impl.Mirror -/
noncomputable def T27 : TI := ⟨true, [.int .i64, .int .i64, .int .i64, .list (.str)], 0, [(0, 3), (1, 3), (2, 3), (3, 25)], 48, .struct (match Tryd.t26.desc with | .struct fs => fs | _ => #[]), false⟩
theorem T27_ok : TIok Tryd.prog 27 T27 := tiok_mk (i := Tryd.t27) Tryd.underlying27 Tryd.type27 rfl rfl rfl rfl rfl rfl (by kernel_rfl) (by decide) (by decide) (by decide) rfl (fun h => by cases h)
theorem T27_sz : T27.sz = 4 := rfl
theorem T27_pty : T27.pty = .agg [.int .i64, .int .i64, .int .i64, .list (.str)] := rfl
/-- a struct -/
noncomputable def T28 : TI := ⟨true, [.int .i64, .str, .str, .int .i64, .int .i64, .int .i64, .list (.str)], 0, [(0, 3), (1, 9), (2, 9), (3, 27)], 88, .struct (match Tryd.t28.desc with | .struct fs => fs | _ => #[]), false⟩
theorem T28_ok : TIok Tryd.prog 28 T28 := tiok_mk (i := Tryd.t28) Tryd.underlying28 Tryd.type28 rfl rfl rfl rfl rfl rfl (by kernel_rfl) (by decide) (by decide) (by decide) rfl (fun h => by cases h)
theorem T28_sz : T28.sz = 7 := rfl
theorem T28_pty : T28.pty = .agg [.int .i64, .str, .str, .int .i64, .int .i64, .int .i64, .list (.str)] := rfl
/-- impl.Client -/
noncomputable def T29 : TI := ⟨true, [.int .i64, .str, .str, .int .i64, .int .i64, .int .i64, .list (.str)], 0, [(0, 3), (1, 9), (2, 9), (3, 27)], 88, .struct (match Tryd.t28.desc with | .struct fs => fs | _ => #[]), false⟩
theorem T29_ok : TIok Tryd.prog 29 T29 := tiok_mk (i := Tryd.t29) Tryd.underlying29 Tryd.type29 rfl rfl rfl rfl rfl rfl (by kernel_rfl) (by decide) (by decide) (by decide) rfl (fun h => by cases h)
theorem T29_sz : T29.sz = 7 := rfl
theorem T29_pty : T29.pty = .agg [.int .i64, .str, .str, .int .i64, .int .i64, .int .i64, .list (.str)] := rfl
/-- laws.Mirror -/
noncomputable def T35 : TI := ⟨true, [.int .i64, .int .i64, .int .i64, .list (.str)], 0, [(0, 3), (1, 3), (2, 3), (3, 25)], 48, .struct (match Tryd.t26.desc with | .struct fs => fs | _ => #[]), false⟩
theorem T35_ok : TIok Tryd.prog 35 T35 := tiok_mk (i := Tryd.t35) Tryd.underlying35 Tryd.type35 rfl rfl rfl rfl rfl rfl (by kernel_rfl) (by decide) (by decide) (by decide) rfl (fun h => by cases h)
theorem T35_sz : T35.sz = 4 := rfl
theorem T35_pty : T35.pty = .agg [.int .i64, .int .i64, .int .i64, .list (.str)] := rfl
/-- a struct -/
noncomputable def T36 : TI := ⟨true, [.int .i64, .str, .str, .int .i64, .int .i64, .int .i64, .list (.str)], 0, [(0, 3), (1, 9), (2, 9), (3, 35)], 88, .struct (match Tryd.t36.desc with | .struct fs => fs | _ => #[]), false⟩
theorem T36_ok : TIok Tryd.prog 36 T36 := tiok_mk (i := Tryd.t36) Tryd.underlying36 Tryd.type36 rfl rfl rfl rfl rfl rfl (by kernel_rfl) (by decide) (by decide) (by decide) rfl (fun h => by cases h)
theorem T36_sz : T36.sz = 7 := rfl
theorem T36_pty : T36.pty = .agg [.int .i64, .str, .str, .int .i64, .int .i64, .int .i64, .list (.str)] := rfl
/-- laws.Client -/
noncomputable def T37 : TI := ⟨true, [.int .i64, .str, .str, .int .i64, .int .i64, .int .i64, .list (.str)], 0, [(0, 3), (1, 9), (2, 9), (3, 35)], 88, .struct (match Tryd.t36.desc with | .struct fs => fs | _ => #[]), false⟩
theorem T37_ok : TIok Tryd.prog 37 T37 := tiok_mk (i := Tryd.t37) Tryd.underlying37 Tryd.type37 rfl rfl rfl rfl rfl rfl (by kernel_rfl) (by decide) (by decide) (by decide) rfl (fun h => by cases h)
theorem T37_sz : T37.sz = 7 := rfl
theorem T37_pty : T37.pty = .agg [.int .i64, .str, .str, .int .i64, .int .i64, .int .i64, .list (.str)] := rfl
/-- a struct -/
noncomputable def T42 : TI := ⟨true, [.int .i64, .int .i64, .int .i64, .int .i64, .int .i64, .int .i64, .bool, .str, .str], 0, [(0, 3), (1, 3), (2, 3), (3, 3), (4, 3), (5, 3), (6, 4), (7, 9), (8, 9)], 88, .struct (match Tryd.t42.desc with | .struct fs => fs | _ => #[]), true⟩
theorem T42_ok : TIok Tryd.prog 42 T42 := tiok_mk (i := Tryd.t42) Tryd.underlying42 Tryd.type42 rfl rfl rfl rfl rfl rfl (by kernel_rfl) (by decide) (by decide) (by decide) rfl (fun _ => ⟨Tryd.stoodInHeld42, Tryd.eqGuardType42⟩)
theorem T42_sz : T42.sz = 9 := rfl
theorem T42_pty : T42.pty = .agg [.int .i64, .int .i64, .int .i64, .int .i64, .int .i64, .int .i64, .bool, .str, .str] := rfl
/-- impl.Command -/
noncomputable def T43 : TI := ⟨true, [.int .i64, .int .i64, .int .i64, .int .i64, .int .i64, .int .i64, .bool, .str, .str], 0, [(0, 3), (1, 3), (2, 3), (3, 3), (4, 3), (5, 3), (6, 4), (7, 9), (8, 9)], 88, .struct (match Tryd.t42.desc with | .struct fs => fs | _ => #[]), true⟩
theorem T43_ok : TIok Tryd.prog 43 T43 := tiok_mk (i := Tryd.t43) Tryd.underlying43 Tryd.type43 rfl rfl rfl rfl rfl rfl (by kernel_rfl) (by decide) (by decide) (by decide) rfl (fun _ => ⟨Tryd.stoodInHeld43, Tryd.eqGuardType43⟩)
theorem T43_sz : T43.sz = 9 := rfl
theorem T43_pty : T43.pty = .agg [.int .i64, .int .i64, .int .i64, .int .i64, .int .i64, .int .i64, .bool, .str, .str] := rfl
/-- []int -/
noncomputable def T63 : TI := ⟨false, [.list (.int .i64)], 3, [], 24, .slice 3, false⟩
theorem T63_ok : TIok Tryd.prog 63 T63 := tiok_mk (i := Tryd.t63) Tryd.underlying63 Tryd.type63 rfl rfl rfl rfl rfl rfl (by kernel_rfl) (by decide) (by decide) (by decide) rfl (fun h => by cases h)
theorem T63_sz : T63.sz = 1 := rfl
theorem T63_pty : T63.pty = .list (.int .i64) := rfl
/-- []uint8 -/
noncomputable def T91 : TI := ⟨false, [.list (.int .u8)], 5, [], 24, .slice 5, false⟩
theorem T91_ok : TIok Tryd.prog 91 T91 := tiok_mk (i := Tryd.t91) Tryd.underlying91 Tryd.type91 rfl rfl rfl rfl rfl rfl (by kernel_rfl) (by decide) (by decide) (by decide) rfl (fun h => by cases h)
theorem T91_sz : T91.sz = 1 := rfl
theorem T91_pty : T91.pty = .list (.int .u8) := rfl
/-- uint -/
noncomputable def T93 : TI := ⟨false, [.int .u64], 0, [], 8, .int .u64, false⟩
theorem T93_ok : TIok Tryd.prog 93 T93 := tiok_mk (i := Tryd.t93) Tryd.underlying93 Tryd.type93 rfl rfl rfl rfl rfl rfl (by kernel_rfl) (by decide) (by decide) (by decide) rfl (fun h => by cases h)
theorem T93_sz : T93.sz = 1 := rfl
theorem T93_pty : T93.pty = .int .u64 := rfl
/-- a struct -/
noncomputable def T96 : TI := ⟨true, [.int .i64, .int .i64], 0, [(0, 3), (1, 3)], 16, .struct (match Tryd.t96.desc with | .struct fs => fs | _ => #[]), true⟩
theorem T96_ok : TIok Tryd.prog 96 T96 := tiok_mk (i := Tryd.t96) Tryd.underlying96 Tryd.type96 rfl rfl rfl rfl rfl rfl (by kernel_rfl) (by decide) (by decide) (by decide) rfl (fun _ => ⟨Tryd.stoodInHeld96, Tryd.eqGuardType96⟩)
theorem T96_sz : T96.sz = 2 := rfl
theorem T96_pty : T96.pty = .agg [.int .i64, .int .i64] := rfl
/-- impl.Cell -/
noncomputable def T97 : TI := ⟨true, [.int .i64, .int .i64], 0, [(0, 3), (1, 3)], 16, .struct (match Tryd.t96.desc with | .struct fs => fs | _ => #[]), true⟩
theorem T97_ok : TIok Tryd.prog 97 T97 := tiok_mk (i := Tryd.t97) Tryd.underlying97 Tryd.type97 rfl rfl rfl rfl rfl rfl (by kernel_rfl) (by decide) (by decide) (by decide) rfl (fun _ => ⟨Tryd.stoodInHeld97, Tryd.eqGuardType97⟩)
theorem T97_sz : T97.sz = 2 := rfl
theorem T97_pty : T97.pty = .agg [.int .i64, .int .i64] := rfl
/-- uint32 -/
noncomputable def T102 : TI := ⟨false, [.int .u32], 0, [], 4, .int .u32, false⟩
theorem T102_ok : TIok Tryd.prog 102 T102 := tiok_mk (i := Tryd.t102) Tryd.underlying102 Tryd.type102 rfl rfl rfl rfl rfl rfl (by kernel_rfl) (by decide) (by decide) (by decide) rfl (fun h => by cases h)
theorem T102_sz : T102.sz = 1 := rfl
theorem T102_pty : T102.pty = .int .u32 := rfl
/-- []uint32 -/
noncomputable def T103 : TI := ⟨false, [.list (.int .u32)], 102, [], 24, .slice 102, false⟩
theorem T103_ok : TIok Tryd.prog 103 T103 := tiok_mk (i := Tryd.t103) Tryd.underlying103 Tryd.type103 rfl rfl rfl rfl rfl rfl (by kernel_rfl) (by decide) (by decide) (by decide) rfl (fun h => by cases h)
theorem T103_sz : T103.sz = 1 := rfl
theorem T103_pty : T103.pty = .list (.int .u32) := rfl
/-- [8]uint32 -/
noncomputable def T107 : TI := ⟨true, [.int .u32, .int .u32, .int .u32, .int .u32, .int .u32, .int .u32, .int .u32, .int .u32], 0, [], 32, .array 8 102, false⟩
theorem T107_ok : TIok Tryd.prog 107 T107 := tiok_mk (i := Tryd.t107) Tryd.underlying107 Tryd.type107 rfl rfl rfl rfl rfl rfl (by kernel_rfl) (by decide) (by decide) (by decide) rfl (fun h => by cases h)
theorem T107_sz : T107.sz = 8 := rfl
theorem T107_pty : T107.pty = .agg [.int .u32, .int .u32, .int .u32, .int .u32, .int .u32, .int .u32, .int .u32, .int .u32] := rfl
/-- *[8]uint32 -/
noncomputable def T111 : TI := ⟨false, [.opq], 0, [], 8, .pointer 107, false⟩
theorem T111_ok : TIok Tryd.prog 111 T111 := tiok_mk (i := Tryd.t111) Tryd.underlying111 Tryd.type111 rfl rfl rfl rfl rfl rfl (by kernel_rfl) (by decide) (by decide) (by decide) rfl (fun h => by cases h)
theorem T111_sz : T111.sz = 1 := rfl
theorem T111_pty : T111.pty = .opq := rfl
/-- strconv.Error -/
noncomputable def T112 : TI := ⟨false, [.int .i64], 0, [], 8, .int .i64, false⟩
theorem T112_ok : TIok Tryd.prog 112 T112 := tiok_mk (i := Tryd.t112) Tryd.underlying112 Tryd.type112 rfl rfl rfl rfl rfl rfl (by kernel_rfl) (by decide) (by decide) (by decide) rfl (fun h => by cases h)
theorem T112_sz : T112.sz = 1 := rfl
theorem T112_pty : T112.pty = .int .i64 := rfl
/-- *strconv.NumError -/
noncomputable def T115 : TI := ⟨false, [.opq], 0, [], 8, .pointer 142, false⟩
theorem T115_ok : TIok Tryd.prog 115 T115 := tiok_mk (i := Tryd.t115) Tryd.underlying115 Tryd.type115 rfl rfl rfl rfl rfl rfl (by kernel_rfl) (by decide) (by decide) (by decide) rfl (fun h => by cases h)
theorem T115_sz : T115.sz = 1 := rfl
theorem T115_pty : T115.pty = .opq := rfl
/-- [24]uint8 -/
noncomputable def T123 : TI := ⟨true, [.int .u8, .int .u8, .int .u8, .int .u8, .int .u8, .int .u8, .int .u8, .int .u8, .int .u8, .int .u8, .int .u8, .int .u8, .int .u8, .int .u8, .int .u8, .int .u8, .int .u8, .int .u8, .int .u8, .int .u8, .int .u8, .int .u8, .int .u8, .int .u8], 0, [], 24, .array 24 5, false⟩
theorem T123_ok : TIok Tryd.prog 123 T123 := tiok_mk (i := Tryd.t123) Tryd.underlying123 Tryd.type123 rfl rfl rfl rfl rfl rfl (by kernel_rfl) (by decide) (by decide) (by decide) rfl (fun h => by cases h)
theorem T123_sz : T123.sz = 24 := rfl
theorem T123_pty : T123.pty = .agg [.int .u8, .int .u8, .int .u8, .int .u8, .int .u8, .int .u8, .int .u8, .int .u8, .int .u8, .int .u8, .int .u8, .int .u8, .int .u8, .int .u8, .int .u8, .int .u8, .int .u8, .int .u8, .int .u8, .int .u8, .int .u8, .int .u8, .int .u8, .int .u8] := rfl
/-- uint64 -/
noncomputable def T124 : TI := ⟨false, [.int .u64], 0, [], 8, .int .u64, false⟩
theorem T124_ok : TIok Tryd.prog 124 T124 := tiok_mk (i := Tryd.t124) Tryd.underlying124 Tryd.type124 rfl rfl rfl rfl rfl rfl (by kernel_rfl) (by decide) (by decide) (by decide) rfl (fun h => by cases h)
theorem T124_sz : T124.sz = 1 := rfl
theorem T124_pty : T124.pty = .int .u64 := rfl
/-- [64]uint32 -/
noncomputable def T137 : TI := ⟨true, [.int .u32, .int .u32, .int .u32, .int .u32, .int .u32, .int .u32, .int .u32, .int .u32, .int .u32, .int .u32, .int .u32, .int .u32, .int .u32, .int .u32, .int .u32, .int .u32, .int .u32, .int .u32, .int .u32, .int .u32, .int .u32, .int .u32, .int .u32, .int .u32, .int .u32, .int .u32, .int .u32, .int .u32, .int .u32, .int .u32, .int .u32, .int .u32, .int .u32, .int .u32, .int .u32, .int .u32, .int .u32, .int .u32, .int .u32, .int .u32, .int .u32, .int .u32, .int .u32, .int .u32, .int .u32, .int .u32, .int .u32, .int .u32, .int .u32, .int .u32, .int .u32, .int .u32, .int .u32, .int .u32, .int .u32, .int .u32, .int .u32, .int .u32, .int .u32, .int .u32, .int .u32, .int .u32, .int .u32, .int .u32], 0, [], 256, .array 64 102, false⟩
theorem T137_ok : TIok Tryd.prog 137 T137 := tiok_mk (i := Tryd.t137) Tryd.underlying137 Tryd.type137 rfl rfl rfl rfl rfl rfl (by kernel_rfl) (by decide) (by decide) (by decide) rfl (fun h => by cases h)
theorem T137_sz : T137.sz = 64 := rfl
theorem T137_pty : T137.pty = .agg [.int .u32, .int .u32, .int .u32, .int .u32, .int .u32, .int .u32, .int .u32, .int .u32, .int .u32, .int .u32, .int .u32, .int .u32, .int .u32, .int .u32, .int .u32, .int .u32, .int .u32, .int .u32, .int .u32, .int .u32, .int .u32, .int .u32, .int .u32, .int .u32, .int .u32, .int .u32, .int .u32, .int .u32, .int .u32, .int .u32, .int .u32, .int .u32, .int .u32, .int .u32, .int .u32, .int .u32, .int .u32, .int .u32, .int .u32, .int .u32, .int .u32, .int .u32, .int .u32, .int .u32, .int .u32, .int .u32, .int .u32, .int .u32, .int .u32, .int .u32, .int .u32, .int .u32, .int .u32, .int .u32, .int .u32, .int .u32, .int .u32, .int .u32, .int .u32, .int .u32, .int .u32, .int .u32, .int .u32, .int .u32] := rfl
/-- [20]uint64 -/
noncomputable def T146 : TI := ⟨true, [.int .u64, .int .u64, .int .u64, .int .u64, .int .u64, .int .u64, .int .u64, .int .u64, .int .u64, .int .u64, .int .u64, .int .u64, .int .u64, .int .u64, .int .u64, .int .u64, .int .u64, .int .u64, .int .u64, .int .u64], 0, [], 160, .array 20 124, false⟩
theorem T146_ok : TIok Tryd.prog 146 T146 := tiok_mk (i := Tryd.t146) Tryd.underlying146 Tryd.type146 rfl rfl rfl rfl rfl rfl (by kernel_rfl) (by decide) (by decide) (by decide) rfl (fun h => by cases h)
theorem T146_sz : T146.sz = 20 := rfl
theorem T146_pty : T146.pty = .agg [.int .u64, .int .u64, .int .u64, .int .u64, .int .u64, .int .u64, .int .u64, .int .u64, .int .u64, .int .u64, .int .u64, .int .u64, .int .u64, .int .u64, .int .u64, .int .u64, .int .u64, .int .u64, .int .u64, .int .u64] := rfl
/-- *uint8 -/
noncomputable def T153 : TI := ⟨false, [.opq], 0, [], 8, .pointer 5, false⟩
theorem T153_ok : TIok Tryd.prog 153 T153 := tiok_mk (i := Tryd.t153) Tryd.underlying153 Tryd.type153 rfl rfl rfl rfl rfl rfl (by kernel_rfl) (by decide) (by decide) (by decide) rfl (fun h => by cases h)
theorem T153_sz : T153.sz = 1 := rfl
theorem T153_pty : T153.pty = .opq := rfl
/-- *errors.errorString -/
noncomputable def T155 : TI := ⟨false, [.opq], 0, [], 8, .pointer 157, false⟩
theorem T155_ok : TIok Tryd.prog 155 T155 := tiok_mk (i := Tryd.t155) Tryd.underlying155 Tryd.type155 rfl rfl rfl rfl rfl rfl (by kernel_rfl) (by decide) (by decide) (by decide) rfl (fun h => by cases h)
theorem T155_sz : T155.sz = 1 := rfl
theorem T155_pty : T155.pty = .opq := rfl
/-- a struct -/
noncomputable def T156 : TI := ⟨true, [.str], 0, [(0, 9)], 16, .struct (match Tryd.t156.desc with | .struct fs => fs | _ => #[]), true⟩
theorem T156_ok : TIok Tryd.prog 156 T156 := tiok_mk (i := Tryd.t156) Tryd.underlying156 Tryd.type156 rfl rfl rfl rfl rfl rfl (by kernel_rfl) (by decide) (by decide) (by decide) rfl (fun _ => ⟨Tryd.stoodInHeld156, Tryd.eqGuardType156⟩)
theorem T156_sz : T156.sz = 1 := rfl
theorem T156_pty : T156.pty = .agg [.str] := rfl
/-- errors.errorString -/
noncomputable def T157 : TI := ⟨true, [.str], 0, [(0, 9)], 16, .struct (match Tryd.t156.desc with | .struct fs => fs | _ => #[]), true⟩
theorem T157_ok : TIok Tryd.prog 157 T157 := tiok_mk (i := Tryd.t157) Tryd.underlying157 Tryd.type157 rfl rfl rfl rfl rfl rfl (by kernel_rfl) (by decide) (by decide) (by decide) rfl (fun _ => ⟨Tryd.stoodInHeld157, Tryd.eqGuardType157⟩)
theorem T157_sz : T157.sz = 1 := rfl
theorem T157_pty : T157.pty = .agg [.str] := rfl
/-- a struct -/
noncomputable def T159 : TI := ⟨true, [.int .u8, .int .u8], 0, [(0, 5), (1, 5)], 2, .struct (match Tryd.t159.desc with | .struct fs => fs | _ => #[]), true⟩
theorem T159_ok : TIok Tryd.prog 159 T159 := tiok_mk (i := Tryd.t159) Tryd.underlying159 Tryd.type159 rfl rfl rfl rfl rfl rfl (by kernel_rfl) (by decide) (by decide) (by decide) rfl (fun _ => ⟨Tryd.stoodInHeld159, Tryd.eqGuardType159⟩)
theorem T159_sz : T159.sz = 2 := rfl
theorem T159_pty : T159.pty = .agg [.int .u8, .int .u8] := rfl
/-- utf8.acceptRange -/
noncomputable def T160 : TI := ⟨true, [.int .u8, .int .u8], 0, [(0, 5), (1, 5)], 2, .struct (match Tryd.t159.desc with | .struct fs => fs | _ => #[]), true⟩
theorem T160_ok : TIok Tryd.prog 160 T160 := tiok_mk (i := Tryd.t160) Tryd.underlying160 Tryd.type160 rfl rfl rfl rfl rfl rfl (by kernel_rfl) (by decide) (by decide) (by decide) rfl (fun _ => ⟨Tryd.stoodInHeld160, Tryd.eqGuardType160⟩)
theorem T160_sz : T160.sz = 2 := rfl
theorem T160_pty : T160.pty = .agg [.int .u8, .int .u8] := rfl
/-- [16]utf8.acceptRange -/
noncomputable def T161 : TI := ⟨true, [.int .u8, .int .u8, .int .u8, .int .u8, .int .u8, .int .u8, .int .u8, .int .u8, .int .u8, .int .u8, .int .u8, .int .u8, .int .u8, .int .u8, .int .u8, .int .u8, .int .u8, .int .u8, .int .u8, .int .u8, .int .u8, .int .u8, .int .u8, .int .u8, .int .u8, .int .u8, .int .u8, .int .u8, .int .u8, .int .u8, .int .u8, .int .u8], 0, [], 32, .array 16 160, false⟩
theorem T161_ok : TIok Tryd.prog 161 T161 := tiok_mk (i := Tryd.t161) Tryd.underlying161 Tryd.type161 rfl rfl rfl rfl rfl rfl (by kernel_rfl) (by decide) (by decide) (by decide) rfl (fun h => by cases h)
theorem T161_sz : T161.sz = 32 := rfl
theorem T161_pty : T161.pty = .agg [.int .u8, .int .u8, .int .u8, .int .u8, .int .u8, .int .u8, .int .u8, .int .u8, .int .u8, .int .u8, .int .u8, .int .u8, .int .u8, .int .u8, .int .u8, .int .u8, .int .u8, .int .u8, .int .u8, .int .u8, .int .u8, .int .u8, .int .u8, .int .u8, .int .u8, .int .u8, .int .u8, .int .u8, .int .u8, .int .u8, .int .u8, .int .u8] := rfl
/-- [32]uint8 -/
noncomputable def T167 : TI := ⟨true, [.int .u8, .int .u8, .int .u8, .int .u8, .int .u8, .int .u8, .int .u8, .int .u8, .int .u8, .int .u8, .int .u8, .int .u8, .int .u8, .int .u8, .int .u8, .int .u8, .int .u8, .int .u8, .int .u8, .int .u8, .int .u8, .int .u8, .int .u8, .int .u8, .int .u8, .int .u8, .int .u8, .int .u8, .int .u8, .int .u8, .int .u8, .int .u8], 0, [], 32, .array 32 5, false⟩
theorem T167_ok : TIok Tryd.prog 167 T167 := tiok_mk (i := Tryd.t167) Tryd.underlying167 Tryd.type167 rfl rfl rfl rfl rfl rfl (by kernel_rfl) (by decide) (by decide) (by decide) rfl (fun h => by cases h)
theorem T167_sz : T167.sz = 32 := rfl
theorem T167_pty : T167.pty = .agg [.int .u8, .int .u8, .int .u8, .int .u8, .int .u8, .int .u8, .int .u8, .int .u8, .int .u8, .int .u8, .int .u8, .int .u8, .int .u8, .int .u8, .int .u8, .int .u8, .int .u8, .int .u8, .int .u8, .int .u8, .int .u8, .int .u8, .int .u8, .int .u8, .int .u8, .int .u8, .int .u8, .int .u8, .int .u8, .int .u8, .int .u8, .int .u8] := rfl
/-- [64]uint8 -/
noncomputable def T168 : TI := ⟨true, [.int .u8, .int .u8, .int .u8, .int .u8, .int .u8, .int .u8, .int .u8, .int .u8, .int .u8, .int .u8, .int .u8, .int .u8, .int .u8, .int .u8, .int .u8, .int .u8, .int .u8, .int .u8, .int .u8, .int .u8, .int .u8, .int .u8, .int .u8, .int .u8, .int .u8, .int .u8, .int .u8, .int .u8, .int .u8, .int .u8, .int .u8, .int .u8, .int .u8, .int .u8, .int .u8, .int .u8, .int .u8, .int .u8, .int .u8, .int .u8, .int .u8, .int .u8, .int .u8, .int .u8, .int .u8, .int .u8, .int .u8, .int .u8, .int .u8, .int .u8, .int .u8, .int .u8, .int .u8, .int .u8, .int .u8, .int .u8, .int .u8, .int .u8, .int .u8, .int .u8, .int .u8, .int .u8, .int .u8, .int .u8], 0, [], 64, .array 64 5, false⟩
theorem T168_ok : TIok Tryd.prog 168 T168 := tiok_mk (i := Tryd.t168) Tryd.underlying168 Tryd.type168 rfl rfl rfl rfl rfl rfl (by kernel_rfl) (by decide) (by decide) (by decide) rfl (fun h => by cases h)
theorem T168_sz : T168.sz = 64 := rfl
theorem T168_pty : T168.pty = .agg [.int .u8, .int .u8, .int .u8, .int .u8, .int .u8, .int .u8, .int .u8, .int .u8, .int .u8, .int .u8, .int .u8, .int .u8, .int .u8, .int .u8, .int .u8, .int .u8, .int .u8, .int .u8, .int .u8, .int .u8, .int .u8, .int .u8, .int .u8, .int .u8, .int .u8, .int .u8, .int .u8, .int .u8, .int .u8, .int .u8, .int .u8, .int .u8, .int .u8, .int .u8, .int .u8, .int .u8, .int .u8, .int .u8, .int .u8, .int .u8, .int .u8, .int .u8, .int .u8, .int .u8, .int .u8, .int .u8, .int .u8, .int .u8, .int .u8, .int .u8, .int .u8, .int .u8, .int .u8, .int .u8, .int .u8, .int .u8, .int .u8, .int .u8, .int .u8, .int .u8, .int .u8, .int .u8, .int .u8, .int .u8] := rfl
/-- a struct -/
noncomputable def T169 : TI := ⟨true, [.opq, .opq, .opq, .str], 0, [(0, 17), (1, 17), (2, 17), (3, 9)], 40, .struct (match Tryd.t169.desc with | .struct fs => fs | _ => #[]), false⟩
theorem T169_ok : TIok Tryd.prog 169 T169 := tiok_mk (i := Tryd.t169) Tryd.underlying169 Tryd.type169 rfl rfl rfl rfl rfl rfl (by kernel_rfl) (by decide) (by decide) (by decide) rfl (fun h => by cases h)
theorem T169_sz : T169.sz = 4 := rfl
theorem T169_pty : T169.pty = .agg [.opq, .opq, .opq, .str] := rfl
/-- runtime.TypeAssertionError -/
noncomputable def T170 : TI := ⟨true, [.opq, .opq, .opq, .str], 0, [(0, 17), (1, 17), (2, 17), (3, 9)], 40, .struct (match Tryd.t169.desc with | .struct fs => fs | _ => #[]), false⟩
theorem T170_ok : TIok Tryd.prog 170 T170 := tiok_mk (i := Tryd.t170) Tryd.underlying170 Tryd.type170 rfl rfl rfl rfl rfl rfl (by kernel_rfl) (by decide) (by decide) (by decide) rfl (fun h => by cases h)
theorem T170_sz : T170.sz = 4 := rfl
theorem T170_pty : T170.pty = .agg [.opq, .opq, .opq, .str] := rfl
/-- abi.TFlag -/
noncomputable def T174 : TI := ⟨false, [.int .u8], 0, [], 1, .int .u8, false⟩
theorem T174_ok : TIok Tryd.prog 174 T174 := tiok_mk (i := Tryd.t174) Tryd.underlying174 Tryd.type174 rfl rfl rfl rfl rfl rfl (by kernel_rfl) (by decide) (by decide) (by decide) rfl (fun h => by cases h)
theorem T174_sz : T174.sz = 1 := rfl
theorem T174_pty : T174.pty = .int .u8 := rfl
/-- abi.Kind -/
noncomputable def T175 : TI := ⟨false, [.int .u8], 0, [], 1, .int .u8, false⟩
theorem T175_ok : TIok Tryd.prog 175 T175 := tiok_mk (i := Tryd.t175) Tryd.underlying175 Tryd.type175 rfl rfl rfl rfl rfl rfl (by kernel_rfl) (by decide) (by decide) (by decide) rfl (fun h => by cases h)
theorem T175_sz : T175.sz = 1 := rfl
theorem T175_pty : T175.pty = .int .u8 := rfl
/-- abi.NameOff -/
noncomputable def T177 : TI := ⟨false, [.int .i32], 0, [], 4, .int .i32, false⟩
theorem T177_ok : TIok Tryd.prog 177 T177 := tiok_mk (i := Tryd.t177) Tryd.underlying177 Tryd.type177 rfl rfl rfl rfl rfl rfl (by kernel_rfl) (by decide) (by decide) (by decide) rfl (fun h => by cases h)
theorem T177_sz : T177.sz = 1 := rfl
theorem T177_pty : T177.pty = .int .i32 := rfl
/-- abi.TypeOff -/
noncomputable def T178 : TI := ⟨false, [.int .i32], 0, [], 4, .int .i32, false⟩
theorem T178_ok : TIok Tryd.prog 178 T178 := tiok_mk (i := Tryd.t178) Tryd.underlying178 Tryd.type178 rfl rfl rfl rfl rfl rfl (by kernel_rfl) (by decide) (by decide) (by decide) rfl (fun h => by cases h)
theorem T178_sz : T178.sz = 1 := rfl
theorem T178_pty : T178.pty = .int .i32 := rfl
noncomputable def tyTab : List (Nat × TI) := [(2, T2), (3, T3), (4, T4), (5, T5), (6, T6), (7, T7), (8, T8), (9, T9), (10, T10), (11, T11), (12, T12), (13, T13), (14, T14), (15, T15), (16, T16), (17, T17), (18, T18), (19, T19), (21, T21), (25, T25), (26, T26), (27, T27), (28, T28), (29, T29), (35, T35), (36, T36), (37, T37), (42, T42), (43, T43), (63, T63), (91, T91), (93, T93), (96, T96), (97, T97), (102, T102), (103, T103), (107, T107), (111, T111), (112, T112), (115, T115), (123, T123), (124, T124), (137, T137), (146, T146), (153, T153), (155, T155), (156, T156), (157, T157), (159, T159), (160, T160), (161, T161), (167, T167), (168, T168), (169, T169), (170, T170), (174, T174), (175, T175), (177, T177), (178, T178)]
theorem ty2 : lk tyTab 2 = some T2 := rfl
theorem ty3 : lk tyTab 3 = some T3 := rfl
theorem ty4 : lk tyTab 4 = some T4 := rfl
theorem ty5 : lk tyTab 5 = some T5 := rfl
theorem ty6 : lk tyTab 6 = some T6 := rfl
theorem ty7 : lk tyTab 7 = some T7 := rfl
theorem ty8 : lk tyTab 8 = some T8 := rfl
theorem ty9 : lk tyTab 9 = some T9 := rfl
theorem ty10 : lk tyTab 10 = some T10 := rfl
theorem ty11 : lk tyTab 11 = some T11 := rfl
theorem ty12 : lk tyTab 12 = some T12 := rfl
theorem ty13 : lk tyTab 13 = some T13 := rfl
theorem ty14 : lk tyTab 14 = some T14 := rfl
theorem ty15 : lk tyTab 15 = some T15 := rfl
theorem ty16 : lk tyTab 16 = some T16 := rfl
theorem ty17 : lk tyTab 17 = some T17 := rfl
theorem ty18 : lk tyTab 18 = some T18 := rfl
theorem ty19 : lk tyTab 19 = some T19 := rfl
theorem ty21 : lk tyTab 21 = some T21 := rfl
theorem ty25 : lk tyTab 25 = some T25 := rfl
theorem ty26 : lk tyTab 26 = some T26 := rfl
theorem ty27 : lk tyTab 27 = some T27 := rfl
theorem ty28 : lk tyTab 28 = some T28 := rfl
theorem ty29 : lk tyTab 29 = some T29 := rfl
theorem ty35 : lk tyTab 35 = some T35 := rfl
theorem ty36 : lk tyTab 36 = some T36 := rfl
theorem ty37 : lk tyTab 37 = some T37 := rfl
theorem ty42 : lk tyTab 42 = some T42 := rfl
theorem ty43 : lk tyTab 43 = some T43 := rfl
theorem ty63 : lk tyTab 63 = some T63 := rfl
theorem ty91 : lk tyTab 91 = some T91 := rfl
theorem ty93 : lk tyTab 93 = some T93 := rfl
theorem ty96 : lk tyTab 96 = some T96 := rfl
theorem ty97 : lk tyTab 97 = some T97 := rfl
theorem ty102 : lk tyTab 102 = some T102 := rfl
theorem ty103 : lk tyTab 103 = some T103 := rfl
theorem ty107 : lk tyTab 107 = some T107 := rfl
theorem ty111 : lk tyTab 111 = some T111 := rfl
theorem ty112 : lk tyTab 112 = some T112 := rfl
theorem ty115 : lk tyTab 115 = some T115 := rfl
theorem ty123 : lk tyTab 123 = some T123 := rfl
theorem ty124 : lk tyTab 124 = some T124 := rfl
theorem ty137 : lk tyTab 137 = some T137 := rfl
theorem ty146 : lk tyTab 146 = some T146 := rfl
theorem ty153 : lk tyTab 153 = some T153 := rfl
theorem ty155 : lk tyTab 155 = some T155 := rfl
theorem ty156 : lk tyTab 156 = some T156 := rfl
theorem ty157 : lk tyTab 157 = some T157 := rfl
theorem ty159 : lk tyTab 159 = some T159 := rfl
theorem ty160 : lk tyTab 160 = some T160 := rfl
theorem ty161 : lk tyTab 161 = some T161 := rfl
theorem ty167 : lk tyTab 167 = some T167 := rfl
theorem ty168 : lk tyTab 168 = some T168 := rfl
theorem ty169 : lk tyTab 169 = some T169 := rfl
theorem ty170 : lk tyTab 170 = some T170 := rfl
theorem ty174 : lk tyTab 174 = some T174 := rfl
theorem ty175 : lk tyTab 175 = some T175 := rfl
theorem ty177 : lk tyTab 177 = some T177 := rfl
theorem ty178 : lk tyTab 178 = some T178 := rfl
theorem tyTab_ok (fns : List ((Nat × List Nat) × FSpec)) : EnvTy Tryd.prog ⟨tyTab, fns⟩ := by
  have key : ∀ l : List (Nat × TI), (∀ p ∈ l, TIok Tryd.prog p.1 p.2) → ∀ t ti, lk l t = some ti → TIok Tryd.prog t ti := by
    intro l
    induction l with
    | nil => intro _ t ti h; cases h
    | cons p l ih =>
      intro hl t ti h
      obtain ⟨i, x⟩ := p
      simp only [lk] at h
      split at h
      · rename_i e; subst e; cases h; exact hl (i, ti) (by simp)
      · exact ih (fun p hp => hl p (by simp [hp])) t ti h
  refine key tyTab ?_
  simp only [tyTab, List.mem_cons, List.not_mem_nil, or_false, forall_eq_or_imp, forall_eq]
  exact ⟨T2_ok, T3_ok, T4_ok, T5_ok, T6_ok, T7_ok, T8_ok, T9_ok, T10_ok, T11_ok, T12_ok, T13_ok, T14_ok, T15_ok, T16_ok, T17_ok, T18_ok, T19_ok, T21_ok, T25_ok, T26_ok, T27_ok, T28_ok, T29_ok, T35_ok, T36_ok, T37_ok, T42_ok, T43_ok, T63_ok, T91_ok, T93_ok, T96_ok, T97_ok, T102_ok, T103_ok, T107_ok, T111_ok, T112_ok, T115_ok, T123_ok, T124_ok, T137_ok, T146_ok, T153_ok, T155_ok, T156_ok, T157_ok, T159_ok, T160_ok, T161_ok, T167_ok, T168_ok, T169_ok, T170_ok, T174_ok, T175_ok, T177_ok, T178_ok⟩
theorem mixed : Tryd.prog.follows .mixedOrders = true := by kernel_rfl
theorem gt0 : lk GT 0 = some (.int .u32, G0) := rfl
theorem G0_len : G0.length = 8 := rfl
attribute [simp] gt0 G0_len
theorem gt1 : lk GT 1 = some (.int .u32, G1) := rfl
theorem G1_len : G1.length = 64 := rfl
attribute [simp] gt1 G1_len
theorem gt5 : lk GT 5 = some (.int .u64, G5) := rfl
theorem G5_len : G5.length = 20 := rfl
attribute [simp] gt5 G5_len
attribute [simp] nth_fold nth_zero nth_succ pv_I pv_B pv_S pv_L pv_A pv_at lv_int lv_bool lv_str lv_list lv_agg PTy.leaves PTy.wd inR TI.sz TI.pty lk set1 memB anyB kill strike stillH unpath still prom proms dpB dpAll ndB isNil shOk takeIn takeOk St.slot ofConst1 ofConsts ofConst St.ev SV.cells SV.ofCells SV.leafB leafAll fixL zeroSV zeroSVs zeroLf zeroLfs zeroPV resL resLs resB resBs resT resTs resEs introL noP elP introV introVs packV binI eqSVs shpV binS imp evs closes findFn slsOf slsAll argLs argsLs pathOf rdHs1 rdHsL rdHs rdsHs rdOk lendOk backL backs ownersOf allRd soleMt firstP callRd callPt callOw callOwn callRes idxs oprs fillSV partsOk convRes viewE viewA pathE pathA sliceRes evO etaL storeEl loadEl flatL flatLs flatB leafD leafDs dataB ownO sameO isStruct aggOk leafAt srcOf joinB joinOk appRes copyTo copyRes builtinRes loadHy eqCs lvsOf opRes0 svInts repT leafB arrRes opRes nilRes guardOf csz ksz unwd dstOk putS vcK vwCall skipR stepD vcD growP rdCall convP slcB rn entV entVs entR entO entH hlts domH entA entL ent itVal hsV hsVs itSlots itBoxes dropL hsL hsA onlyR gcH gcA itReach itLay itSt mr mrs itRho itOk introB introBs introR introX introT introTs lkAll numb resMs retOk mtTy bxCs mtSls mtHs finFr finOf SV.lt SV.lts IntKind.min IntKind.max IntKind.signed IntKind.bits LIM
attribute [simp] ty2 T2_sz T2_pty T2 ty3 T3_sz T3_pty T3 ty4 T4_sz T4_pty T4 ty5 T5_sz T5_pty T5 ty6 T6_sz T6_pty T6 ty7 T7_sz T7_pty T7 ty8 T8_sz T8_pty T8 ty9 T9_sz T9_pty T9 ty10 T10_sz T10_pty T10 ty11 T11_sz T11_pty T11 ty12 T12_sz T12_pty T12 ty13 T13_sz T13_pty T13 ty14 T14_sz T14_pty T14 ty15 T15_sz T15_pty T15 ty16 T16_sz T16_pty T16 ty17 T17_sz T17_pty T17 ty18 T18_sz T18_pty T18 ty19 T19_sz T19_pty T19 ty21 T21_sz T21_pty T21 ty25 T25_sz T25_pty T25 ty26 T26_sz T26_pty T26 ty27 T27_sz T27_pty T27 ty28 T28_sz T28_pty T28 ty29 T29_sz T29_pty T29 ty35 T35_sz T35_pty T35 ty36 T36_sz T36_pty T36 ty37 T37_sz T37_pty T37 ty42 T42_sz T42_pty T42 ty43 T43_sz T43_pty T43 ty63 T63_sz T63_pty T63 ty91 T91_sz T91_pty T91 ty93 T93_sz T93_pty T93 ty96 T96_sz T96_pty T96 ty97 T97_sz T97_pty T97 ty102 T102_sz T102_pty T102 ty103 T103_sz T103_pty T103 ty107 T107_sz T107_pty T107 ty111 T111_sz T111_pty T111 ty112 T112_sz T112_pty T112 ty115 T115_sz T115_pty T115 ty123 T123_sz T123_pty T123 ty124 T124_sz T124_pty T124 ty137 T137_sz T137_pty T137 ty146 T146_sz T146_pty T146 ty153 T153_sz T153_pty T153 ty155 T155_sz T155_pty T155 ty156 T156_sz T156_pty T156 ty157 T157_sz T157_pty T157 ty159 T159_sz T159_pty T159 ty160 T160_sz T160_pty T160 ty161 T161_sz T161_pty T161 ty167 T167_sz T167_pty T167 ty168 T168_sz T168_pty T168 ty169 T169_sz T169_pty T169 ty170 T170_sz T170_pty T170 ty174 T174_sz T174_pty T174 ty175 T175_sz T175_pty T175 ty177 T177_sz T177_pty T177 ty178 T178_sz T178_pty T178

end Go.Proofs.YtolgjekokdimoaaDoor
end

section
namespace Go.Proofs.YtolgjekokdimoaaDoor
variable [LaidG]
open Go.Lib Go.RowKit
set_option linter.unusedVariables false

section
variable {P : Program} {w : World}

theorem app_str (t u ty e : TypeId) (i : TypeInfo) (ht : P.underlying t = some (.slice e)) (hu : P.underlying u = some .string) (hi : P.info? e = some i) (hz : i.zero = some (.int .u8 0)) (hsize : i.size = 1) (hby : i.bytes = 1)
    (v : Value) (n : Nat) (xs : List Value) (hown : w.ownsRow 0 e 1 v n xs) (s : ByteArray) (h63 : n + s.size ≤ maxLen) (hbytes : n + s.size ≤ 140737488355328) :
    ∃ v' w', (Builtin.append_ #[t, u] ty #[v, .string s]).run P w = .ok v' w' ∧ w'.ownsRow 0 e 1 v' (n + s.size) (xs ++ strCells s) ∧ w.grownBy w' v.ownBlock ∧ (v'.ownBlock = v.ownBlock ∨ v'.ownBlock = some w.heap.size) := by
  obtain ⟨v', w', hr, h2, h3, h4⟩ := run_append_own_string (P := P) w 0 t u ty e i ht hu hi hz hsize hby v n xs hown s h63 hbytes (Nat.zero_le _)
  refine ⟨v', w', hr, h2, h3, ?_⟩
  have hxl : xs.length = n := by simpa using hown.1
  simp only [maxLen] at h63
  have hown' := hown
  rcases hown.2 with ⟨rfl, rfl⟩ | ⟨g, cap, cur, rfl, _, hg, hnc, hcm, hcs, htake⟩
  · by_cases hm : s.size = 0
    · rw [h4.2 ⟨rfl, hm⟩]; exact .inl rfl
    · have h5 := run_append_nil_string (P := P) w t u ty e i (.int .u8 0) ht hu hi hz s (by omega) (by omega) (by rw [hby]; omega)
      rw [h5] at hr; cases hr; exact .inr rfl
  · by_cases hroom : n + s.size ≤ cap
    · have h5 := run_append_room_string (P := P) w t u ty e i ht hu hi hsize g n cap cur hg s hroom (by rw [Nat.mul_one] at hcs; omega)
      rw [h5] at hr; cases hr; exact .inl rfl
    · have h5 := run_append_grow_string (P := P) w t u ty e i (.int .u8 0) ht hu hi hz ⟨g, 0, none⟩ n cap xs (by rw [hsize]; simpa using hxl) (hown'.cells (g := g) rfl) s (by omega) (by omega) (by rw [hby]; exact growslice_fits (by omega) (by omega))
      rw [h5] at hr; cases hr; exact .inr rfl

theorem app_row (t ty e : TypeId) (i : TypeInfo) (ht : P.underlying t = some (.slice e)) (hi : P.info? e = some i) (hz : i.zero = some (.int .u8 0)) (hsize : i.size = 1) (hby : i.bytes = 1)
    (v : Value) (n : Nat) (xs : List Value) (hown : w.ownsRow 0 e 1 v n xs) (ad : Addr) (x : Value) (hx : w.cell? ad = some x) (h1 : x.oneCell' = true) (hbytes : n + 1 ≤ 140737488355328) :
    ∃ v' w', (Builtin.append_ #[t, t] ty #[v, .slice (some ad) 1 1]).run P w = .ok v' w' ∧ w'.ownsRow 0 e 1 v' (n + 1) (xs ++ [x]) ∧ w.grownBy w' v.ownBlock ∧ (v'.ownBlock = v.ownBlock ∨ v'.ownBlock = some w.heap.size) := by
  have hnews : ∀ j u, ([x] : List Value)[j]? = some u → w.cell? (ad.add j) = some u := by
    intro j u hj
    match j, hj with
    | 0, hj => simp at hj; subst hj; simpa [Addr.add] using hx
  have hone : ∀ u ∈ ([x] : List Value), u.oneCell' = true := by intro u hu; simp at hu; subst hu; exact h1
  obtain ⟨v', w', hr, h2, h3, h4⟩ := run_append_own (P := P) w 0 t ty e i (.int .u8 0) 1 1 ht hi hz hsize hby rfl (by decide) v n xs hown ad 1 1 [x] rfl hnews hone (by unfold maxLen; omega) (by omega) (Nat.zero_le _)
  refine ⟨v', w', hr, h2, h3, ?_⟩
  have hxl : xs.length = n := by simpa using hown.1
  have hown' := hown
  rcases hown.2 with ⟨rfl, rfl⟩ | ⟨g, cap, cur, rfl, _, hg, hnc, hcm, hcs, htake⟩
  · have h5 := run_append_nil (P := P) w t ty e i (.int .u8 0) ht hi hz ad 1 1 [x] (by rw [hsize]; rfl) hnews (by omega) (by omega) (by rw [hby]; omega)
    rw [h5] at hr; cases hr; exact .inr rfl
  · by_cases hroom : n + 1 ≤ cap
    · have h5 := run_append_room (P := P) w t ty e i ht hi g n cap cur hg ad 1 1 [x] (by rw [hsize]; rfl) hnews hone hroom (by rw [hsize, Nat.mul_one]; rw [Nat.mul_one] at hcs; simp; omega)
      rw [h5] at hr; cases hr; exact .inl rfl
    · have h5 := run_append_grow (P := P) w t ty e i (.int .u8 0) ht hi hz ⟨g, 0, none⟩ n cap xs (by rw [hsize]; simpa using hxl) (hown'.cells (g := g) rfl) ad 1 1 [x] (by rw [hsize]; rfl) hnews (by omega) (by omega) (by rw [hby]; exact growslice_fits (by omega) (by omega))
      rw [h5] at hr; cases hr; exact .inr rfl

theorem wpList_app_str {ops : Array Oper} {rest : List Oper} {o : Oper} {a : Act} {Q : Exit → Act → World → Prop} (hgd : o.guard = none) (sl x : Operand) (t u : TypeId)
    (ho : o.op = .call { callee := .builtin .append, args := #[sl, x], argTypes := #[t, u] })
    (e : TypeId) (i : TypeInfo) (ht : P.underlying t = some (.slice e)) (hu : P.underlying u = some .string) (hi : P.info? e = some i) (hz : i.zero = some (.int .u8 0)) (hsize : i.size = 1) (hby : i.bytes = 1)
    (v : Value) (n : Nat) (xs : List Value) (hs : a.eval sl = v) (hown : w.ownsRow 0 e 1 v n xs) (s : ByteArray) (hx : a.eval x = .string s) (h63 : n + s.size ≤ maxLen) (hbytes : n + s.size ≤ 140737488355328)
    (h : ∀ v' w', w'.ownsRow 0 e 1 v' (n + s.size) (xs ++ strCells s) → w.grownBy w' v.ownBlock → (v'.ownBlock = v.ownBlock ∨ v'.ownBlock = some w.heap.size) → wpList P ops Q rest (a.put o.dst v') w') : wpList P ops Q (o :: rest) a w := by
  refine wpList_plain hgd fun K hK => ?_
  obtain ⟨v', w', hr, h2, h3, h4⟩ := app_str (P := P) t u o.type e i ht hu hi hz hsize hby v n xs hown s h63 hbytes
  unfold Oper.wp execOp
  simp only [ho, resolve, invoke, builtin, Sem.run_bind, Sem.run_pure, Result.andThen_ok, List.map_toArray, List.map_cons, List.map_nil, hs, hx, hr]
  exact hK _ _ (h v' w' h2 h3 h4)

theorem wpList_app_row {ops : Array Oper} {rest : List Oper} {o : Oper} {a : Act} {Q : Exit → Act → World → Prop} (hgd : o.guard = none) (sl x : Operand) (t : TypeId)
    (ho : o.op = .call { callee := .builtin .append, args := #[sl, x], argTypes := #[t, t] })
    (e : TypeId) (i : TypeInfo) (ht : P.underlying t = some (.slice e)) (hi : P.info? e = some i) (hz : i.zero = some (.int .u8 0)) (hsize : i.size = 1) (hby : i.bytes = 1)
    (v : Value) (n : Nat) (xs : List Value) (hs : a.eval sl = v) (hown : w.ownsRow 0 e 1 v n xs) (ad : Addr) (y : Value) (hx : a.eval x = .slice (some ad) 1 1) (hy : w.cell? ad = some y) (h1 : y.oneCell' = true) (hbytes : n + 1 ≤ 140737488355328)
    (h : ∀ v' w', w'.ownsRow 0 e 1 v' (n + 1) (xs ++ [y]) → w.grownBy w' v.ownBlock → (v'.ownBlock = v.ownBlock ∨ v'.ownBlock = some w.heap.size) → wpList P ops Q rest (a.put o.dst v') w') : wpList P ops Q (o :: rest) a w := by
  refine wpList_plain hgd fun K hK => ?_
  obtain ⟨v', w', hr, h2, h3, h4⟩ := app_row (P := P) t o.type e i ht hi hz hsize hby v n xs hown ad y hy h1 hbytes
  unfold Oper.wp execOp
  simp only [ho, resolve, invoke, builtin, Sem.run_bind, Sem.run_pure, Result.andThen_ok, List.map_toArray, List.map_cons, List.map_nil, hs, hx, hr]
  exact hK _ _ (h v' w' h2 h3 h4)

end
end Go.Proofs.YtolgjekokdimoaaDoor
end

section
namespace Go.Proofs.YtolgjekokdimoaaDoor
variable [LaidG]
open Go.Lib Go.RowKit
set_option linter.unusedVariables false

def zP : PTy → PV
  | .int k => .int k 0
  | .bool => .bool false
  | .str => .str []
  | _ => PV.d
/-- What clear makes of a state. -/
def cRes (S : St) (o : Oper) (K : St → Prop) : Prop :=
  match o.op with
  | .call c => (match c.callee, c.args.toList, c.argTypes.toList with
    | .builtin .clear, [x], [t] => (match S.ev x, lk tyTab t with
      | some (true, .sl h), some ti => (match lk S.A h with
        | some (.arr (.vw _) T es (.sub r lo)) => (match lk S.A r, lk tyTab ti.el with
          | some (.arr .dp T' es0 _), some te => ti.d = .slice ti.el ∧ te.leaves = [T] ∧ T' = T ∧ leafB T = true ∧ o.guard = none ∧ o.dst = none ∧
            K { S with A := set1 (strike [r] S.A) r (.arr .dp T (es0.take lo ++ List.replicate es.length (zP T) ++ es0.drop (lo + es.length)) .no) }
          | _, _ => False)
        | _ => False)
      | _, _ => False)
    | _, _, _ => False)
  | _ => False
structure CRules (W : List KI → St → Prop) : Prop where
  clr : ∀ (all l : List Oper) (o : Oper) (k : List KI) (S : St), cRes S o (fun S' => W (.run all l :: k) S') → W (.run all (o :: l) :: k) S

section
variable {C : Cx} {S : St} {a : Act} {w w' : World} {o : Oper} {all l : List Oper} {k : List KI}

theorem zero_cells (n : Nat) (z : Value) : (Builtin.zeroCells #[z] n).toList = List.replicate n z := by
  simp [Builtin.zeroCells]
  apply List.ext_getElem
  · simp
  · intro i h1 h2
    simp [Nat.mod_one]
theorem leaf_one {T : PTy} (h : leafB T = true) : (zeroV T).oneCell' = true ∧ T.leaves = [T] ∧ T.wd = 1 ∧ (zP T).leaves = [zP T] ∧ Shp T (zP T) := by
  cases T <;> simp [leafB] at h <;> exact ⟨rfl, rfl, rfl, rfl, fun qs h => by cases h⟩
theorem flatP_one {T : PTy} (h : leafB T = true) : ∀ {es : List PV}, (∀ e ∈ es, Shp T e) → flatP es = es
  | [], _ => rfl
  | e :: es, hs => by
    have h1 : e.leaves = [e] := by
      have := hs e (by simp)
      cases T <;> simp [leafB] at h <;> (cases e <;> first | rfl | exact absurd rfl (this _))
    rw [flatP, List.flatMap_cons, h1, ← flatP, flatP_one h fun x hx => hs x (by simp [hx])]; rfl
theorem flatT_rep {T : PTy} (h : leafB T = true) (n : Nat) : flatT T n = List.replicate n T := by
  have h1 := (leaf_one h).2.1
  unfold flatT
  rw [h1]
  induction n with
  | zero => rfl
  | succ n ih => rw [List.replicate_succ, List.replicate_succ, List.flatten_cons, ih]; rfl
theorem lv_zero {T : PTy} (h : leafB T = true) : ∀ n : Nat, Lv w (List.replicate n T) (List.replicate n (zP T)) (List.replicate n (zeroV T)) []
  | 0 => .nil
  | n + 1 => by
    have ih := lv_zero h n
    rw [List.replicate_succ, List.replicate_succ, List.replicate_succ]
    cases T <;> simp [leafB] at h
    · rename_i k; exact .int (by cases k <;> decide) ih
    · exact .bool ih
    · exact .str (by decide) ih

theorem run_clear (w : World) {P : Program} {t e ty : TypeId} {te : TI} {b o n cp t' : Nat} {c : Array Value} {fr : Nat × Nat} {T : PTy} (ht : P.underlying t = some (.slice e)) (hTe : TIok P e te) (hlv : te.leaves = [T]) (hlf : leafB T = true)
    (hb : w.heap[b]? = some (.cells c t' fr)) (hfit : o + n ≤ c.size) (hfz : ∀ i, i < c.size → ¬ (fr.1 ≤ i ∧ i < fr.2)) :
    ∃ w', (Builtin.clear_ #[t] ty #[.slice (some ⟨b, o, none⟩) n cp]).run P w = .ok (.tuple #[]) w' ∧ w'.heap[b]? = some (.cells (c.toList.take o ++ List.replicate n (zeroV T) ++ c.toList.drop (o + n)).toArray t' fr) ∧
      (∀ k, k ≠ b → w'.heap[k]? = w.heap[k]?) ∧ w'.os = w.os ∧ w'.tape = w.tape ∧ w'.output = w.output ∧ w'.heap.size = w.heap.size := by
  obtain ⟨z, hz, hzc⟩ := run_zero hTe w
  rw [hlv] at hzc
  have hzc' : z.cells = #[zeroV T] := hzc
  obtain ⟨w', r1, r2, r3, r4, r5, r6, r7⟩ := run_storeCells_gen (P := P) b t' fr (List.replicate n (zeroV T)) o 0 c w hb (by simpa using hfit) hfz (fun v hv => by rw [List.eq_of_mem_replicate hv]; exact (leaf_one hlf).1)
  simp only [Nat.add_zero, List.length_replicate] at r2
  cases n with
  | zero =>
    refine ⟨w, by simp [Builtin.clear_, run_underlying ht], ?_, fun _ _ => rfl, rfl, rfl, rfl, rfl⟩
    rw [hb]; simp
  | succ m =>
    refine ⟨w', ?_, r2, r3, r4, r5, r6, r7⟩
    simp [Builtin.clear_, run_underlying ht, hz, hzc', zero_cells, r1]

theorem at_dropC {β : Nat → GV} {ϕ ϕ' : Nat → List Nat} {A' : Hp} {v : Value} (kp : Kp C.keep S) (hn : C.n0 ≤ S.n) (sat : Sat C.N C.w0 C.X C.F S β ϕ a w) (h0 : ∀ h, h < C.n0 → β h = C.β0 h)
    (hd : o.dst = none) (hp : Holds C.w0.heap.size C.X C.F A' β ϕ' w') (hb : Bd S.n β A') (hf : Fr C.w0 C.X w') : At C { S with A := A' } (a.put o.dst v) w' := by
  rw [hd]
  exact ⟨kp, hn, β, ϕ', ⟨sat.df, sat.sz, sat.lp, sat.lt, hp, hb, hf, sat.gl⟩, h0⟩
/-- The list itself afterwards. -/
theorem clear_own {P : Program} {t e ty : TypeId} {te : TI} {T : PTy} {es0 : List PV} {f : List Nat} {v v1 : Value} {lo n : Nat} (ht : P.underlying t = some (.slice e)) (hTe : TIok P e te) (hlv : te.leaves = [T]) (hlf : leafB T = true)
    (hD : OwnD w v T es0 f) (hle : lo + n ≤ es0.length) (hsub : subV v v1 lo n T.wd) :
    ∃ w', (Builtin.clear_ #[t] ty #[v1]).run P w = .ok (.tuple #[]) w' ∧ OwnD w' v T (es0.take lo ++ List.replicate n (zP T) ++ es0.drop (lo + n)) f ∧ (∀ k, k ∉ f → w'.heap[k]? = w.heap[k]?) ∧ w'.os = w.os ∧ w'.tape = w.tape ∧ w'.output = w.output ∧ w'.heap.size = w.heap.size := by
  obtain ⟨g1, g2, g3, g4, g5⟩ := leaf_one hlf
  obtain ⟨ad, l, cap, hv, hv1⟩ := hsub
  rw [g3, Nat.mul_one] at hv1
  by_cases hn : n = 0
  · subst hn
    refine ⟨w, ?_, ?_, fun _ _ => rfl, rfl, rfl, rfl, rfl⟩
    · rw [hv1]
      by_cases hc : cap = lo
      · cases ad <;> simp [Builtin.clear_, run_underlying ht, hc]
      · cases ad <;> simp [Builtin.clear_, run_underlying ht, hc]
    · simpa using hD
  · rcases hD with ⟨rfl, _, _⟩ | ⟨b, f1, cs, rfl, hR, hS, hL⟩
    · simp at hle; omega
    · obtain ⟨⟨o, cap', c, t', fr, hv', hblk, hfit, hncap, hmx, hfz, hcs⟩, hlen, hlim⟩ := hR
      rw [hv] at hv'
      cases hv'
      rw [g3, Nat.mul_one] at hfit hlen
      have hcap : ¬ cap = lo := by omega
      rw [if_neg hcap] at hv1
      have hflat : flatB T = true := by cases T <;> simp [leafB] at hlf <;> rfl
      have hLv := hL.lv
      have hf1 : f1 = [] := flat_fp hLv (flatT_ty hflat _)
      subst hf1
      rw [flatT_rep hlf, flatP_one hlf hS] at hLv
      obtain ⟨w', r1, r2, r3, r4, r5, r6, r7⟩ := run_clear (P := P) (ty := ty) (o := o + lo) (n := n) (cp := cap - lo) w ht hTe hlv hlf hblk (by omega) hfz.1
      have hct : c.toList = c.toList.take o ++ cs ++ c.toList.drop (o + cs.length) := by
        conv => lhs; rw [← List.take_append_drop o c.toList, ← List.take_append_drop cs.length (c.toList.drop o), hcs, List.drop_drop]
        simp
      have hpre : (c.toList.take o).length = o := by rw [List.length_take, Array.length_toList]; omega
      have hnew : c.toList.take (o + lo) ++ List.replicate n (zeroV T) ++ c.toList.drop (o + lo + n) = c.toList.take o ++ (cs.take lo ++ List.replicate n (zeroV T) ++ cs.drop (lo + n)) ++ c.toList.drop (o + cs.length) := by
        have h1 := box_mid (c.toList.take o) cs (c.toList.drop (o + cs.length)) (List.replicate n (zeroV T)) (off := lo) (by rw [List.length_replicate]; omega)
        rw [hpre, ← hct, List.length_replicate] at h1
        exact h1
      have hcl : (cs.take lo ++ List.replicate n (zeroV T) ++ cs.drop (lo + n)).length = es0.length := by
        simp only [List.length_append, List.length_take, List.length_replicate, List.length_drop]; omega
      generalize hXe : cs.take lo ++ List.replicate n (zeroV T) ++ cs.drop (lo + n) = X at hnew hcl
      have hel : (es0.take lo ++ List.replicate n (zP T) ++ es0.drop (lo + n)).length = es0.length := by
        simp only [List.length_append, List.length_take, List.length_replicate, List.length_drop]; omega
      have hSn : ∀ e ∈ es0.take lo ++ List.replicate n (zP T) ++ es0.drop (lo + n), Shp T e := by
        intro e he
        simp only [List.mem_append] at he
        rcases he with (he | he) | he
        · exact hS e (List.mem_of_mem_take he)
        · rw [List.eq_of_mem_replicate he]; exact g5
        · exact hS e (List.mem_of_mem_drop he)
      refine ⟨w', ?_, ?_, fun k hk => r3 k (by simpa using hk), r4, r5, r6, r7⟩
      · rw [hv1]
        simpa [addr_add] using r1
      · refine ownS_D hflat (.inr ⟨b, [], X, rfl, ⟨⟨o, cap, _, t', fr, by rw [hel]; exact hv, r2, ?_, by rw [hel]; exact hncap, hmx, ?_, ?_⟩, ?_, by rw [hel]; exact hlim⟩, hSn, ?_⟩)
        · rw [g3, Nat.mul_one, hnew]
          simp only [List.size_toArray, List.length_append, hcl, hpre, List.length_drop, Array.length_toList]
          omega
        · refine hfz.cast ?_
          rw [hnew]
          simp only [List.size_toArray, List.length_append, hcl, hpre, List.length_drop, Array.length_toList]
          omega
        · rw [hnew, List.toList_toArray, List.append_assoc, List.drop_left' hpre, List.take_left]
        · rw [hcl, hel, g3, Nat.mul_one]
        · rw [hel, flatT_rep hlf, flatP_one hlf hSn]
          have hL' : Lv w' (List.replicate es0.length T) es0 cs [] := hLv.frame (by simp)
          have e1 : List.replicate es0.length T = List.replicate lo T ++ List.replicate (es0.length - lo) T := by rw [List.replicate_append_replicate]; congr 1; omega
          obtain ⟨v1, v2, f1, f2, e2, e3, a1, a2⟩ := hL'.split e1 (List.take_append_drop lo es0).symm (by simp; omega)
          have e3' : f1 = [] ∧ f2 = [] := by simpa using e3.symm
          obtain ⟨rfl, rfl⟩ := e3'
          have e4 : List.replicate (es0.length - lo) T = List.replicate n T ++ List.replicate (es0.length - lo - n) T := by rw [List.replicate_append_replicate]; congr 1; omega
          obtain ⟨v3, v4, f3, f4, e5, e6, b1, b2⟩ := a2.split e4 (List.take_append_drop n (es0.drop lo)).symm (by simp; omega)
          have e6' : f3 = [] ∧ f4 = [] := by simpa using e6.symm
          obtain ⟨rfl, rfl⟩ := e6'
          have l1 : v1.length = lo := by rw [a1.lens.2, List.length_take]; omega
          have l3 : v3.length = n := by rw [b1.lens.2, List.length_take, List.length_drop]; omega
          have c1 : cs.take lo = v1 := by rw [e2, ← l1, List.take_left]
          have c2 : cs.drop (lo + n) = v4 := by rw [e2, ← List.drop_drop, ← l1, List.drop_left, e5, ← l3, List.drop_left]
          have h8 := (a1.append (lv_zero (w := w') hlf n)).append b2
          simp only [List.append_nil] at h8
          rw [List.replicate_append_replicate, List.replicate_append_replicate, List.drop_drop] at h8
          rw [← hXe, c1, c2, show es0.length = lo + n + (es0.length - lo - n) by omega]
          exact h8

theorem crules_wp (hC : C.Ok) (hP : C.P = Tryd.prog) : CRules (WP C) := by
  refine ⟨fun all l o k S h a w hat => ?_⟩
  obtain ⟨kp, hn, β, ϕ, sat, h0⟩ := hat
  show wpList C.P all.toArray (xt C k) (o :: l) a w
  unfold wpList
  unfold cRes at h
  have hT : EnvTy C.P ⟨tyTab, []⟩ := by rw [hP]; exact tyTab_ok []
  have hgd : o.guard = none → Region.wanted o (yielded all.toArray a.tmps) = true := fun hg => guard_sound (g := true) (by rw [hg]; rfl) sat
  split at h
  · rename_i c ho
    split at h
    · rename_i x t hc hargs hats
      split at h
      · rename_i h1 ti hx hti
        split at h
        · rename_i rs T es r lo hl
          split at h
          · rename_i T' es0 p0 te hr hte
            obtain ⟨hd, hlv, rfl, hlf, hg, hdst, hk⟩ := h
            rw [if_pos (hgd hg)]
            obtain ⟨_, x2⟩ := ev_sound hx sat
            have hxv := (x2 rfl).1
            have hu := (hT _ _ hti).und
            rw [hd] at hu
            have hD : OwnD w (β r).v T' es0 (ϕ r) := sat.hp.sat _ _ hr
            have hpt : PthOk S.A β w (β h1) rs T' es (.sub r lo) := sat.hp.pt _ _ hl
            obtain ⟨hrs, es1, p1, hr1, hle, hes, hsub⟩ := hpt
            have e1 : es1 = es0 := by
              rcases hr1 with hr1 | hr1 <;> rw [hr] at hr1 <;> cases hr1
              rfl
            subst e1
            obtain ⟨w', r1, r2, r3, r4, r5, r6, r7⟩ := clear_own (ty := o.type) hu (hT _ _ hte) hlv hlf hD hle hsub
            have hnd := sat.hp.nd _ _ hr
            have h2 := sat.hp.redo (A' := set1 (strike [r] S.A) r (.arr .dp T' (es1.take lo ++ List.replicate es.length (zP T') ++ es1.drop (lo + es.length)) .no)) (f := ϕ r) (hl0 := .arr .dp T' (es1.take lo ++ List.replicate es.length (zP T') ++ es1.drop (lo + es.length)) .no) (fun j => lk_set1' _ _ _) hr r2 (fun b hb' => .inl (by simpa [owned] using hb')) (fun k _ hk => r3 k (by simpa [owned] using hk)) hnd (by simp) (by simp [roots]) (by simp) (fun _ => trivial) (fun _ _ _ h => by cases h)
            have h3 : Bd S.n β (set1 (strike [r] S.A) r (.arr .dp T' (es1.take lo ++ List.replicate es.length (zP T') ++ es1.drop (lo + es.length)) .no)) := bd_put (strike_bd sat.hb [r]) (fun j => lk_set1' _ _ _) (sat.hb _ _ hr).1 trivial
            have hF : Fr w (ϕ r) w' := ⟨r4, r5, r6, by omega, fun b _ hb => r3 b hb⟩
            have h4 : Fr C.w0 C.X w' := sat.fr.trans hF (fun x hx => hx) (fun b hb => sat.hp.own r _ hr b (by simpa [owned] using hb))
            refine .inl (Runs.wp (v := .tuple #[]) (.inl ?_) (hk _ _ (at_dropC kp hn sat h0 hdst h2 h3 h4)))
            have hca : c.args = #[x] := by apply Array.toList_inj.1; rw [hargs]
            have hta : c.argTypes = #[t] := by apply Array.toList_inj.1; rw [hats]
            simp only [SV.val] at hxv
            simp only [execOp, ho, resolve, hc, pure_bind, invoke, hca, hta]
            simp [hxv, builtin, r1]
          · exact h.elim
        · exact h.elim
      · exact h.elim
    · exact h.elim
  · exact h.elim
end

theorem cG {N : Nat} {keep : List Nat} (C : Cx) (hC : C.Ok) (hP : C.P = Tryd.prog) (hN : C.N = N) (hk : C.keep = keep) : CRules (WP C) := crules_wp hC hP
end Go.Proofs.YtolgjekokdimoaaDoor
end

section
namespace Go.Proofs.YtolgjekokdimoaaDoor
open Go.Shelf
def lay_lays105_ren : Go.Shelf.Ren := ⟨fun | 105 => 104 | 212 => 125 | 99 => 126 | 165 => 127 | 166 => 128 | 170 => 129 | 169 => 130 | 263 => 145 | 264 => 146 | 206 => 115 | 240 => 147 | 241 => 148 | 276 => 156 | 277 => 157 | n => n, fun | 9 => 9 | 3 => 3 | 4 => 4 | 20 => 20 | 0 => 0 | 46 => 93 | 109 => 129 | 5 => 5 | 72 => 133 | 76 => 86 | 51 => 102 | 146 => 149 | 53 => 124 | 148 => 151 | 70 => 131 | 37 => 91 | 75 => 85 | 127 => 153 | 164 => 164 | 80 => 136 | n => n, fun | n => n⟩
theorem lay_lays105 : Go.Proofs.Lays.n105 Tryd.prog lay_lays105_ren := {
  mixed := by kernel_rfl
  f99 := Tryd.func126.trans (congrArg some (by kernel_rfl))
  f105 := Tryd.func104.trans (congrArg some (by kernel_rfl))
  f165 := Tryd.func127.trans (congrArg some (by kernel_rfl))
  f166 := Tryd.func128.trans (congrArg some (by kernel_rfl))
  f169 := Tryd.func130.trans (congrArg some (by kernel_rfl))
  f170 := Tryd.func129.trans (congrArg some (by kernel_rfl))
  f206 := Tryd.func115.trans (congrArg some (by kernel_rfl))
  f212 := Tryd.func125.trans (congrArg some (by kernel_rfl))
  f240 := Tryd.func147.trans (congrArg some (by kernel_rfl))
  f241 := Tryd.func148.trans (congrArg some (by kernel_rfl))
  f263 := Tryd.func145.trans (congrArg some (by kernel_rfl))
  f264 := Tryd.func146.trans (congrArg some (by kernel_rfl))
  f276 := Tryd.func156.trans (congrArg some (by kernel_rfl))
  f277 := Tryd.func157.trans (congrArg some (by kernel_rfl))
  t0 := Tryd.underlying0
  a0 := Tryd.isAgg0
  z0 := Tryd.sizeOf0
  v0 := Tryd.zeroValue0
  t3 := Tryd.underlying3
  a3 := Tryd.isAgg3
  z3 := Tryd.sizeOf3
  v3 := Tryd.zeroValue3
  t4 := Tryd.underlying4
  a4 := Tryd.isAgg4
  z4 := Tryd.sizeOf4
  v4 := Tryd.zeroValue4
  t5 := Tryd.underlying5
  a5 := Tryd.isAgg5
  z5 := Tryd.sizeOf5
  v5 := Tryd.zeroValue5
  t9 := Tryd.underlying9
  a9 := Tryd.isAgg9
  z9 := Tryd.sizeOf9
  v9 := Tryd.zeroValue9
  t20 := Tryd.underlying20
  a20 := Tryd.isAgg20
  z20 := Tryd.sizeOf20
  v20 := Tryd.zeroValue20
  t37 := Tryd.underlying91
  a37 := Tryd.isAgg91
  z37 := Tryd.sizeOf91
  v37 := Tryd.zeroValue91
  t46 := Tryd.underlying93
  a46 := Tryd.isAgg93
  z46 := Tryd.sizeOf93
  v46 := Tryd.zeroValue93
  t51 := Tryd.underlying102
  a51 := Tryd.isAgg102
  z51 := Tryd.sizeOf102
  v51 := Tryd.zeroValue102
  t53 := Tryd.underlying124
  a53 := Tryd.isAgg124
  z53 := Tryd.sizeOf124
  v53 := Tryd.zeroValue124
  t70 := Tryd.underlying131
  a70 := Tryd.isAgg131
  z70 := Tryd.sizeOf131
  v70 := Tryd.zeroValue131
  t72 := Tryd.underlying133
  a72 := Tryd.isAgg133
  z72 := Tryd.sizeOf133
  v72 := Tryd.zeroValue133
  t75 := Tryd.underlying85
  a75 := Tryd.isAgg85
  z75 := Tryd.sizeOf85
  v75 := Tryd.zeroValue85
  t76 := Tryd.underlying86
  a76 := Tryd.isAgg86
  z76 := Tryd.sizeOf86
  v76 := Tryd.zeroValue86
  t109 := Tryd.underlying129
  a109 := Tryd.isAgg129
  z109 := Tryd.sizeOf129
  v109 := Tryd.zeroValue129
  t127 := Tryd.underlying153
  a127 := Tryd.isAgg153
  z127 := Tryd.sizeOf153
  v127 := Tryd.zeroValue153
  t146 := Tryd.underlying149
  a146 := Tryd.isAgg149
  z146 := Tryd.sizeOf149
  v146 := Tryd.zeroValue149
  t148 := Tryd.underlying151
  a148 := Tryd.isAgg151
  z148 := Tryd.sizeOf151
  v148 := Tryd.zeroValue151
  t164 := Tryd.underlying164
  a164 := Tryd.isAgg164
  z164 := Tryd.sizeOf164
  v164 := Tryd.zeroValue164 }
theorem lay_Builder_Extra_105 : Builder.Extra Tryd.prog lay_lays105_ren := {
  sizeBuilder := by kernel_rfl
  liesBuilder := by kernel_rfl
  t5 := Tryd.underlying5
  a5 := Tryd.isAgg5
  z5 := Tryd.sizeOf5
  v5 := Tryd.zeroValue5
  infoByte := by kernel_rfl
  cellsByte := by kernel_rfl
  sizeByte := by kernel_rfl
  neB5 := by decide }
open Go.RowKit Go.Lib in
theorem lay_strings_Repeat (s : ByteArray) (c : Nat) (w : World) (hc : c ≤ 9223372036854775807) (hlen : s.size * c ≤ 140737488355328) :
    Calls Tryd.prog 104 #[.string s, .int .i64 c] w fun e w' => e = .returned (.string ⟨(Lib.repeatL s.data.toList c).toArray⟩) ∧ Below w.heap.size w w' := Any.strings_Repeat lay_lays105 lay_Builder_Extra_105 s c w hc hlen
def lay_laysM171_ren : Go.Shelf.Ren := ⟨fun | 171 => 72 | 243 => 88 | 246 => 103 | 283 => 121 | 284 => 122 | 285 => 123 | 286 => 124 | 129 => 141 | 317 => 140 | 318 => 142 | 319 => 143 | 320 => 144 | 337 => 154 | 338 => 155 | n => n, fun | 3 => 3 | 9 => 9 | 2 => 2 | 4 => 4 | 171 => 123 | 0 => 0 | 53 => 124 | 37 => 91 | 5 => 5 | 173 => 127 | 212 => 146 | 51 => 102 | 20 => 20 | 213 => 147 | 46 => 93 | 232 => 167 | 233 => 168 | n => n, fun | 17 => 5 | 18 => 8 | 19 => 9 | n => n⟩
theorem lay_laysM171 : Go.Proofs.LaysM.n171 Tryd.prog lay_laysM171_ren := {
  mixed := by kernel_rfl
  f129 := Tryd.func141.trans (congrArg some (by kernel_rfl))
  f171 := Tryd.func72.trans (congrArg some (by kernel_rfl))
  f243 := Tryd.func88.trans (congrArg some (by kernel_rfl))
  f246 := Tryd.func103.trans (congrArg some (by kernel_rfl))
  f283 := Tryd.func121.trans (congrArg some (by kernel_rfl))
  f284 := Tryd.func122.trans (congrArg some (by kernel_rfl))
  f285 := Tryd.func123.trans (congrArg some (by kernel_rfl))
  f286 := Tryd.func124.trans (congrArg some (by kernel_rfl))
  f317 := Tryd.func140.trans (congrArg some (by kernel_rfl))
  f318 := Tryd.func142.trans (congrArg some (by kernel_rfl))
  f319 := Tryd.func143.trans (congrArg some (by kernel_rfl))
  f320 := Tryd.func144.trans (congrArg some (by kernel_rfl))
  f337 := Tryd.func154.trans (congrArg some (by kernel_rfl))
  f338 := Tryd.func155.trans (congrArg some (by kernel_rfl))
  t0 := Tryd.underlying0
  a0 := Tryd.isAgg0
  z0 := Tryd.sizeOf0
  v0 := Tryd.zeroValue0
  t2 := Tryd.underlying2
  a2 := Tryd.isAgg2
  z2 := Tryd.sizeOf2
  v2 := Tryd.zeroValue2
  t3 := Tryd.underlying3
  a3 := Tryd.isAgg3
  z3 := Tryd.sizeOf3
  v3 := Tryd.zeroValue3
  t4 := Tryd.underlying4
  a4 := Tryd.isAgg4
  z4 := Tryd.sizeOf4
  v4 := Tryd.zeroValue4
  t5 := Tryd.underlying5
  a5 := Tryd.isAgg5
  z5 := Tryd.sizeOf5
  v5 := Tryd.zeroValue5
  t9 := Tryd.underlying9
  a9 := Tryd.isAgg9
  z9 := Tryd.sizeOf9
  v9 := Tryd.zeroValue9
  t20 := Tryd.underlying20
  a20 := Tryd.isAgg20
  z20 := Tryd.sizeOf20
  v20 := Tryd.zeroValue20
  t37 := Tryd.underlying91
  a37 := Tryd.isAgg91
  z37 := Tryd.sizeOf91
  v37 := Tryd.zeroValue91
  t46 := Tryd.underlying93
  a46 := Tryd.isAgg93
  z46 := Tryd.sizeOf93
  v46 := Tryd.zeroValue93
  t51 := Tryd.underlying102
  a51 := Tryd.isAgg102
  z51 := Tryd.sizeOf102
  v51 := Tryd.zeroValue102
  t53 := Tryd.underlying124
  a53 := Tryd.isAgg124
  z53 := Tryd.sizeOf124
  v53 := Tryd.zeroValue124
  t171 := Tryd.underlying123
  a171 := Tryd.isAgg123
  z171 := Tryd.sizeOf123
  v171 := Tryd.zeroValue123
  t173 := Tryd.underlying127
  a173 := Tryd.isAgg127
  z173 := Tryd.sizeOf127
  v173 := Tryd.zeroValue127
  t212 := Tryd.underlying146
  a212 := Tryd.isAgg146
  z212 := Tryd.sizeOf146
  v212 := Tryd.zeroValue146
  t213 := Tryd.underlying147
  a213 := Tryd.isAgg147
  z213 := Tryd.sizeOf147
  t232 := Tryd.underlying167
  a232 := Tryd.isAgg167
  z232 := Tryd.sizeOf167
  v232 := Tryd.zeroValue167
  t233 := Tryd.underlying168
  a233 := Tryd.isAgg168
  z233 := Tryd.sizeOf168
  v233 := Tryd.zeroValue168
  g17 := by kernel_rfl
  g18 := by kernel_rfl
  g19 := by kernel_rfl
  i0 := by kernel_rfl
  i2 := by kernel_rfl
  i3 := by kernel_rfl
  i4 := by kernel_rfl
  i5 := by kernel_rfl
  i9 := by kernel_rfl
  i20 := by kernel_rfl
  i37 := by kernel_rfl
  i46 := by kernel_rfl
  i51 := by kernel_rfl
  i53 := by kernel_rfl
  i171 := by kernel_rfl
  i173 := by kernel_rfl
  i212 := by kernel_rfl
  i232 := by kernel_rfl
  i233 := by kernel_rfl
  m17 := by kernel_rfl
  m18 := by kernel_rfl
  m19 := by kernel_rfl }
open Go.RowKit Go.Sort Go.Lib in
theorem lay_strconv_Itoa (n : Int) (h0 : -9223372036854775808 ≤ n) (h1 : n ≤ 9223372036854775807) (w : World) (htab : Lib.TabIs Tryd.prog w "internal/strconv.uint64pow10" .u64 Lib.pow10Tab) :
    Calls Tryd.prog 72 #[.int .i64 n] w fun e w' => e = .returned (.string ⟨(Lib.itoa n).toArray⟩) ∧ ∃ k os, w' = grow (w.drewN k) os := Any.strconv_Itoa lay_laysM171 n h0 h1 w htab
def lay_lays146_ren : Go.Shelf.Ren := ⟨fun | 146 => 64 | 221 => 84 | 268 => 98 | 138 => 99 | 143 => 100 | 195 => 116 | 197 => 117 | 218 => 118 | 219 => 119 | 260 => 135 | 217 => 136 | 225 => 137 | 224 => 138 | 267 => 139 | 266 => 152 | 314 => 153 | n => n, fun | 9 => 9 | 31 => 25 | 3 => 3 | 4 => 4 | 0 => 0 | 105 => 119 | 21 => 21 | 5 => 5 | 46 => 93 | 119 => 158 | 139 => 161 | 138 => 160 | 146 => 149 | 51 => 102 | n => n, fun | 1 => 4 | 3 => 6 | 4 => 7 | n => n⟩
theorem lay_lays146 : Go.Proofs.Lays.n146 Tryd.prog lay_lays146_ren := {
  mixed := by kernel_rfl
  f138 := Tryd.func99.trans (congrArg some (by kernel_rfl))
  f143 := Tryd.func100.trans (congrArg some (by kernel_rfl))
  f146 := Tryd.func64.trans (congrArg some (by kernel_rfl))
  f195 := Tryd.func116.trans (congrArg some (by kernel_rfl))
  f197 := Tryd.func117.trans (congrArg some (by kernel_rfl))
  f217 := Tryd.func136.trans (congrArg some (by kernel_rfl))
  f218 := Tryd.func118.trans (congrArg some (by kernel_rfl))
  f219 := Tryd.func119.trans (congrArg some (by kernel_rfl))
  f221 := Tryd.func84.trans (congrArg some (by kernel_rfl))
  f224 := Tryd.func138.trans (congrArg some (by kernel_rfl))
  f225 := Tryd.func137.trans (congrArg some (by kernel_rfl))
  f260 := Tryd.func135.trans (congrArg some (by kernel_rfl))
  f266 := Tryd.func152.trans (congrArg some (by kernel_rfl))
  f267 := Tryd.func139.trans (congrArg some (by kernel_rfl))
  f268 := Tryd.func98.trans (congrArg some (by kernel_rfl))
  f314 := Tryd.func153.trans (congrArg some (by kernel_rfl))
  t0 := Tryd.underlying0
  a0 := Tryd.isAgg0
  z0 := Tryd.sizeOf0
  v0 := Tryd.zeroValue0
  t3 := Tryd.underlying3
  a3 := Tryd.isAgg3
  z3 := Tryd.sizeOf3
  v3 := Tryd.zeroValue3
  t4 := Tryd.underlying4
  a4 := Tryd.isAgg4
  z4 := Tryd.sizeOf4
  v4 := Tryd.zeroValue4
  t5 := Tryd.underlying5
  a5 := Tryd.isAgg5
  z5 := Tryd.sizeOf5
  v5 := Tryd.zeroValue5
  t9 := Tryd.underlying9
  a9 := Tryd.isAgg9
  z9 := Tryd.sizeOf9
  v9 := Tryd.zeroValue9
  t21 := Tryd.underlying21
  a21 := Tryd.isAgg21
  z21 := Tryd.sizeOf21
  v21 := Tryd.zeroValue21
  t31 := Tryd.underlying25
  a31 := Tryd.isAgg25
  z31 := Tryd.sizeOf25
  v31 := Tryd.zeroValue25
  t46 := Tryd.underlying93
  a46 := Tryd.isAgg93
  z46 := Tryd.sizeOf93
  v46 := Tryd.zeroValue93
  t51 := Tryd.underlying102
  a51 := Tryd.isAgg102
  z51 := Tryd.sizeOf102
  v51 := Tryd.zeroValue102
  t105 := Tryd.underlying119
  a105 := Tryd.isAgg119
  z105 := Tryd.sizeOf119
  v105 := Tryd.zeroValue119
  t119 := Tryd.underlying158
  a119 := Tryd.isAgg158
  z119 := Tryd.sizeOf158
  t138 := Tryd.underlying160
  a138 := Tryd.isAgg160
  z138 := Tryd.sizeOf160
  v138 := Tryd.zeroValue160
  t139 := Tryd.underlying161
  a139 := Tryd.isAgg161
  z139 := Tryd.sizeOf161
  v139 := Tryd.zeroValue161
  t146 := Tryd.underlying149
  a146 := Tryd.isAgg149
  z146 := Tryd.sizeOf149
  v146 := Tryd.zeroValue149
  g1 := by kernel_rfl
  g3 := by kernel_rfl
  g4 := by kernel_rfl }
open Go.RowKit Go.Lib in
theorem lay_strings_Split (s sep : ByteArray) (m : Int) (w : World) (hs : s.size < 4294967281) (hm : w.cell? ⟨4, 0, none⟩ = some (.int .i64 m)) (h1 : 1 ≤ sep.size) :
    Calls Tryd.prog 64 #[.string s, .string sep] w fun e w' =>
      e = .returned (.slice (some ⟨w.heap.size, 0, none⟩) (Lib.countB s sep + 1) (Lib.countB s sep + 1)) ∧ w' = w.alloc (.cells ((Lib.splitB sep 0 (Lib.countB s sep) s).map Value.string).toArray 9) := Any.strings_Split lay_lays146 (by kernel_rfl) s sep m w hs hm h1
def lay_lays101_ren : Go.Shelf.Ren := ⟨fun | 101 => 81 | 208 => 97 | 206 => 115 | n => n, fun | 9 => 9 | 4 => 4 | 3 => 3 | n => n, fun | n => n⟩
theorem lay_lays101 : Go.Proofs.Lays.n101 Tryd.prog lay_lays101_ren := {
  mixed := by kernel_rfl
  f101 := Tryd.func81.trans (congrArg some (by kernel_rfl))
  f206 := Tryd.func115.trans (congrArg some (by kernel_rfl))
  f208 := Tryd.func97.trans (congrArg some (by kernel_rfl))
  t3 := Tryd.underlying3
  a3 := Tryd.isAgg3
  z3 := Tryd.sizeOf3
  v3 := Tryd.zeroValue3
  t4 := Tryd.underlying4
  a4 := Tryd.isAgg4
  z4 := Tryd.sizeOf4
  v4 := Tryd.zeroValue4
  t9 := Tryd.underlying9
  a9 := Tryd.isAgg9
  z9 := Tryd.sizeOf9
  v9 := Tryd.zeroValue9 }
open Go.RowKit Go.Lib in
theorem lay_strings_TrimPrefix (s p : ByteArray) (w : World) :
    Calls Tryd.prog 81 #[.string s, .string p] w fun e w' => e = .returned (.string ⟨(Lib.trimPrefix s.data.toList p.data.toList).toArray⟩) ∧ w' = w := Any.strings_TrimPrefix lay_lays101 s p w
def lay_laysC172_ren : Go.Shelf.Ren := ⟨fun | 172 => 80 | 244 => 95 | 245 => 96 | 247 => 110 | 279 => 111 | 280 => 112 | 281 => 113 | 282 => 114 | 287 => 132 | 316 => 133 | 171 => 72 | 205 => 134 | 321 => 150 | 322 => 151 | 243 => 88 | 246 => 103 | 283 => 121 | 284 => 122 | 285 => 123 | 286 => 124 | 129 => 141 | 317 => 140 | 318 => 142 | 319 => 143 | 320 => 144 | 337 => 154 | 338 => 155 | n => n, fun | 9 => 9 | 3 => 3 | 75 => 85 | 76 => 86 | 4 => 4 | 5 => 5 | 167 => 112 | 37 => 91 | 0 => 0 | 85 => 113 | 2 => 2 | 168 => 115 | 53 => 124 | 175 => 139 | 46 => 93 | 210 => 142 | 127 => 153 | 145 => 157 | 143 => 155 | 21 => 21 | 171 => 123 | 173 => 127 | 212 => 146 | 51 => 102 | 20 => 20 | 213 => 147 | 232 => 167 | 233 => 168 | 80 => 136 | n => n, fun | 15 => 2 | 16 => 3 | 17 => 5 | 18 => 8 | 19 => 9 | n => n⟩
theorem lay_laysC172 : Go.Proofs.LaysC.n172 Tryd.prog lay_laysC172_ren := {
  mixed := by kernel_rfl
  f129 := Tryd.func141.trans (congrArg some (by kernel_rfl))
  f171 := Tryd.func72.trans (congrArg some (by kernel_rfl))
  f172 := Tryd.func80.trans (congrArg some (by kernel_rfl))
  f205 := Tryd.func134.trans (congrArg some (by kernel_rfl))
  f243 := Tryd.func88.trans (congrArg some (by kernel_rfl))
  f244 := Tryd.func95.trans (congrArg some (by kernel_rfl))
  f245 := Tryd.func96.trans (congrArg some (by kernel_rfl))
  f246 := Tryd.func103.trans (congrArg some (by kernel_rfl))
  f247 := Tryd.func110.trans (congrArg some (by kernel_rfl))
  f279 := Tryd.func111.trans (congrArg some (by kernel_rfl))
  f280 := Tryd.func112.trans (congrArg some (by kernel_rfl))
  f281 := Tryd.func113.trans (congrArg some (by kernel_rfl))
  f282 := Tryd.func114.trans (congrArg some (by kernel_rfl))
  f283 := Tryd.func121.trans (congrArg some (by kernel_rfl))
  f284 := Tryd.func122.trans (congrArg some (by kernel_rfl))
  f285 := Tryd.func123.trans (congrArg some (by kernel_rfl))
  f286 := Tryd.func124.trans (congrArg some (by kernel_rfl))
  f287 := Tryd.func132.trans (congrArg some (by kernel_rfl))
  f316 := Tryd.func133.trans (congrArg some (by kernel_rfl))
  f317 := Tryd.func140.trans (congrArg some (by kernel_rfl))
  f318 := Tryd.func142.trans (congrArg some (by kernel_rfl))
  f319 := Tryd.func143.trans (congrArg some (by kernel_rfl))
  f320 := Tryd.func144.trans (congrArg some (by kernel_rfl))
  f321 := Tryd.func150.trans (congrArg some (by kernel_rfl))
  f322 := Tryd.func151.trans (congrArg some (by kernel_rfl))
  f337 := Tryd.func154.trans (congrArg some (by kernel_rfl))
  f338 := Tryd.func155.trans (congrArg some (by kernel_rfl))
  t0 := Tryd.underlying0
  a0 := Tryd.isAgg0
  z0 := Tryd.sizeOf0
  v0 := Tryd.zeroValue0
  t2 := Tryd.underlying2
  a2 := Tryd.isAgg2
  z2 := Tryd.sizeOf2
  v2 := Tryd.zeroValue2
  t3 := Tryd.underlying3
  a3 := Tryd.isAgg3
  z3 := Tryd.sizeOf3
  v3 := Tryd.zeroValue3
  t4 := Tryd.underlying4
  a4 := Tryd.isAgg4
  z4 := Tryd.sizeOf4
  v4 := Tryd.zeroValue4
  t5 := Tryd.underlying5
  a5 := Tryd.isAgg5
  z5 := Tryd.sizeOf5
  v5 := Tryd.zeroValue5
  t9 := Tryd.underlying9
  a9 := Tryd.isAgg9
  z9 := Tryd.sizeOf9
  v9 := Tryd.zeroValue9
  t20 := Tryd.underlying20
  a20 := Tryd.isAgg20
  z20 := Tryd.sizeOf20
  v20 := Tryd.zeroValue20
  t21 := Tryd.underlying21
  a21 := Tryd.isAgg21
  z21 := Tryd.sizeOf21
  v21 := Tryd.zeroValue21
  t37 := Tryd.underlying91
  a37 := Tryd.isAgg91
  z37 := Tryd.sizeOf91
  v37 := Tryd.zeroValue91
  t46 := Tryd.underlying93
  a46 := Tryd.isAgg93
  z46 := Tryd.sizeOf93
  v46 := Tryd.zeroValue93
  t51 := Tryd.underlying102
  a51 := Tryd.isAgg102
  z51 := Tryd.sizeOf102
  v51 := Tryd.zeroValue102
  t53 := Tryd.underlying124
  a53 := Tryd.isAgg124
  z53 := Tryd.sizeOf124
  v53 := Tryd.zeroValue124
  t75 := Tryd.underlying85
  a75 := Tryd.isAgg85
  z75 := Tryd.sizeOf85
  v75 := Tryd.zeroValue85
  t76 := Tryd.underlying86
  a76 := Tryd.isAgg86
  z76 := Tryd.sizeOf86
  v76 := Tryd.zeroValue86
  t85 := Tryd.underlying113
  a85 := Tryd.isAgg113
  z85 := Tryd.sizeOf113
  v85 := Tryd.zeroValue113
  t127 := Tryd.underlying153
  a127 := Tryd.isAgg153
  z127 := Tryd.sizeOf153
  v127 := Tryd.zeroValue153
  t143 := Tryd.underlying155
  a143 := Tryd.isAgg155
  z143 := Tryd.sizeOf155
  v143 := Tryd.zeroValue155
  t145 := Tryd.underlying157
  a145 := Tryd.isAgg157
  z145 := Tryd.sizeOf157
  v145 := Tryd.zeroValue157
  t167 := Tryd.underlying112
  a167 := Tryd.isAgg112
  z167 := Tryd.sizeOf112
  v167 := Tryd.zeroValue112
  t168 := Tryd.underlying115
  a168 := Tryd.isAgg115
  z168 := Tryd.sizeOf115
  v168 := Tryd.zeroValue115
  t171 := Tryd.underlying123
  a171 := Tryd.isAgg123
  z171 := Tryd.sizeOf123
  v171 := Tryd.zeroValue123
  t173 := Tryd.underlying127
  a173 := Tryd.isAgg127
  z173 := Tryd.sizeOf127
  v173 := Tryd.zeroValue127
  t175 := Tryd.underlying139
  a175 := Tryd.isAgg139
  z175 := Tryd.sizeOf139
  v175 := Tryd.zeroValue139
  t210 := Tryd.underlying142
  a210 := Tryd.isAgg142
  z210 := Tryd.sizeOf142
  v210 := Tryd.zeroValue142
  t212 := Tryd.underlying146
  a212 := Tryd.isAgg146
  z212 := Tryd.sizeOf146
  v212 := Tryd.zeroValue146
  t213 := Tryd.underlying147
  a213 := Tryd.isAgg147
  z213 := Tryd.sizeOf147
  t232 := Tryd.underlying167
  a232 := Tryd.isAgg167
  z232 := Tryd.sizeOf167
  v232 := Tryd.zeroValue167
  t233 := Tryd.underlying168
  a233 := Tryd.isAgg168
  z233 := Tryd.sizeOf168
  v233 := Tryd.zeroValue168
  g15 := by kernel_rfl
  g16 := by kernel_rfl
  g17 := by kernel_rfl
  g18 := by kernel_rfl
  g19 := by kernel_rfl
  t80 := Tryd.underlying136
  a80 := Tryd.isAgg136
  z80 := Tryd.sizeOf136
  v80 := Tryd.zeroValue136
  i0 := by kernel_rfl
  i2 := by kernel_rfl
  i3 := by kernel_rfl
  i4 := by kernel_rfl
  i5 := by kernel_rfl
  i9 := by kernel_rfl
  i20 := by kernel_rfl
  i21 := by kernel_rfl
  i37 := by kernel_rfl
  i46 := by kernel_rfl
  i51 := by kernel_rfl
  i53 := by kernel_rfl
  i75 := by kernel_rfl
  i76 := by kernel_rfl
  i80 := by kernel_rfl
  i85 := by kernel_rfl
  i127 := by kernel_rfl
  i143 := by kernel_rfl
  i145 := by kernel_rfl
  i167 := by kernel_rfl
  i168 := by kernel_rfl
  i171 := by kernel_rfl
  i173 := by kernel_rfl
  i175 := by kernel_rfl
  i210 := by kernel_rfl
  i212 := by kernel_rfl
  i232 := by kernel_rfl
  i233 := by kernel_rfl
  m15 := by kernel_rfl
  m16 := by kernel_rfl
  m17 := by kernel_rfl
  m18 := by kernel_rfl
  m19 := by kernel_rfl
  c0 := by kernel_rfl
  c2 := by kernel_rfl
  c3 := by kernel_rfl
  c4 := by kernel_rfl
  c5 := by kernel_rfl
  c9 := by kernel_rfl
  c20 := by kernel_rfl
  c21 := by kernel_rfl
  c37 := by kernel_rfl
  c46 := by kernel_rfl
  c51 := by kernel_rfl
  c53 := by kernel_rfl
  c75 := by kernel_rfl
  c76 := by kernel_rfl
  c80 := by kernel_rfl
  c85 := by kernel_rfl
  c127 := by kernel_rfl
  c143 := by kernel_rfl
  c145 := by kernel_rfl
  c167 := by kernel_rfl
  c168 := by kernel_rfl
  c171 := by kernel_rfl
  c173 := by kernel_rfl
  c175 := by kernel_rfl
  c210 := by kernel_rfl
  c212 := by kernel_rfl
  c213 := by kernel_rfl
  c232 := by kernel_rfl
  c233 := by kernel_rfl }
open Go.RowKit in
theorem lay_strconv_Atoi_ok (s : ByteArray) (hmax : s.size ≤ 9223372036854775806) (v : Int) (h : Lib.atoiAll s.data.toList = .ok v) (w : World) :
    Calls Tryd.prog 80 #[.string s] w fun e w' => e = .returned (.tuple #[.int .i64 v, .nilIface]) ∧ (w' = w ∨ ∃ t, w' = Lib.bytesWorld w 5 t) := Any.strconv_Atoi_ok lay_laysC172 s hmax v h w
open Go.RowKit in
theorem lay_strconv_Atoi_range (s : ByteArray) (hlim : s.size ≤ 281474976710656) (h : Lib.atoiAll s.data.toList = .range) (ev : Value) (w : World) (hv : w.cell? ⟨3, 0, none⟩ = some ev) (hev : ev = .nilIface ∨ ∃ te pe, ev = .iface te pe) :
    Calls Tryd.prog 80 #[.string s] w fun e w' => ∃ N, e = .returned (.tuple #[.int .i64 (Lib.atoiSat s.data.toList), .iface 115 (.pointer (some ⟨N, 0, none⟩))]) ∧ w.heap.size ≤ N ∧ w'.heap[N]? = some (.cells #[.string ⟨#[65, 116, 111, 105]⟩, .string s, ev] 142 (0, 0)) ∧ Below w.heap.size w w' := Any.strconv_Atoi_range lay_laysC172 s hlim h ev w hv hev
end Go.Proofs.YtolgjekokdimoaaDoor
end

section
namespace Go.Proofs.YtolgjekokdimoaaDoor
open Go.Lib

/-- The parts of a text, behind what the first part has already. -/
def cutA (x : UInt8) : List UInt8 → List UInt8 → List (List UInt8)
  | acc, [] => [acc]
  | acc, c :: l => if c = x then acc :: cutA x [] l else cutA x (acc ++ [c]) l
theorem cutA_no {x : UInt8} : ∀ (s acc : List UInt8), (∀ c ∈ s, c ≠ x) → cutA x acc s = [acc ++ s]
  | [], acc, _ => by simp [cutA]
  | c :: s, acc, h => by
    rw [cutA, if_neg (h c (by simp)), cutA_no s _ fun y hy => h y (by simp [hy])]; simp
theorem cutA_hit {x : UInt8} : ∀ (a b acc : List UInt8), (∀ c ∈ a, c ≠ x) → cutA x acc (a ++ x :: b) = (acc ++ a) :: cutA x [] b
  | [], b, acc, _ => by rw [List.nil_append, cutA, if_pos rfl, List.append_nil]
  | c :: a, b, acc, h => by
    rw [List.cons_append, cutA, if_neg (h c (by simp)), cutA_hit a b _ fun y hy => h y (by simp [hy])]; simp
theorem index_one (x : UInt8) : ∀ s : List UInt8, (index s [x] = -1 ∧ ∀ c ∈ s, c ≠ x) ∨ ∃ a b, s = a ++ x :: b ∧ (∀ c ∈ a, c ≠ x) ∧ index s [x] = a.length
  | [] => .inl ⟨rfl, by simp⟩
  | c :: s => by
    by_cases hc : x = c
    · subst hc
      exact .inr ⟨[], s, rfl, by simp, by simp [index]⟩
    · have hp : ([x].isPrefixOf (c :: s)) = false := by simp [List.isPrefixOf, hc]
      rcases index_one x s with ⟨h1, h2⟩ | ⟨a, b, h1, h2, h3⟩
      · refine .inl ⟨by simp [index, hp, h1], fun y hy => ?_⟩
        rcases List.mem_cons.1 hy with rfl | hy
        · exact fun e => hc e.symm
        · exact h2 y hy
      · refine .inr ⟨c :: a, b, by rw [h1]; rfl, fun y hy => ?_, ?_⟩
        · rcases List.mem_cons.1 hy with rfl | hy
          · exact fun e => hc e.symm
          · exact h2 y hy
        · have : ¬ (index s [x] == -1) = true := by rw [h3]; simp <;> omega
          rw [index, hp, if_neg (by decide), if_neg this, h3, List.length_cons]; omega
theorem split_cut (x : UInt8) : ∀ (n : Nat) (s : List UInt8), s.length ≤ n → splitK [x] 0 (count s [x]) s = cutA x [] s := by
  intro n
  induction n with
  | zero =>
    intro s h
    have : s = [] := List.eq_nil_of_length_eq_zero (by omega)
    subst this
    rfl
  | succ n ih =>
    intro s h
    rcases index_one x s with ⟨h1, h2⟩ | ⟨a, b, h1, h2, h3⟩
    · rw [count_miss h1, cutA_no s [] h2]; rfl
    · have hne : ¬ (index s [x] == -1) = true := by rw [h3]; simp <;> omega
      rw [count_hit (by simp) h3, Nat.add_comm, splitK, if_neg hne, h3]
      have hd : s.drop (((a.length : Int).toNat) + [x].length) = b := by
        rw [h1, Int.toNat_natCast]; simp [List.drop_append]
      have hd' : s.drop (a.length + [x].length) = b := by
        rw [h1]; simp [List.drop_append]
      rw [hd, hd', ih b (by rw [h1] at h; simp at h; omega), h1, cutA_hit a b [] h2]
      simp
theorem cut_count (x : UInt8) : ∀ (n : Nat) (s : List UInt8), s.length ≤ n → (cutA x [] s).length = count s [x] + 1 := by
  intro n
  induction n with
  | zero =>
    intro s h
    have : s = [] := List.eq_nil_of_length_eq_zero (by omega)
    subst this
    rfl
  | succ n ih =>
    intro s h
    rcases index_one x s with ⟨h1, h2⟩ | ⟨a, b, h1, h2, h3⟩
    · rw [count_miss h1, cutA_no s [] h2]; rfl
    · rw [count_hit (by simp) h3]
      have hd' : s.drop (a.length + [x].length) = b := by
        rw [h1]; simp [List.drop_append]
      rw [hd', h1, cutA_hit a b [] h2, List.length_cons, ih b (by rw [h1] at h; simp at h; omega), Nat.add_comm 1]
theorem cutA_ne {x : UInt8} : ∀ (s acc : List UInt8), cutA x acc s ≠ []
  | [], acc => by simp [cutA]
  | c :: s, acc => by rw [cutA]; split; · simp
                      · exact cutA_ne s _
theorem cutA_len {x : UInt8} : ∀ (s acc : List UInt8), (cutA x acc s).length ≤ s.length + 1
  | [], acc => by simp [cutA]
  | c :: s, acc => by
    rw [cutA]; split
    · have := cutA_len (x := x) s []
      simp; omega
    · have := cutA_len (x := x) s (acc ++ [c])
      simp; omega
theorem cutA_part {x : UInt8} : ∀ (s acc : List UInt8), ∀ p ∈ cutA x acc s, p.length ≤ acc.length + s.length
  | [], acc, p, h => by simp [cutA] at h; simp [h]
  | c :: s, acc, p, h => by
    rw [cutA] at h
    split at h
    · rcases List.mem_cons.1 h with rfl | h
      · omega
      · have := cutA_part s [] p h
        simp at this ⊢; omega
    · have := cutA_part s (acc ++ [c]) p h
      simp at this ⊢; omega
/-- The parts, joined again. -/
def joinA (x : UInt8) : List (List UInt8) → List UInt8
  | [] => []
  | [p] => p
  | p :: q :: r => p ++ x :: joinA x (q :: r)
theorem join_cut {x : UInt8} : ∀ (s acc : List UInt8), joinA x (cutA x acc s) = acc ++ s
  | [], acc => by simp [cutA, joinA]
  | c :: s, acc => by
    rw [cutA]
    split
    · rename_i h
      subst h
      cases hc : cutA c [] s with
      | nil => exact absurd hc (cutA_ne _ _)
      | cons q r =>
        rw [joinA, ← hc, join_cut s []]; simp
    · rw [join_cut s (acc ++ [c])]; simp

end Go.Proofs.YtolgjekokdimoaaDoor
end

section
namespace Go.Proofs.YtolgjekokdimoaaDoor
variable [LaidG]
variable [LaidN 4]
open Go.Shelf Go.RowKit
set_option maxRecDepth 100000
set_option linter.unusedVariables false

section
variable {w : World}
theorem lv_strs : ∀ {L : List ByteArray}, (∀ b ∈ L, b.data.toList.length ≤ LIM) → Lv w (flatT .str L.length) (flatP (L.map fun b => PV.str b.data.toList)) (L.map Value.string) []
  | [], _ => .nil
  | b :: L, h => Lv.str (h b (by simp)) (lv_strs (L := L) fun x hx => h x (by simp [hx]))
theorem split_ret {L : List ByteArray} {t n : Nat} (hn : L.length = n) (hne : L ≠ []) (hl : ∀ b ∈ L, b.data.toList.length ≤ LIM) (hlim : L.length ≤ LIM) :
    RetVs (w.alloc (.cells (L.map Value.string).toArray t)) [.list .str] [.list (L.map fun b => PV.str b.data.toList)] [.slice (some ⟨w.heap.size, 0, none⟩) n n] [w.heap.size] := by
  subst hn
  have hb : (w.alloc (.cells (L.map Value.string).toArray t)).heap[w.heap.size]? = some (.cells (L.map Value.string).toArray t (0, 0)) := Array.getElem?_push_size
  have hS : ∀ e ∈ L.map (fun b => PV.str b.data.toList), Shp .str e := by
    intro e he
    obtain ⟨b, _, rfl⟩ := List.mem_map.1 he
    intro qs h; cases h
  have hO : OwnD (w.alloc (.cells (L.map Value.string).toArray t)) (.slice (some ⟨w.heap.size, 0, none⟩) L.length L.length) .str (L.map fun b => PV.str b.data.toList) [w.heap.size] := by
    refine ownS_D rfl (.inr ⟨w.heap.size, [], L.map Value.string, rfl, ⟨⟨0, L.length, _, t, (0, 0), by rw [List.length_map], hb, ?_, ?_, ?_, NoFz.none _ _, ?_⟩, ?_, ?_⟩, hS, ?_⟩)
    · simp [PTy.wd, PTy.leaves]
    · simp
    · unfold maxLen; unfold LIM at hlim; omega
    · show ((L.map Value.string).drop 0).take (L.map Value.string).length = _
      rw [List.drop_zero, List.take_length]
    · simp [PTy.wd, PTy.leaves]
    · simpa using hlim
    · rw [List.length_map]; exact lv_strs hl
  have := RetVs.cons (t := .list .str) ⟨[[w.heap.size]], .list hO .nil, rfl⟩ (RetVs.nil (w := w.alloc (.cells (L.map Value.string).toArray t)))
  simpa using this
end

theorem cell_is {w : World} {X : List Nat} {g : Nat} {b : Bool} (h : GlOk w X) (hg : lk GE g = some b) (hl : LaidG.s g = true) : ∃ v, w.cell? ⟨g, 0, none⟩ = some v ∧ GlV b v := by
  obtain ⟨_, v, t, q, r⟩ := h.one g b hg hl
  exact ⟨v, by simp [World.cell?, q], r⟩
def cutP (x : UInt8) (t : List UInt8) : List PV := (cutA x [] t).map PV.str
def c_Split : FSpec := ⟨[(.rd, .str), (.rd, .str)], [.list .str], true, fun ps => (nth ps 1).S.length = 1 ∧ (nth ps 0).S.length ≤ 1048576, fun ps => [.list (cutP ((nth ps 1).S.headD 0) (nth ps 0).S)], fun _ => []⟩
theorem splitB_cut (x : UInt8) (l : List UInt8) : (Lib.splitB ⟨[x].toArray⟩ 0 (Lib.countB ⟨l.toArray⟩ ⟨[x].toArray⟩) ⟨l.toArray⟩).map (fun b => PV.str b.data.toList) = cutP x l := by
  have h := Lib.splitB_data ⟨[x].toArray⟩ 0 (Lib.countB ⟨l.toArray⟩ ⟨[x].toArray⟩) ⟨l.toArray⟩
  have h2 : (Lib.splitB ⟨[x].toArray⟩ 0 (Lib.countB ⟨l.toArray⟩ ⟨[x].toArray⟩) ⟨l.toArray⟩).map (·.data.toList) = cutA x [] l := by
    rw [h]
    exact split_cut x l.length l (Nat.le_refl _)
  rw [cutP, ← h2, List.map_map]; rfl
theorem meets_Split : Meets Tryd.prog 64 c_Split := by
  intro w ps vs fs fl ms hA hnd hdj hpre hgl
  cases hA with
  | rd h1 hA => cases hA with
  | rd h2 hA =>
  cases hA
  obtain ⟨h1, rfl⟩ := h1
  obtain ⟨h2, rfl⟩ := h2
  cases h1 with | str hl h1 =>
  cases h1
  cases h2 with | str hl2 h2 =>
  cases h2
  rename_i l x
  obtain ⟨p1, p2⟩ := hpre
  simp only [nth, List.getD_cons_zero, List.getD_cons_succ, PV.S] at p1 p2
  obtain ⟨x, rfl⟩ : ∃ y, x = [y] := by
    match x, p1 with
    | [y], _ => exact ⟨y, rfl⟩
  obtain ⟨_, hm, m, rfl⟩ := cell_is hgl (g := 4) (b := false) rfl (by simp)
  refine (lay_strings_Split ⟨l.toArray⟩ ⟨[x].toArray⟩ m w (by show l.toArray.size < _; simp; omega) hm (Nat.le_refl 1)).mono ?_
  rintro e w' ⟨rfl, rfl⟩
  have hcut := splitB_cut x l
  have hcl := cutA_len (x := x) l []
  have hct := cut_count x l.length l (Nat.le_refl _)
  have hlen : (Lib.splitB ⟨[x].toArray⟩ 0 (Lib.countB ⟨l.toArray⟩ ⟨[x].toArray⟩) ⟨l.toArray⟩).length = Lib.countB ⟨l.toArray⟩ ⟨[x].toArray⟩ + 1 := by
    have h1 := congrArg List.length hcut
    simp only [cutP, List.length_map] at h1
    rw [h1]; exact hct
  have hall : ∀ b ∈ Lib.splitB ⟨[x].toArray⟩ 0 (Lib.countB ⟨l.toArray⟩ ⟨[x].toArray⟩) ⟨l.toArray⟩, b.data.toList.length ≤ LIM := by
    intro b hb
    have h1 : PV.str b.data.toList ∈ cutP x l := by rw [← hcut]; exact List.mem_map.2 ⟨b, hb, rfl⟩
    obtain ⟨p, hp, e⟩ := List.mem_map.1 h1
    cases e
    have := cutA_part l [] _ hp
    simp only [List.length_nil] at this
    unfold LIM; omega
  have hret := split_ret (w := w) (t := 9) hlen (by intro e; rw [e] at hlen; simp at hlen) hall (by rw [hlen]; unfold LIM; have : Lib.countB ⟨l.toArray⟩ ⟨[x].toArray⟩ + 1 = (cutA x [] l).length := hct.symm; omega)
  rw [hcut] at hret
  exact ⟨_, rfl, Fr.alloc (Fr.refl w _) _, .inl ⟨rfl, _, [], hret, .rd (.rd .nil), by simp, fun x hx => by simp at hx; omega⟩⟩
theorem k_Split : FnOk Tryd.prog 64 c_Split := ⟨meets_Split, _, Tryd.func64, rfl, by decide⟩

end Go.Proofs.YtolgjekokdimoaaDoor
end

section
namespace Go.Proofs.YtolgjekokdimoaaDoor
variable [LaidG]
set_option maxRecDepth 100000
set_option linter.unusedSimpArgs false

def inB (n lo hi : Int) : Bool := decide (n ≥ lo) && decide (n ≤ hi)

def c_within : FSpec := ⟨[(.rd, .int .i64), (.rd, .int .i64), (.rd, .int .i64)], [.bool], true, fun _ => True, fun ps => [.bool (inB (nth ps 0).I (nth ps 1).I (nth ps 2).I)], fun _ => []⟩
theorem k_within : FnOk Tryd.prog 38 c_within := by
  refine fn_mk [0, 1, 2, 6] [.tmp 6] (env_nil (tyTab_ok [])) mixed Tryd.func38 rfl (by decide) rfl (by decide) rfl ?_
  intro ps hT hpre W hW
  simp only [c_within, TyA, Ty, Tys] at hT hpre
  obtain ⟨_, _, rfl, ⟨a, rfl, ha⟩, _, _, rfl, ⟨b, rfl, hb⟩, _, _, rfl, ⟨c, rfl, hc⟩, rfl⟩ := hT
  refine hW.vc [] _ _ ?_
  simp [-List.getD_eq_getElem?_getD, c_within, inB]
  try rfl

def c_l01In : FSpec := c_within
theorem k_l01In : FnOk Tryd.prog 35 c_l01In := by
  refine fn_mk [0, 1, 2, 6] [.tmp 6] (env_nil (tyTab_ok [])) mixed Tryd.func35 rfl (by decide) rfl (by decide) rfl ?_
  intro ps hT hpre W hW
  simp only [c_l01In, TyA, Ty, Tys] at hT hpre
  simp only [c_within, TyA, Ty] at hT
  obtain ⟨_, _, rfl, ⟨a, rfl, ha⟩, _, _, rfl, ⟨b, rfl, hb⟩, _, _, rfl, ⟨c, rfl, hc⟩, rfl⟩ := hT
  refine hW.vc [] _ _ ?_
  simp [-List.getD_eq_getElem?_getD, c_l01In, c_within, c_within, inB]
  try rfl

def sizeB (w h : Int) : Bool := inB w 2 24 && inB h 2 10
def c_isSize : FSpec := ⟨[(.rd, .int .i64), (.rd, .int .i64)], [.bool], true, fun _ => True, fun ps => [.bool (sizeB (nth ps 0).I (nth ps 1).I)], fun _ => []⟩
theorem k_isSize : FnOk Tryd.prog 78 c_isSize := by
  refine fn_mk [0, 1, 4] [.tmp 4] (env_cons (cs := []) k_within (env_nil (tyTab_ok []))) mixed Tryd.func78 rfl (by decide) rfl (by decide) rfl ?_
  intro ps hT hpre W hW
  simp only [c_isSize, TyA, Ty, Tys] at hT hpre
  obtain ⟨_, _, rfl, ⟨a, rfl, ha⟩, _, _, rfl, ⟨b, rfl, hb⟩, rfl⟩ := hT
  refine hW.vc [] _ _ ?_
  simp [-List.getD_eq_getElem?_getD, c_isSize, c_within, sizeB]

def c_l04Size : FSpec := c_isSize
theorem k_l04Size : FnOk Tryd.prog 54 c_l04Size := by
  refine fn_mk [0, 1, 4] [.tmp 4] (env_cons (cs := []) k_l01In (env_nil (tyTab_ok []))) mixed Tryd.func54 rfl (by decide) rfl (by decide) rfl ?_
  intro ps hT hpre W hW
  simp only [c_l04Size, TyA, Ty, Tys] at hT hpre
  simp only [c_isSize, TyA, Ty] at hT
  obtain ⟨_, _, rfl, ⟨a, rfl, ha⟩, _, _, rfl, ⟨b, rfl, hb⟩, rfl⟩ := hT
  refine hW.vc [] _ _ ?_
  simp [-List.getD_eq_getElem?_getD, c_l04Size, c_l01In, c_isSize, c_within, c_within, c_isSize, sizeB]

end Go.Proofs.YtolgjekokdimoaaDoor
end

section
namespace Go.Proofs.YtolgjekokdimoaaDoor
variable [LaidG]
set_option maxRecDepth 100000
set_option linter.unusedSimpArgs false

def szGo (l : Int) : List PV → Int
  | [] => l
  | e :: es => if l - e.S.length < 0 then -1 else szGo (l - e.S.length) es
def szStr (es : List PV) (l : Int) : Int := if l - es.length < 0 then -1 else szGo (l - es.length) es

def c_szStringS : FSpec := ⟨[(.rd, .list .str), (.rd, .int .i64)], [.int .i64], true, fun ps => 0 ≤ (nth ps 1).I, fun ps => [.int .i64 (szStr (nth ps 0).L (nth ps 1).I)], fun _ => []⟩
theorem k_szStringS : FnOk Tryd.prog 53 c_szStringS := by
  refine fn_mk [0, 1, 4, 5] [.tmp 4] (env_nil (tyTab_ok [])) mixed Tryd.func53 rfl (by decide) rfl (by decide) rfl ?_
  intro ps hT hpre W hW
  simp only [c_szStringS, TyA, Ty, Tys] at hT hpre
  obtain ⟨_, _, rfl, ⟨es, rfl, he, hes⟩, _, _, rfl, ⟨l, rfl, hl⟩, rfl⟩ := hT
  simp only [nth_zero, nth_succ, pv_I] at hpre
  refine hW.vc [] _ _ ?_
  simp [-List.getD_eq_getElem?_getD, c_szStringS]
  intro h1
  rw [inR64] at hl
  rw [wrap64 (by omega)]
  refine ⟨fun h => by simp [szStr, h], fun h => ?_⟩
  refine hW.loopS _ _ _ [.sl 1 .dp (.int .i64), .sl 5 .dp (.int .i64)] (fun ys => ∃ (x : Int) (i : Nat), ys = [.int .i64 x, .int .i64 i] ∧ 0 ≤ x ∧ x ≤ l ∧ i ≤ es.length ∧ szStr es l = szGo x (es.drop i)) (fun ys => es.length - (nth ys 1).I.toNat) ?_ ?_
  · simp [-List.getD_eq_getElem?_getD, c_szStringS]
    exact ⟨_, 0, ⟨rfl, rfl⟩, h, by omega, by simp, by simp [szStr, Int.not_lt.2 h]⟩
  · rintro ys ⟨x, i, rfl, h2, h3, h4, h5⟩
    refine hW.vc [] _ _ ?_
    simp [-List.getD_eq_getElem?_getD, c_szStringS]
    refine fun _ => ⟨fun h6 => ⟨h6, fun _ h7 => ?_⟩, fun h6 => ?_⟩
    · rw [drop_nth h6] at h5
      rw [wrap64 (by omega), wrap64 (by omega)]
      simp only [szGo] at h5
      refine ⟨fun h8 => by rw [h5, if_pos h8], fun h8 => ⟨⟨_, i + 1, ⟨rfl, by omega⟩, h8, by omega, by omega, ?_⟩, by omega⟩⟩
      rw [h5, if_neg (by omega)]
    · rw [List.drop_eq_nil_of_le h6] at h5
      exact h5.symm


theorem set_take {out es : List PV} {i : Nat} {x : PV} (h1 : out.take i = es.take i) (h2 : out.length = es.length) (h3 : i < es.length) (h4 : x = nth es i) : (out.set i x).take (i + 1) = es.take (i + 1) := by
  rw [take_nth h3, ← h1, take_nth (by simp; omega), List.take_set_of_le (Nat.le_refl _), nth_eq (by simp; omega), List.getElem_set_self, h4]

def c_toStringS : FSpec := ⟨[(.rd, .list .str)], [.list .str], true, fun ps => (nth ps 0).L.length ≤ 1048576, fun ps => [.list (nth ps 0).L], fun _ => []⟩
theorem k_toStringS : FnOk Tryd.prog 56 c_toStringS := by
  refine fn_mk [0, 2, 3, 4] [.tmp 2] (env_nil (tyTab_ok [])) mixed Tryd.func56 rfl (by decide) rfl (by decide) rfl ?_
  intro ps hT hpre W hW
  simp only [c_toStringS, TyA, Ty, Tys] at hT hpre
  obtain ⟨_, _, rfl, ⟨es, rfl, he, hes⟩, rfl⟩ := hT
  simp only [nth_zero, pv_L] at hpre
  refine hW.vc [] _ _ ?_
  simp [-List.getD_eq_getElem?_getD, c_toStringS]
  refine fun h1 => ⟨by omega, hW.loopS _ _ _ [.sl 3 .dp (.list .str), .sl 4 .dp (.int .i64)] (fun ys => ∃ (out : List PV) (i : Nat), ys = [.list out, .int .i64 i] ∧ i ≤ es.length ∧ out.length = es.length ∧ out.take i = es.take i) (fun ys => es.length - (nth ys 1).I.toNat) ?_ ?_⟩
  · simp [-List.getD_eq_getElem?_getD, c_toStringS]
    exact ⟨_, 0, ⟨rfl, rfl⟩, by simp, by simp, by simp⟩
  · rintro ys ⟨out, i, rfl, h2, h3, h4⟩
    refine hW.vc [] _ _ ?_
    simp [-List.getD_eq_getElem?_getD, c_toStringS]
    refine fun _ => ⟨fun h5 => ⟨h5, fun h6 => ⟨by omega, ?_⟩⟩, fun h5 => ?_⟩
    · obtain ⟨x, hx, _⟩ := hes _ (nth_mem h5)
      rw [wrap64 (by omega)]
      refine ⟨⟨_, i + 1, ⟨rfl, by omega⟩, by omega, by simp [h3], set_take h4 h3 h5 (by rw [hx, pv_S])⟩, by omega⟩
    · rw [List.take_of_length_le (by omega), List.take_of_length_le (by omega)] at h4
      exact h4

/-- Two rows are the same by their elements. -/
def eqL (f : PV → PV → Bool) : List PV → List PV → Bool
  | [], [] => true
  | a :: l, b :: m => f a b && eqL f l m
  | _, _ => false
theorem eqL_len {f : PV → PV → Bool} : ∀ {a b : List PV}, a.length ≠ b.length → eqL f a b = false
  | [], [], h => absurd rfl h
  | [], _ :: _, _ => rfl
  | _ :: _, [], _ => rfl
  | x :: a, y :: b, h => by simp only [eqL, eqL_len (a := a) (b := b) (by simpa using h), Bool.and_false]

def c_eqStringS : FSpec := ⟨[(.rd, .list .str), (.rd, .list .str)], [.bool], true, fun _ => True, fun ps => [.bool (eqL (fun x y => x.S == y.S) (nth ps 0).L (nth ps 1).L)], fun _ => []⟩
theorem k_eqStringS : FnOk Tryd.prog 50 c_eqStringS := by
  refine fn_mk [0, 1, 4, 5] [.tmp 4] (env_nil (tyTab_ok [])) mixed Tryd.func50 rfl (by decide) rfl (by decide) rfl ?_
  intro ps hT hpre W hW
  simp only [c_eqStringS, TyA, Ty, Tys] at hT hpre
  obtain ⟨_, _, rfl, ⟨es, rfl, he, hes⟩, _, _, rfl, ⟨es2, rfl, he2, hes2⟩, rfl⟩ := hT
  refine hW.vc [(6, [], .take 0 <| .take 1 <| .take 2 <| .take 3 <| .take 4 <| .take 5 <| .take 6 <| .take 7 <| .take 8 <| .done)] _ _ ?_
  simp [-List.getD_eq_getElem?_getD, c_eqStringS]
  refine fun h1 h2 => ⟨fun h3 => eqL_len (by omega), fun h3 => ?_⟩
  refine hW.loopS _ _ _ [.sl 5 .dp (.int .i64)] (fun ys => ∃ i : Nat, ys = [.int .i64 i] ∧ i ≤ es.length ∧ eqL (fun x y => x.S == y.S) es es2 = eqL (fun x y => x.S == y.S) (es.drop i) (es2.drop i)) (fun ys => es.length - (nth ys 0).I.toNat) ?_ ?_
  · simp [-List.getD_eq_getElem?_getD, c_eqStringS]
    exact ⟨0, rfl, by simp, by simp⟩
  · rintro ys ⟨i, rfl, h4, h5⟩
    refine hW.vc [(6, [], .take 0 <| .take 1 <| .take 2 <| .take 3 <| .take 4 <| .take 5 <| .take 6 <| .take 7 <| .take 8 <| .done)] _ _ ?_
    simp [-List.getD_eq_getElem?_getD, c_eqStringS]
    refine fun _ => ⟨fun h6 => ⟨by decide +kernel, h6, fun _ => ⟨by omega, fun _ => ?_⟩⟩, fun h6 => ?_⟩
    · rw [drop_nth h6, drop_nth (by omega : i < es2.length), eqL] at h5
      rw [wrap64 (by omega)]
      refine ⟨fun h7 => by rw [h5]; simp [h7], fun h7 => ⟨⟨i + 1, by omega, by omega, by rw [h5]; simp [h7]⟩, by omega⟩⟩
    · rw [h5, List.drop_eq_nil_of_le h6, List.drop_eq_nil_of_le (by omega)]; rfl

end Go.Proofs.YtolgjekokdimoaaDoor
end

section
namespace Go.Proofs.YtolgjekokdimoaaDoor
variable [LaidG]
set_option maxRecDepth 100000
set_option linter.unusedSimpArgs false

def numB (l : List UInt8) : Int := l.foldl (fun n b => n * 256 + b.toNat) 0
theorem numB_snoc (l : List UInt8) (b : UInt8) : numB (l ++ [b]) = numB l * 256 + b.toNat := by simp [numB]
theorem numB_take {l : List UInt8} {i : Nat} (h : i < l.length) : numB (l.take (i + 1)) = numB (l.take i) * 256 + (l.getD i 0).toNat := by
  rw [List.take_succ_eq_append_getElem h, numB_snoc]; simp [h]
theorem numB_bound : ∀ (n : Nat) (l : List UInt8), l.length = n → 0 ≤ numB l ∧ numB l < 256 ^ n
  | 0, l, h => by have := List.eq_nil_of_length_eq_zero h; subst this; simp [numB]
  | n + 1, l, h => by
    have h0 : l ≠ [] := by intro e; subst e; simp at h
    have h1 := List.dropLast_concat_getLast h0
    have h2 := numB_bound n l.dropLast (by simp [h])
    have h3 := (l.getLast h0).toNat_lt
    rw [← h1, numB_snoc, Int.pow_succ]
    omega
theorem numB_le {l : List UInt8} (h : l.length ≤ 7) (i : Nat) : 0 ≤ numB (l.take i) ∧ numB (l.take i) < 72057594037927936 := by
  have h1 := numB_bound (l.take i).length (l.take i) rfl
  refine ⟨h1.1, Int.lt_of_lt_of_le h1.2 ?_⟩
  have h2 : (l.take i).length ≤ 7 := by simp; omega
  have h3 : (256 : Int) ^ (l.take i).length ≤ 256 ^ 7 := by
    have := Nat.pow_le_pow_right (n := 256) (by decide) h2
    exact_mod_cast this
  exact Int.le_trans h3 (by decide)
theorem numB_le6 {l : List UInt8} (h : l.length ≤ 7) {i : Nat} (hi : i < l.length) : 0 ≤ numB (l.take i) ∧ numB (l.take i) < 281474976710656 := by
  have h1 := numB_bound (l.take i).length (l.take i) rfl
  refine ⟨h1.1, Int.lt_of_lt_of_le h1.2 ?_⟩
  have h2 : (l.take i).length ≤ 6 := by simp; omega
  have h3 : (256 : Int) ^ (l.take i).length ≤ 256 ^ 6 := by
    have := Nat.pow_le_pow_right (n := 256) (by decide) h2
    exact_mod_cast this
  exact Int.le_trans h3 (by decide)

theorem or_byte {m : Int} {b : UInt8} (h0 : 0 ≤ m) (h1 : m < 281474976710656) : orI .i64 (m * 256) b.toNat = m * 256 + b.toNat := by
  obtain ⟨k, rfl⟩ := Int.eq_ofNat_of_zero_le h0
  have hb := b.toNat_lt
  unfold orI
  have hw : IntKind.i64.bits = 64 := rfl
  rw [hw]
  have e1 : (BitVec.ofInt 64 ((k : Int) * 256)).toNat = k * 256 := by
    rw [show (k : Int) * 256 = ((k * 256 : Nat) : Int) by simp, BitVec.ofInt_natCast, BitVec.toNat_ofNat]
    exact Nat.mod_eq_of_lt (by omega)
  have e2 : (BitVec.ofInt 64 (b.toNat : Int)).toNat = b.toNat := by
    rw [BitVec.ofInt_natCast, BitVec.toNat_ofNat]
    exact Nat.mod_eq_of_lt (by omega)
  rw [BitVec.toNat_or, e1, e2]
  have e3 : k * 256 ||| b.toNat = k * 256 + b.toNat := by
    have := Nat.shiftLeft_add_eq_or_of_lt (i := 8) (b := b.toNat) (by omega) k
    rw [Nat.shiftLeft_eq] at this
    exact this.symm
  rw [e3]
  rw [wrap64 (by omega)]
  simp

theorem conv_byte (b : UInt8) : IntKind.i64.wrap (b.toNat : Int) = b.toNat := wrap64 (by have := b.toNat_lt; omega)

def c_l02Of : FSpec := ⟨[(.rd, .str)], [.int .i64], true, fun ps => (nth ps 0).S.length ≤ 7, fun ps => [.int .i64 (numB (nth ps 0).S)], fun _ => []⟩
theorem k_l02Of : FnOk Tryd.prog 91 c_l02Of := by
  refine fn_mk [0, 2, 3, 4] [.tmp 2] (env_nil (tyTab_ok [])) mixed Tryd.func91 rfl (by decide) rfl (by decide) rfl ?_
  intro ps hT hpre W hW
  simp only [c_l02Of, TyA, Ty, Tys] at hT hpre
  obtain ⟨_, _, rfl, ⟨l, rfl, hl⟩, rfl⟩ := hT
  simp only [nth_zero, pv_S] at hpre
  refine hW.vc [] _ _ ?_
  simp [-List.getD_eq_getElem?_getD, c_l02Of]
  refine hW.loopS _ _ _ [.sl 3 .dp (.int .i64), .sl 4 .dp (.int .i64)] (fun ys => ∃ i : Nat, ys = [.int .i64 (numB (l.take i)), .int .i64 i] ∧ i ≤ l.length) (fun ys => l.length - (nth ys 1).I.toNat) ?_ ?_
  · simp [-List.getD_eq_getElem?_getD, c_l02Of]
    exact ⟨0, ⟨by simp [numB], rfl⟩, by simp⟩
  · rintro ys ⟨i, rfl, h4⟩
    refine hW.vc [] _ _ ?_
    simp [-List.getD_eq_getElem?_getD, c_l02Of]
    refine fun _ => ⟨fun h6 => ⟨h6, ?_⟩, fun h6 => by rw [List.take_of_length_le h6]⟩
    have h7 := numB_le hpre i
    have h8 := numB_le6 hpre h6
    have h9 := (l.getD i 0).toNat_lt
    rw [conv_byte, wrap64 (n := numB (l.take i) * 256) (by omega), wrap64 (by omega), wrap64 (by omega)]
    exact ⟨⟨i + 1, ⟨(numB_take h6).symm, by omega⟩, by omega⟩, by omega⟩

def c_bigNumber : FSpec := c_l02Of
theorem k_bigNumber : FnOk Tryd.prog 109 c_bigNumber := by
  refine fn_mk [0, 2, 3, 4, 6, 7] [.tmp 2] (env_nil (tyTab_ok [])) mixed Tryd.func109 rfl (by decide) rfl (by decide) rfl ?_
  intro ps hT hpre W hW
  simp only [c_bigNumber, TyA, Ty, Tys] at hT hpre
  simp only [c_l02Of, TyA, Ty] at hT hpre
  obtain ⟨_, _, rfl, ⟨l, rfl, hl⟩, rfl⟩ := hT
  simp only [nth_zero, pv_S] at hpre
  refine hW.vc [] _ _ ?_
  simp [-List.getD_eq_getElem?_getD, c_bigNumber, c_l02Of, c_l02Of]
  intro h0
  refine hW.loopS _ _ _ [.sl 3 .dp (.int .i64), .sl 7 .dp (.int .i64)] (fun ys => ∃ i : Nat, ys = [.int .i64 (numB (l.take i)), .int .i64 i] ∧ i ≤ l.length) (fun ys => l.length - (nth ys 1).I.toNat) ?_ ?_
  · simp [-List.getD_eq_getElem?_getD, c_bigNumber, c_l02Of]
    exact ⟨0, ⟨by simp [numB], rfl⟩, by simp⟩
  · rintro ys ⟨i, rfl, h4⟩
    refine hW.vc [] _ _ ?_
    simp [-List.getD_eq_getElem?_getD, c_bigNumber, c_l02Of, c_l02Of]
    refine ⟨fun h6 => ⟨h6, ?_⟩, fun h6 => by rw [List.take_of_length_le h6]⟩
    have h7 := numB_le hpre i
    have h8 := numB_le6 hpre h6
    have h9 := (l.getD i 0).toNat_lt
    rw [conv_byte, show shlI IntKind.i64 (numB (List.take i l)) 8 = IntKind.i64.wrap (numB (l.take i) * 256) from rfl, wrap64 (n := numB (l.take i) * 256) (by omega), wrap64 (by omega), or_byte h8.1 h8.2]
    exact ⟨⟨i + 1, ⟨(numB_take h6).symm, by omega⟩, by omega⟩, by omega⟩

def runeOk (n : Int) : Bool := inB n 0 1114111 && !inB n 55296 57343
def isRuneB (n : Int) : Bool := inB n 32 1114111 && (n != 127) && !inB n 55296 57343
def cellB (r k : Int) : Bool := runeOk r && decide (r ≥ 32) && (r != 127) && inB k 0 127

def c_l03RuneOK : FSpec := ⟨[(.rd, .int .i64)], [.bool], true, fun _ => True, fun ps => [.bool (runeOk (nth ps 0).I)], fun _ => []⟩
theorem k_l03RuneOK : FnOk Tryd.prog 107 c_l03RuneOK := by
  refine fn_mk [0, 2] [.tmp 2] (env_cons (cs := []) k_l01In (env_nil (tyTab_ok []))) mixed Tryd.func107 rfl (by decide) rfl (by decide) rfl ?_
  intro ps hT hpre W hW
  simp only [c_l03RuneOK, TyA, Ty, Tys] at hT hpre
  obtain ⟨_, _, rfl, ⟨a, rfl, ha⟩, rfl⟩ := hT
  refine hW.vc [] _ _ ?_
  simp [-List.getD_eq_getElem?_getD, c_l03RuneOK, c_l01In, c_within, c_within]
  rfl

def c_isRune : FSpec := ⟨[(.rd, .int .i64)], [.bool], true, fun _ => True, fun ps => [.bool (isRuneB (nth ps 0).I)], fun _ => []⟩
theorem k_isRune : FnOk Tryd.prog 108 c_isRune := by
  refine fn_mk [0, 2] [.tmp 2] (env_cons (cs := []) k_within (env_nil (tyTab_ok []))) mixed Tryd.func108 rfl (by decide) rfl (by decide) rfl ?_
  intro ps hT hpre W hW
  simp only [c_isRune, TyA, Ty, Tys] at hT hpre
  obtain ⟨_, _, rfl, ⟨a, rfl, ha⟩, rfl⟩ := hT
  refine hW.vc [] _ _ ?_
  simp [-List.getD_eq_getElem?_getD, c_isRune, c_within]
  simp only [isRuneB]; congr 2

def c_l04Cell : FSpec := ⟨[(.rd, .agg [.int .i64, .int .i64])], [.bool], true, fun _ => True, fun ps => [.bool (cellB (nth (nth ps 0).A 0).I (nth (nth ps 0).A 1).I)], fun _ => []⟩
theorem k_l04Cell : FnOk Tryd.prog 90 c_l04Cell := by
  refine fn_mk [0, 1, 2] [.tmp 2] (env_cons (cs := []) k_l01In (env_cons (cs := []) k_l03RuneOK (env_nil (tyTab_ok [])))) mixed Tryd.func90 rfl (by decide) rfl (by decide) rfl ?_
  intro ps hT hpre W hW
  simp only [c_l04Cell, TyA, Ty, Tys] at hT hpre
  obtain ⟨_, _, rfl, ⟨_, rfl, _, _, rfl, ⟨a, rfl, ha⟩, _, _, rfl, ⟨b, rfl, hb⟩, rfl⟩, rfl⟩ := hT
  refine hW.vc [] _ _ ?_
  simp [-List.getD_eq_getElem?_getD, c_l04Cell, c_l03RuneOK, c_l01In, c_within, c_within]
  simp only [cellB]; congr 2

/-- A row is so many cells of four bytes each. -/
def rowGo : List UInt8 → Bool
  | [] => true
  | a :: b :: c :: d :: l => isRuneB (numB [a, b, c]) && decide (d.toNat ≤ 127) && rowGo l
  | _ => false
def rowB (l : List UInt8) (w : Int) : Bool := decide ((l.length : Int) = 4 * w) && rowGo l

theorem rowGo_step {r : List UInt8} (h : 4 ≤ r.length) : rowGo r = (isRuneB (numB (r.take 3)) && decide ((r.getD 3 0).toNat ≤ 127) && rowGo (r.drop 4)) := by
  match r, h with
  | a :: b :: c :: d :: l, _ => rfl
theorem cell_eq (n : Int) (d : UInt8) : cellB n d.toNat = (isRuneB n && decide (d.toNat ≤ 127)) := by
  rw [Bool.eq_iff_iff]
  simp [cellB, isRuneB, runeOk, inB]
  omega
theorem row_off {l : List UInt8} {n : Nat} (i : Nat) : (l.drop n).getD i 0 = l.getD (n + i) 0 := by
  simp only [List.getD_eq_getElem?_getD, List.getElem?_drop]

def c_isRow : FSpec := ⟨[(.rd, .str), (.rd, .int .i64)], [.bool], true, fun ps => 0 ≤ (nth ps 1).I ∧ (nth ps 1).I ≤ 1000, fun ps => [.bool (rowB (nth ps 0).S (nth ps 1).I)], fun _ => []⟩
theorem k_isRow : FnOk Tryd.prog 94 c_isRow := by
  refine fn_mk [0, 1, 4] [.tmp 4] (env_cons (cs := []) k_isRune (env_cons (cs := []) k_bigNumber (env_nil (tyTab_ok [])))) mixed Tryd.func94 rfl (by decide) rfl (by decide) rfl ?_
  intro ps hT hpre W hW
  simp only [c_isRow, TyA, Ty, Tys] at hT hpre
  obtain ⟨_, _, rfl, ⟨l, rfl, hl⟩, _, _, rfl, ⟨w, rfl, hw⟩, rfl⟩ := hT
  simp only [nth_zero, nth_succ, pv_S, pv_I] at hpre
  refine hW.vc [] _ _ ?_
  simp [-List.getD_eq_getElem?_getD, c_isRow, c_bigNumber, c_isRune, c_l02Of]
  intro h1
  rw [wrap64 (by omega)]
  refine ⟨fun h => by simp [rowB, h], fun h => ?_⟩
  refine hW.loopS _ _ _ [.sl 0 .dp .str] (fun ys => ∃ r, ys = [.str r] ∧ (∃ k, r.length = 4 * k) ∧ r.length ≤ l.length ∧ rowB l w = rowGo r) (fun ys => (nth ys 0).S.length) ?_ ?_
  · simp [-List.getD_eq_getElem?_getD, c_isRow, c_bigNumber, c_isRune, c_l02Of]
    exact ⟨⟨w.toNat, by omega⟩, by simp [rowB, h]⟩
  · rintro ys ⟨r, rfl, ⟨k, hk⟩, h2, h3⟩
    refine hW.vc [] _ _ ?_
    simp [-List.getD_eq_getElem?_getD, c_isRow, c_bigNumber, c_isRune, c_l02Of]
    refine ⟨fun h4 => ?_, fun h4 => by rw [h3, h4]; rfl⟩
    have h5 : r.length ≠ 0 := fun e => h4 (List.eq_nil_of_length_eq_zero e)
    have h6 : 4 ≤ r.length := by omega
    rw [rowGo_step h6] at h3
    refine ⟨by omega, by omega, fun h7 => ⟨h7, by omega⟩, fun h7 => ?_, fun h7 h8 => ⟨by omega, ⟨⟨k - 1, by omega⟩, by omega, ?_⟩, by omega⟩⟩
    · rw [h3]
      rcases h7 with h7 | h7
      · simp [h7]
      · have : ¬ (r.getD 3 0).toNat ≤ 127 := by omega
        simp only [this, decide_false, Bool.and_false, Bool.false_and]
    · have : (r.getD 3 0).toNat ≤ 127 := by omega
      rw [h3, h7, List.take_of_length_le (by simp)]
      simp only [this, decide_true, Bool.and_true, Bool.true_and]

def c_l11Row : FSpec := ⟨[(.rd, .int .i64), (.rd, .str)], [.bool], true, fun ps => 0 ≤ (nth ps 0).I ∧ (nth ps 0).I ≤ 1000, fun ps => [.bool (rowB (nth ps 1).S (nth ps 0).I)], fun _ => []⟩
theorem k_l11Row : FnOk Tryd.prog 76 c_l11Row := by
  refine fn_mk [0, 1, 4, 5] [.tmp 4] (env_cons (cs := []) k_l04Cell (env_cons (cs := []) k_l02Of (env_nil (tyTab_ok [])))) mixed Tryd.func76 rfl (by decide) rfl (by decide) rfl ?_
  intro ps hT hpre W hW
  simp only [c_l11Row, TyA, Ty, Tys] at hT hpre
  obtain ⟨_, _, rfl, ⟨w, rfl, hw⟩, _, _, rfl, ⟨l, rfl, hl⟩, rfl⟩ := hT
  simp only [nth_zero, nth_succ, pv_S, pv_I] at hpre
  refine hW.vc [(6, [], .take 0 <| .take 1 <| .take 2 <| .take 3 <| .take 4 <| .take 5 <| .take 6 <| .take 8 <| .take 9 <| .take 10 <| .take 11 <| .take 12 <| .take 13 <| .alt 7 (.take 14 <| .alt 15 (.take 16 <| .done) .stop) .stop)] _ _ ?_
  simp [-List.getD_eq_getElem?_getD, c_l11Row, c_l02Of, c_l04Cell]
  intro h1
  rw [wrap64 (by omega)]
  refine ⟨fun h => by simp [rowB, h], fun h => ?_⟩
  refine hW.loopS _ _ _ [.sl 5 .dp (.int .i64)] (fun ys => ∃ x : Nat, ys = [.int .i64 x] ∧ (x : Int) ≤ w ∧ rowB l w = rowGo (l.drop (4 * x))) (fun ys => (w - (nth ys 0).I).toNat) ?_ ?_
  · simp [-List.getD_eq_getElem?_getD, c_l11Row, c_l02Of, c_l04Cell]
    exact ⟨0, rfl, by omega, by simp [rowB, h]⟩
  · rintro ys ⟨x, rfl, h2, h3⟩
    refine hW.vc [(6, [], .take 0 <| .take 1 <| .take 2 <| .take 3 <| .take 4 <| .take 5 <| .take 6 <| .take 8 <| .take 9 <| .take 10 <| .take 11 <| .take 12 <| .take 13 <| .alt 7 (.take 14 <| .alt 15 (.take 16 <| .done) .stop) .stop)] _ _ ?_
    simp [-List.getD_eq_getElem?_getD, c_l11Row, c_l02Of, c_l04Cell]
    refine ⟨fun h4 => ⟨by decide +kernel, ?_⟩, fun h4 => ?_⟩
    · rw [wrap64 (n := 4 * (x : Int)) (by omega), wrap64 (n := 4 * (x : Int) + 3) (by omega), conv_byte, cell_eq]
      have e1 : (4 * (x : Int)).toNat = 4 * x := by omega
      have e2 : (4 * (x : Int) + 3).toNat = 4 * x + 3 := by omega
      have e3 : 4 * x + 3 - 4 * x = 3 := by omega
      rw [e1, e2, e3]
      have h5 : 4 ≤ (l.drop (4 * x)).length := by simp; omega
      rw [rowGo_step h5, row_off, List.drop_drop] at h3
      rw [wrap64 (by omega)]
      refine ⟨⟨by omega, by omega, by omega⟩, ⟨by omega, by omega⟩, by omega, fun h6 => by rw [h3, h6]; rfl, fun h6 => ⟨⟨x + 1, by omega, by omega, ?_⟩, by omega⟩⟩
      rw [h3, h6, Bool.true_and, Nat.mul_add]
    · rw [h3, List.drop_eq_nil_of_le (by omega)]; rfl

end Go.Proofs.YtolgjekokdimoaaDoor
end

section
namespace Go.Proofs.YtolgjekokdimoaaDoor
variable [LaidG]
set_option maxRecDepth 100000
set_option linter.unusedSimpArgs false

def rowsB (es : List PV) (w h : Int) : Bool := decide ((es.length : Int) = h) && es.all fun e => rowB e.S w
/-- The first place from i on. -/
def idxGo (p : PV → Bool) (i : Nat) : List PV → Int
  | [] => -1
  | e :: es => if p e then (i : Int) else idxGo p (i + 1) es
theorem idxGo_any (p : PV → Bool) : ∀ (es : List PV) (i : Nat), decide (0 ≤ idxGo p i es) = es.any p
  | [], i => by simp [idxGo]
  | e :: es, i => by
    simp only [idxGo, List.any_cons]
    by_cases h : p e = true
    · simp [h]
    · simp [h, idxGo_any p es (i + 1)]

def wOk (w : Int) : Prop := 0 ≤ w ∧ w ≤ 1000

def c_areRows1 : FSpec := ⟨[(.rd, .str), (.rd, .box [.int .i64])], [.bool], true, fun ps => wOk (nth (nth ps 1).A 0).I, fun ps => [.bool (!rowB (nth ps 0).S (nth (nth ps 1).A 0).I)], fun _ => []⟩
theorem k_areRows1 : FnOk Tryd.prog 93 c_areRows1 := by
  refine fn_mk [0, 1, 3] [.tmp 3] (env_cons (cs := []) k_isRow (env_nil (tyTab_ok []))) mixed Tryd.func93 rfl (by decide) rfl (by decide) rfl ?_
  intro ps hT hpre W hW
  simp only [c_areRows1, TyA, Ty, Tys] at hT hpre
  obtain ⟨_, _, rfl, ⟨l, rfl, hl⟩, _, _, rfl, ⟨_, rfl, _, _, rfl, ⟨w, rfl, hw⟩, rfl⟩, rfl⟩ := hT
  simp only [nth_zero, nth_succ, pv_S, pv_I, pv_A] at hpre
  refine hW.vc [] _ _ ?_
  simp [-List.getD_eq_getElem?_getD, c_areRows1, c_isRow]
  exact hpre

def c_IndexFunc_areRows1 : FSpec := ⟨[(.rd, .list .str), (.rd, .fn 93 [.box [.int .i64]])], [.int .i64], true, fun ps => wOk (nth (nth (nth ps 1).A 0).A 0).I, fun ps => [.int .i64 (idxGo (fun e => !rowB e.S (nth (nth (nth ps 1).A 0).A 0).I) 0 (nth ps 0).L)], fun _ => []⟩
theorem k_IndexFunc_areRows1 : FnOk Tryd.prog 83 c_IndexFunc_areRows1 := by
  refine fn_mk [0, 1, 4, 5, 7, 8] [.tmp 4] (env_cons (cs := []) k_areRows1 (env_nil (tyTab_ok []))) mixed Tryd.func83 rfl (by decide) rfl (by decide) rfl ?_
  intro ps hT hpre W hW
  simp only [c_IndexFunc_areRows1, TyA, Ty, Tys] at hT hpre
  obtain ⟨_, _, rfl, ⟨es, rfl, he, hes⟩, _, _, rfl, ⟨_, rfl, _, _, rfl, ⟨_, rfl, _, _, rfl, ⟨w, rfl, hw⟩, rfl⟩, rfl⟩, rfl⟩ := hT
  simp only [nth_zero, nth_succ, pv_S, pv_I, pv_A] at hpre
  refine hW.vc [] _ _ ?_
  simp [-List.getD_eq_getElem?_getD, c_IndexFunc_areRows1, c_areRows1]
  intro h1
  refine hW.loopS _ _ _ [.sl 8 .dp (.int .i64)] (fun ys => ∃ i : Nat, ys = [.int .i64 i] ∧ i ≤ es.length ∧ idxGo (fun e => !rowB e.S w) 0 es = idxGo (fun e => !rowB e.S w) i (es.drop i)) (fun ys => es.length - (nth ys 0).I.toNat) ?_ ?_
  · simp [-List.getD_eq_getElem?_getD, c_IndexFunc_areRows1, c_areRows1]
    exact ⟨0, rfl, by simp, by simp⟩
  · rintro ys ⟨i, rfl, h2, h3⟩
    refine hW.vc [] _ _ ?_
    simp [-List.getD_eq_getElem?_getD, c_IndexFunc_areRows1, c_areRows1]
    refine ⟨fun h4 => ⟨h4, fun _ => ⟨hpre, fun h5 => ?_, fun h5 => ?_⟩⟩, fun h4 => ?_⟩
    · rw [h3, drop_nth h4]; simp [idxGo, h5]
    · rw [wrap64 (by omega)]
      refine ⟨⟨i + 1, by omega, by omega, ?_⟩, by omega⟩
      rw [h3, drop_nth h4]; simp [idxGo, h5]
    · rw [h3, List.drop_eq_nil_of_le h4]; rfl

def c_ContainsFunc_areRows1 : FSpec := ⟨[(.rd, .list .str), (.rd, .fn 93 [.box [.int .i64]])], [.bool], true, fun ps => wOk (nth (nth (nth ps 1).A 0).A 0).I, fun ps => [.bool ((nth ps 0).L.any (fun e => !rowB e.S (nth (nth (nth ps 1).A 0).A 0).I))], fun _ => []⟩
theorem k_ContainsFunc_areRows1 : FnOk Tryd.prog 92 c_ContainsFunc_areRows1 := by
  refine fn_mk [0, 1, 4] [.tmp 4] (env_cons (cs := [93]) k_IndexFunc_areRows1 (env_nil (tyTab_ok []))) mixed Tryd.func92 rfl (by decide) rfl (by decide) rfl ?_
  intro ps hT hpre W hW
  simp only [c_ContainsFunc_areRows1, TyA, Ty, Tys] at hT hpre
  obtain ⟨_, _, rfl, ⟨es, rfl, he, hes⟩, _, _, rfl, ⟨_, rfl, _, _, rfl, ⟨_, rfl, _, _, rfl, ⟨w, rfl, hw⟩, rfl⟩, rfl⟩, rfl⟩ := hT
  simp only [nth_zero, nth_succ, pv_S, pv_I, pv_A] at hpre
  refine hW.vc [] _ _ ?_
  simp [-List.getD_eq_getElem?_getD, c_ContainsFunc_areRows1, c_IndexFunc_areRows1]
  exact ⟨hpre, idxGo_any _ _ _⟩

def c_areRows : FSpec := ⟨[(.rd, .list .str), (.rd, .int .i64), (.rd, .int .i64)], [.bool], true, fun ps => wOk (nth ps 1).I, fun ps => [.bool (rowsB (nth ps 0).L (nth ps 1).I (nth ps 2).I)], fun _ => []⟩
theorem k_areRows : FnOk Tryd.prog 79 c_areRows := by
  refine fn_mk [0, 1, 2, 4, 6] [.tmp 6] (env_cons (cs := [93]) k_ContainsFunc_areRows1 (env_nil (tyTab_ok []))) mixed Tryd.func79 rfl (by decide) rfl (by decide) rfl ?_
  intro ps hT hpre W hW
  simp only [c_areRows, TyA, Ty, Tys] at hT hpre
  obtain ⟨_, _, rfl, ⟨es, rfl, he, hes⟩, _, _, rfl, ⟨w, rfl, hw⟩, _, _, rfl, ⟨h, rfl, hh⟩, rfl⟩ := hT
  simp only [nth_zero, nth_succ, pv_S, pv_I, pv_A] at hpre
  refine hW.vc [] _ _ ?_
  simp [-List.getD_eq_getElem?_getD, c_areRows, c_ContainsFunc_areRows1]
  refine fun _ => ⟨fun _ => hpre, ?_⟩
  simp only [rowsB, List.not_any_eq_all_not, Bool.not_not]

theorem rowsB_len {es : List PV} {w h : Int} (hl : (es.length : Int) ≠ h) : rowsB es w h = false := by simp [rowsB, hl]

def c_l11Rows : FSpec := ⟨[(.rd, .int .i64), (.rd, .int .i64), (.rd, .list .str)], [.bool], true, fun ps => wOk (nth ps 0).I, fun ps => [.bool (rowsB (nth ps 2).L (nth ps 0).I (nth ps 1).I)], fun _ => []⟩
theorem k_l11Rows : FnOk Tryd.prog 55 c_l11Rows := by
  refine fn_mk [0, 1, 2, 6, 7] [.tmp 6] (env_cons (cs := []) k_l11Row (env_nil (tyTab_ok []))) mixed Tryd.func55 rfl (by decide) rfl (by decide) rfl ?_
  intro ps hT hpre W hW
  simp only [c_l11Rows, TyA, Ty, Tys] at hT hpre
  obtain ⟨_, _, rfl, ⟨w, rfl, hw⟩, _, _, rfl, ⟨h, rfl, hh⟩, _, _, rfl, ⟨es, rfl, he, hes⟩, rfl⟩ := hT
  simp only [nth_zero, nth_succ, pv_S, pv_I, pv_A] at hpre
  refine hW.vc [] _ _ ?_
  simp [-List.getD_eq_getElem?_getD, c_l11Rows, c_l11Row]
  refine fun h1 => ⟨fun h2 => rowsB_len h2, fun h2 => ?_⟩
  refine hW.loopS _ _ _ [.sl 7 .dp (.int .i64)] (fun ys => ∃ i : Nat, ys = [.int .i64 i] ∧ i ≤ es.length ∧ rowsB es w h = (es.drop i).all fun e => rowB e.S w) (fun ys => es.length - (nth ys 0).I.toNat) ?_ ?_
  · simp [-List.getD_eq_getElem?_getD, c_l11Rows, c_l11Row]
    exact ⟨0, rfl, by simp, by simp [rowsB, h2]⟩
  · rintro ys ⟨i, rfl, h3, h4⟩
    refine hW.vc [] _ _ ?_
    simp [-List.getD_eq_getElem?_getD, c_l11Rows, c_l11Row]
    refine ⟨fun h5 => ⟨by omega, fun _ => ⟨hpre, fun h6 => ?_, fun h6 => ?_⟩⟩, fun h5 => ?_⟩
    · rw [h4, drop_nth (by omega)]; simp [h6]
    · rw [wrap64 (by omega)]
      refine ⟨⟨i + 1, by omega, by omega, ?_⟩, by omega⟩
      rw [h4, drop_nth (by omega)]; simp [h6]
    · rw [h4, List.drop_eq_nil_of_le (by omega)]; rfl

def mirB (m : List PV) : Bool := if (nth m 0).I = -1 then decide ((nth m 1).I = 0) && decide ((nth m 2).I = 0) && decide ((nth m 3).L.length = 0) else inB (nth m 0).I 0 60 && sizeB (nth m 1).I (nth m 2).I && rowsB (nth m 3).L (nth m 1).I (nth m 2).I

theorem size_wOk {w h : Int} (hs : sizeB w h = true) : wOk w := by
  simp [sizeB, inB] at hs; unfold wOk; omega
theorem mir_fin {n w h : Int} {es : List PV} : (n = -1 → (w = 0 → h = 0 → es.length ≤ 140737488355328) → (decide (w = 0) && decide (h = 0) && (es.length : Int) == 0) = mirB [PV.int .i64 n, PV.int .i64 w, PV.int .i64 h, PV.list es]) ∧
    (¬n = -1 → (inB n 0 60 = true → sizeB w h = true → wOk w) ∧ (inB n 0 60 && sizeB w h && rowsB es w h) = mirB [PV.int .i64 n, PV.int .i64 w, PV.int .i64 h, PV.list es]) := by
  refine ⟨fun h1 _ => ?_, fun h1 => ⟨fun _ h2 => size_wOk h2, ?_⟩⟩
  · simp only [mirB, nth_zero, nth_succ, pv_I, pv_L, h1, if_true]
    congr 1
    rw [Bool.eq_iff_iff]; simp
  · simp [mirB, nth_zero, nth_succ, pv_I, pv_L, h1]

def c_isNumber : FSpec := ⟨[(.rd, .int .i64)], [.bool], true, fun _ => True, fun ps => [.bool (inB (nth ps 0).I 0 60)], fun _ => []⟩
theorem k_isNumber : FnOk Tryd.prog 77 c_isNumber := by
  refine fn_mk [0, 2] [.tmp 2] (env_cons (cs := []) k_within (env_nil (tyTab_ok []))) mixed Tryd.func77 rfl (by decide) rfl (by decide) rfl ?_
  intro ps hT hpre W hW
  simp only [c_isNumber, TyA, Ty, Tys] at hT hpre
  obtain ⟨_, _, rfl, ⟨a, rfl, ha⟩, rfl⟩ := hT
  refine hW.vc [] _ _ ?_
  simp [-List.getD_eq_getElem?_getD, c_isNumber, c_within]

def c_isMirror : FSpec := ⟨[(.rd, .agg [.int .i64, .int .i64, .int .i64, .list .str])], [.bool], true, fun _ => True, fun ps => [.bool (mirB (nth ps 0).A)], fun _ => []⟩
theorem k_isMirror : FnOk Tryd.prog 57 c_isMirror := by
  refine fn_mk [0, 1, 2] [.tmp 2] (env_cons (cs := []) k_areRows (env_cons (cs := []) k_isSize (env_cons (cs := []) k_isNumber (env_nil (tyTab_ok []))))) mixed Tryd.func57 rfl (by decide) rfl (by decide) rfl ?_
  intro ps hT hpre W hW
  simp only [c_isMirror, TyA, Ty, Tys] at hT hpre
  obtain ⟨_, _, rfl, ⟨_, rfl, _, _, rfl, ⟨n, rfl, hn⟩, _, _, rfl, ⟨w, rfl, hw⟩, _, _, rfl, ⟨h, rfl, hh⟩, _, _, rfl, ⟨es, rfl, he, hes⟩, rfl⟩, rfl⟩ := hT
  refine hW.vc [] _ _ ?_
  simp [-List.getD_eq_getElem?_getD, c_isMirror, c_isNumber, c_isSize, c_areRows]
  exact mir_fin

def c_MirrorOK : FSpec := c_isMirror
def c_sMirrorOK : FSpec := c_isMirror
theorem k_sMirrorOK : FnOk Tryd.prog 32 c_sMirrorOK := by
  refine fn_mk [0, 1, 2] [.tmp 2] (env_cons (cs := []) k_l11Rows (env_cons (cs := []) k_l04Size (env_cons (cs := []) k_l01In (env_nil (tyTab_ok []))))) mixed Tryd.func32 rfl (by decide) rfl (by decide) rfl ?_
  intro ps hT hpre W hW
  simp only [c_sMirrorOK, TyA, Ty, Tys] at hT hpre
  simp only [c_isMirror, TyA, Ty, Tys] at hT
  obtain ⟨_, _, rfl, ⟨_, rfl, _, _, rfl, ⟨n, rfl, hn⟩, _, _, rfl, ⟨w, rfl, hw⟩, _, _, rfl, ⟨h, rfl, hh⟩, _, _, rfl, ⟨es, rfl, he, hes⟩, rfl⟩, rfl⟩ := hT
  refine hW.vc [] _ _ ?_
  simp [-List.getD_eq_getElem?_getD, c_sMirrorOK, c_l01In, c_l04Size, c_l11Rows, c_isMirror, c_within, c_isSize]
  exact mir_fin

end Go.Proofs.YtolgjekokdimoaaDoor
end

section
namespace Go.Proofs.YtolgjekokdimoaaDoor
variable [LaidG]
variable [LaidN 4]
set_option maxRecDepth 100000
set_option linter.unusedSimpArgs false

/-- An empty text. -/
def nilF (s : List UInt8) : Bool := s.isEmpty
def c_lineWords1 : FSpec := ⟨[(.rd, .str)], [.bool], true, fun _ => True, fun ps => [.bool (nilF (nth ps 0).S)], fun _ => []⟩
theorem k_lineWords1 : FnOk Tryd.prog 65 c_lineWords1 := by
  refine fn_mk [0, 2] [.tmp 2] (env_nil (tyTab_ok [])) mixed Tryd.func65 rfl (by decide) rfl (by decide) rfl ?_
  intro ps hT hpre W hW
  simp only [c_lineWords1, TyA, Ty, Tys] at hT hpre
  obtain ⟨_, _, rfl, ⟨t, rfl, ht⟩, rfl⟩ := hT
  refine hW.vc [] _ _ ?_
  simp [-List.getD_eq_getElem?_getD, c_lineWords1]
  rfl
def c_IndexFunc_lineWords1 : FSpec := ⟨[(.rd, .list .str), (.rd, .fn 65 [])], [.int .i64], true, fun ps => True, fun ps => [.int .i64 (idxGo (fun e => nilF e.S) 0 (nth ps 0).L)], fun _ => []⟩
theorem k_IndexFunc_lineWords1 : FnOk Tryd.prog 83 c_IndexFunc_lineWords1 := by
  refine fn_mk [0, 1, 4, 5, 7, 8] [.tmp 4] (env_cons (cs := []) k_lineWords1 (env_nil (tyTab_ok []))) mixed Tryd.func83 rfl (by decide) rfl (by decide) rfl ?_
  intro ps hT hpre W hW
  simp only [c_IndexFunc_lineWords1, TyA, Ty, Tys] at hT hpre
  obtain ⟨_, _, rfl, ⟨es, rfl, he, hes⟩, _, _, rfl, ⟨_, rfl, rfl⟩, rfl⟩ := hT
  refine hW.vc [] _ _ ?_
  simp [-List.getD_eq_getElem?_getD, c_IndexFunc_lineWords1, c_lineWords1]
  intro h1
  refine hW.loopS _ _ _ [.sl 8 .dp (.int .i64)] (fun ys => ∃ i : Nat, ys = [.int .i64 i] ∧ i ≤ es.length ∧ idxGo (fun e => nilF e.S) 0 es = idxGo (fun e => nilF e.S) i (es.drop i)) (fun ys => es.length - (nth ys 0).I.toNat) ?_ ?_
  · simp [-List.getD_eq_getElem?_getD, c_IndexFunc_lineWords1, c_lineWords1]
    exact ⟨0, rfl, by simp, by simp⟩
  · rintro ys ⟨i, rfl, h2, h3⟩
    refine hW.vc [] _ _ ?_
    simp [-List.getD_eq_getElem?_getD, c_IndexFunc_lineWords1, c_lineWords1]
    refine ⟨fun h4 => ⟨h4, fun _ => ⟨fun h5 => ?_, fun h5 => ?_⟩⟩, fun h4 => ?_⟩
    · rw [h3, drop_nth h4]; simp [idxGo, h5]
    · rw [wrap64 (by omega)]
      refine ⟨⟨i + 1, by omega, by omega, ?_⟩, by omega⟩
      rw [h3, drop_nth h4]; simp [idxGo, h5]
    · rw [h3, List.drop_eq_nil_of_le h4]; rfl
theorem idx_spec (p : PV → Bool) : ∀ (es : List PV) (i : Nat), (idxGo p i es = -1 ∧ ∀ e ∈ es, p e = false) ∨ ∃ k : Nat, idxGo p i es = ((i + k : Nat) : Int) ∧ k < es.length ∧ p (nth es k) = true ∧ ∀ e ∈ es.take k, p e = false
  | [], i => .inl ⟨rfl, by simp⟩
  | e :: es, i => by
    by_cases h : p e = true
    · exact .inr ⟨0, by simp [idxGo, h], by simp, by simpa [nth_zero] using h, by simp⟩
    · have h' : p e = false := by simpa using h
      rcases idx_spec p es (i + 1) with ⟨q1, q2⟩ | ⟨k, q1, q2, q3, q4⟩
      · refine .inl ⟨by simp [idxGo, h', q1], fun x hx => ?_⟩
        rcases List.mem_cons.1 hx with rfl | hx
        · exact h'
        · exact q2 x hx
      · refine .inr ⟨k + 1, by simp [idxGo, h', q1]; omega, by simpa using q2, by rw [nth_succ]; exact q3, fun x hx => ?_⟩
        rw [List.take_succ_cons] at hx
        rcases List.mem_cons.1 hx with rfl | hx
        · exact h'
        · exact q4 x hx
theorem nth_setW {l : List PV} {i : Nat} {x : PV} (h : i < l.length) : nth (l.set i x) i = x := by simp [nth, h]
def keepP (e : PV) : Bool := !nilF e.S
theorem keep_all {es : List PV} (h : ∀ e ∈ es, nilF e.S = false) : es.filter keepP = es := by
  rw [List.filter_eq_self]
  intro e he; simp [keepP, h e he]
def c_DeleteFunc_lineWords1 : FSpec := ⟨[(.ow, .list .str), (.rd, .fn 65 [])], [.list .str], true, fun ps => True, fun ps => [.list ((nth ps 0).L.filter keepP)], fun _ => []⟩
theorem k_DeleteFunc_lineWords1 : FnOk Tryd.prog 63 c_DeleteFunc_lineWords1 := by
  refine fn_mkG [0, 1, 4, 5, 6, 7] [.tmp 4] _ cG (env_cons (cs := []) k_lineWords1 (env_cons (cs := [65]) k_IndexFunc_lineWords1 (env_nil (tyTab_ok [])))) mixed Tryd.func63 rfl (by decide) rfl (by decide) rfl ?_
  intro ps hT hpre W hW hB
  simp only [c_DeleteFunc_lineWords1, TyA, Ty, Tys] at hT hpre
  obtain ⟨_, _, rfl, ⟨es, rfl, he, hes⟩, _, _, rfl, ⟨_, rfl, rfl⟩, rfl⟩ := hT
  refine hW.vc [] _ _ ?_
  simp [-List.getD_eq_getElem?_getD, c_DeleteFunc_lineWords1, c_IndexFunc_lineWords1, c_lineWords1]
  rcases idx_spec (fun e => nilF e.S) es 0 with ⟨q1, q2⟩ | ⟨k, q1, q2, q3, q4⟩
  · rw [q1]; exact ⟨fun _ => (keep_all q2).symm, fun h => absurd rfl h⟩
  · rw [q1, wrap64 (n := ((0 + k : Nat) : Int) + 1) (by rw [LIM] at he; omega)]
    refine ⟨fun h => by omega, fun _ => ?_⟩
    refine hW.loopS _ _ _ [.ar 0 .str, .sl 5 .dp (.int .i64), .sl 6 .dp (.int .i64)] (fun ys => ∃ (i j : Nat) (fs : List PV), ys = [.list fs, .int .i64 i, .int .i64 j] ∧ fs.length = es.length ∧ i < j ∧ j ≤ es.length ∧ fs.take i = (es.take j).filter keepP ∧ fs.drop j = es.drop j) (fun ys => es.length - (nth ys 2).I.toNat) ?_ ?_
    · simp [-List.getD_eq_getElem?_getD, c_DeleteFunc_lineWords1, c_IndexFunc_lineWords1, c_lineWords1]
      refine ⟨k, k + 1, es, ⟨rfl, rfl, by omega⟩, rfl, by omega, by omega, ?_, rfl⟩
      have hnf : keepP (nth es k) = false := by simp [keepP, q3]
      rw [take_nth q2, List.filter_append, keep_all q4, List.filter_cons, hnf]
      simp
    · rintro ys ⟨i, j, fs, rfl, g1, g2, g3, g4, g5⟩
      refine hW.vc [] _ _ ?_
      simp [-List.getD_eq_getElem?_getD, c_DeleteFunc_lineWords1, c_IndexFunc_lineWords1, c_lineWords1]
      rw [wrap64 (n := (i : Int) + 1) (by rw [LIM] at he; omega), wrap64 (n := (j : Int) + 1) (by rw [LIM] at he; omega)]
      have hnj : j < fs.length → nth fs j = nth es j := by
        intro h3
        have h5 := g5
        rw [drop_nth (es := fs) h3, drop_nth (es := es) (by omega)] at h5
        exact (List.cons.inj h5).1
      have hdj : j < fs.length → fs.drop (j + 1) = es.drop (j + 1) := by
        intro h3
        have h5 := g5
        rw [drop_nth (es := fs) h3, drop_nth (es := es) (by omega)] at h5
        exact (List.cons.inj h5).2
      refine fun _ => ⟨fun h3 => ⟨h3, fun _ => ⟨fun h4 => ⟨by omega, ⟨i + 1, j + 1, _, ⟨rfl, rfl, rfl⟩, by rw [List.length_set]; exact g1, by omega, by omega, ?_, ?_⟩, by omega⟩, fun h4 => ⟨⟨i, j + 1, fs, ⟨rfl, rfl, rfl⟩, g1, by omega, by omega, ?_, hdj h3⟩, by omega⟩⟩⟩, fun h3 => ⟨by omega, fun _ => ?_⟩⟩
      · have hx : PV.str (nth fs j).S = nth es j := by
          rw [hnj h3]
          obtain ⟨l, e, _⟩ := hes (nth es j) (nth_mem (by omega))
          rw [e]; rfl
        have hk : keepP (nth es j) = true := by rw [← hnj h3]; simp [keepP, h4]
        rw [take_nth (by rw [List.length_set]; omega), List.take_set_of_le (Nat.le_refl _), nth_setW (by omega), g4, hx, take_nth (show j < es.length by omega), List.filter_append, List.filter_cons, hk]
        simp
      · rw [List.drop_set_of_lt (by omega)]; exact hdj h3
      · have hk : keepP (nth es j) = false := by rw [← hnj h3]; simp [keepP, h4]
        rw [g4, take_nth (show j < es.length by omega), List.filter_append, List.filter_cons, hk]
        simp
      · refine hB.clr _ _ _ _ _ ?_
        simp [cRes, -List.getD_eq_getElem?_getD, c_DeleteFunc_lineWords1, c_IndexFunc_lineWords1, c_lineWords1]
        refine hW.vc [] _ _ ?_
        simp [-List.getD_eq_getElem?_getD, c_DeleteFunc_lineWords1, c_IndexFunc_lineWords1, c_lineWords1]
        refine ⟨by omega, fun _ => ?_⟩
        rw [List.take_append_of_le_length (by rw [List.length_take]; omega), List.take_take, Nat.min_self, g4, List.take_of_length_le (by omega)]
theorem filter_map_str (l : List (List UInt8)) : (l.map PV.str).filter keepP = (l.filter fun t => !t.isEmpty).map PV.str := by
  induction l with
  | nil => rfl
  | cons t l ih =>
    simp only [List.map_cons, List.filter_cons, ih, keepP, nilF, PV.S]
    cases t.isEmpty <;> simp
/-- The words of a line. -/
def wordsL (t : List UInt8) : List (List UInt8) := (cutA 32 [] t).filter fun w => !w.isEmpty
def c_lineWords : FSpec := ⟨[(.rd, .str)], [.list .str], true, fun ps => (nth ps 0).S.length ≤ 1048576, fun ps => [.list ((wordsL (nth ps 0).S).map PV.str)], fun _ => []⟩
theorem k_lineWords : FnOk Tryd.prog 40 c_lineWords := by
  refine fn_mk [0, 2] [.tmp 2] (env_cons (cs := [65]) k_DeleteFunc_lineWords1 (env_cons (cs := []) k_Split (env_nil (tyTab_ok [])))) mixed Tryd.func40 rfl (by decide) rfl (by decide) rfl ?_
  intro ps hT hpre W hW
  simp only [c_lineWords, TyA, Ty, Tys] at hT hpre
  obtain ⟨_, _, rfl, ⟨t, rfl, ht⟩, rfl⟩ := hT
  simp only [nth_zero, pv_S] at hpre
  refine hW.vc [] _ _ ?_
  simp [-List.getD_eq_getElem?_getD, c_lineWords, c_Split, c_DeleteFunc_lineWords1]
  exact ⟨hpre, by rw [cutP, filter_map_str]; rfl⟩
/-- What is still to come of the words. -/
def restW (t : List UInt8) (f i : Nat) : List (List UInt8) := if i ≤ t.length then (cutA 32 ((t.drop f).take (i - f)) (t.drop i)).filter fun w => !w.isEmpty else []
theorem acc_empty {t : List UInt8} {f i : Nat} (hi : i ≤ t.length) : ((t.drop f).take (i - f)).isEmpty = decide (¬ f < i) := by
  have hl : ((t.drop f).take (i - f)).length = min (i - f) (t.length - f) := by rw [List.length_take, List.length_drop]
  by_cases h : f < i
  · rw [decide_eq_false (by omega)]
    cases hx : (t.drop f).take (i - f) with
    | nil => rw [hx] at hl; simp at hl; omega
    | cons a l => rfl
  · rw [decide_eq_true h]
    have : (t.drop f).take (i - f) = [] := List.eq_nil_of_length_eq_zero (by omega)
    rw [this]; rfl
theorem rest_cut {t : List UInt8} {f i : Nat} (hi : i ≤ t.length) (h : i = t.length ∨ t.getD i 0 = 32) : restW t f i = (if f < i then [(t.drop f).take (i - f)] else []) ++ restW t (i + 1) (i + 1) := by
  have he := acc_empty (t := t) (f := f) hi
  have hfil : ∀ l : List (List UInt8), (((t.drop f).take (i - f)) :: l).filter (fun w => !w.isEmpty) = (if f < i then [(t.drop f).take (i - f)] else []) ++ l.filter fun w => !w.isEmpty := by
    intro l
    rw [List.filter_cons, he]
    by_cases hf : f < i
    · simp [hf]
    · simp [hf]
  rw [restW, if_pos hi]
  by_cases hl : i = t.length
  · rw [show t.drop i = [] from List.drop_eq_nil_of_le (by omega), cutA, hfil, restW, if_neg (show ¬ i + 1 ≤ t.length by omega)]; rfl
  · have h32 : t.getD i 0 = 32 := by rcases h with h | h; exact absurd h hl; exact h
    have hlt : i < t.length := by omega
    have hd : t.drop i = t.getD i 0 :: t.drop (i + 1) := by
      rw [List.drop_eq_getElem_cons hlt]; simp [hlt]
    rw [hd, cutA, if_pos h32, hfil, restW, if_pos (show i + 1 ≤ t.length by omega)]
    simp
theorem rest_go {t : List UInt8} {f i : Nat} (hi : i < t.length) (hf : f ≤ i) (h : ¬ t.getD i 0 = 32) : restW t f i = restW t f (i + 1) := by
  have hd : t.drop i = t.getD i 0 :: t.drop (i + 1) := by
    rw [List.drop_eq_getElem_cons hi]; simp [hi]
  rw [restW, if_pos (by omega), hd, cutA, if_neg h, restW, if_pos (by omega), show i + 1 - f = (i - f) + 1 by omega, List.take_succ_eq_append_getElem (by rw [List.length_drop]; omega)]
  congr 4
  rw [List.getElem_drop, List.getD_eq_getElem?_getD, List.getElem?_eq_getElem (by omega)]
  simp [show f + (i - f) = i by omega]
theorem b32 (x : UInt8) : ((x.toNat : Int) = 32) ↔ x = 32 := by
  constructor
  · intro h; apply UInt8.toNat_inj.1; have : (32 : UInt8).toNat = 32 := rfl; omega
  · intro h; rw [h]; rfl
def c_l00Words : FSpec := c_lineWords
theorem k_l00Words : FnOk Tryd.prog 36 c_l00Words := by
  refine fn_mk [0, 2, 3, 4, 5] [.tmp 2] (env_nil (tyTab_ok [])) mixed Tryd.func36 rfl (by decide) rfl (by decide) rfl ?_
  intro ps hT hpre W hW
  simp only [c_l00Words, TyA, Ty, Tys] at hT hpre
  simp only [c_lineWords, TyA, Ty, Tys] at hT hpre
  obtain ⟨_, _, rfl, ⟨t, rfl, ht⟩, rfl⟩ := hT
  simp only [nth_zero, pv_S] at hpre
  refine hW.vc [] _ _ ?_
  simp [-List.getD_eq_getElem?_getD, c_l00Words, c_lineWords]
  refine hW.loopS _ _ _ [.sl 3 .dp (.list .str), .sl 4 .dp (.int .i64), .sl 5 .dp (.int .i64)] (fun ys => ∃ (i f : Nat) (es : List (List UInt8)), ys = [.list (es.map PV.str), .int .i64 f, .int .i64 i] ∧ f ≤ i ∧ i ≤ t.length + 1 ∧ es.length ≤ i ∧ wordsL t = es ++ restW t f i) (fun ys => t.length + 1 - (nth ys 2).I.toNat) ?_ ?_
  · simp [-List.getD_eq_getElem?_getD, c_l00Words, c_lineWords]
    exact ⟨0, 0, [], ⟨rfl, rfl, rfl⟩, by omega, by omega, by simp, by simp [restW, wordsL]⟩
  · rintro ys ⟨i, f, es, rfl, g1, g2, g3, g4⟩
    refine hW.vc [] _ _ ?_
    simp [-List.getD_eq_getElem?_getD, c_l00Words, c_lineWords]
    refine fun _ => ⟨fun h3 _ => ⟨fun h => ⟨h, by omega⟩, fun h => ?_, fun h h' => ?_⟩, fun h3 => ?_⟩
    · rw [wrap64 (n := (i : Int) + 1) (by omega)]
      have hr := rest_cut (f := f) h3 (by rcases h with h | h; left; omega; right; exact (b32 _).1 h)
      rw [hr] at g4
      refine ⟨fun hf => ⟨⟨g1, h3⟩, by omega, fun _ => ?_⟩, fun hf => ?_⟩
      · rw [if_pos hf] at g4
        refine ⟨⟨i + 1, i + 1, es ++ [(t.drop f).take (i - f)], ⟨by simp, by omega, by omega⟩, by omega, by omega, by simp; omega, ?_⟩, by omega⟩
        rw [g4]; simp
      · rw [if_neg (by omega)] at g4
        exact ⟨⟨i + 1, i + 1, es, ⟨rfl, by omega, by omega⟩, by omega, by omega, by omega, by rw [g4]; simp⟩, by omega⟩
    · rw [wrap64 (n := (i : Int) + 1) (by omega)]
      rw [rest_go (by omega) g1 (fun e => h' ((b32 _).2 e))] at g4
      exact ⟨⟨i + 1, f, es, ⟨rfl, rfl, by omega⟩, by omega, by omega, by omega, g4⟩, by omega⟩
    · rw [restW, if_neg (by omega), List.append_nil] at g4
      rw [g4]
end Go.Proofs.YtolgjekokdimoaaDoor
end

section
namespace Go.Proofs.YtolgjekokdimoaaDoor
variable [LaidG]
set_option maxRecDepth 100000
set_option linter.unusedSimpArgs false

def letC (c : Int) : Bool := inB c 97 122 || inB c 65 90 || c == 95
def digC (c : Int) : Bool := inB c 48 57
def namI : Bool → List UInt8 → Bool
  | _, [] => true
  | f, c :: l => (letC c.toNat || (!f && digC c.toNat)) && namI false l
def nameB (t : List UInt8) : Bool := namI true t && inB t.length 1 40

def c_isName : FSpec := ⟨[(.rd, .str)], [.bool], true, fun _ => True, fun ps => [.bool (nameB (nth ps 0).S)], fun _ => []⟩
theorem k_isName : FnOk Tryd.prog 71 c_isName := by
  refine fn_mk [0, 2, 3, 4, 5, 7, 8] [.tmp 2] (env_cons (cs := []) k_within (env_nil (tyTab_ok []))) mixed Tryd.func71 rfl (by decide) rfl (by decide) rfl ?_
  intro ps hT hpre W hW
  simp only [c_isName, TyA, Ty, Tys] at hT hpre
  obtain ⟨_, _, rfl, ⟨t, rfl, ht⟩, rfl⟩ := hT
  refine hW.vc [] _ _ ?_
  simp [-List.getD_eq_getElem?_getD, c_isName, c_within]
  refine fun _ => hW.loopS _ _ _ [.sl 8 .dp (.int .i64)] (fun ys => ∃ i : Nat, ys = [.int .i64 i] ∧ i ≤ t.length ∧ namI true t = namI (i == 0) (t.drop i)) (fun ys => t.length - (nth ys 0).I.toNat) ?_ ?_
  · simp [-List.getD_eq_getElem?_getD, c_isName, c_within]
    exact ⟨0, rfl, by omega, rfl⟩
  · rintro ys ⟨i, rfl, h1, h2⟩
    refine hW.vc [] _ _ ?_
    simp [-List.getD_eq_getElem?_getD, c_isName, c_within]
    refine ⟨fun h3 => ?_, fun h3 _ => ?_⟩
    · have hd : t.drop i = t.getD i 0 :: t.drop (i + 1) := by
        rw [List.drop_eq_getElem_cons h3]; simp [h3]
      rw [hd, namI] at h2
      rw [wrap64 (n := (i : Int) + 1) (by omega)]
      generalize ((t.getD i 0).toNat : Int) = c at *
      refine ⟨h3, by omega, by omega, by omega, fun g1 g2 g3 g4 => ?_, fun g => ⟨⟨i + 1, by omega, by omega, ?_⟩, by omega⟩⟩
      · have hf : (letC c || (!(i == 0) && digC c)) = false := by
          cases hq : (letC c || (!(i == 0) && digC c)) with
          | false => rfl
          | true => simp [letC, digC, inB] at hq; omega
        rw [nameB, h2, hf]; rfl
      · have hf : (letC c || (!(i == 0) && digC c)) = true := by
          cases hq : (letC c || (!(i == 0) && digC c)) with
          | true => rfl
          | false => simp [letC, digC, inB] at hq; omega
        rw [h2, hf]; rfl
    · rw [nameB, h2, List.drop_eq_nil_of_le h3, namI, Bool.true_and]

theorem nameB_a {t : List UInt8} (h : ((t.length : Int) < 1 ∨ 40 < (t.length : Int)) ∨ letC (t.getD 0 0).toNat = false) : nameB t = false := by
  rcases h with h | h
  · have : inB t.length 1 40 = false := by
      cases hq : inB (t.length : Int) 1 40 with
      | false => rfl
      | true => simp [inB] at hq; omega
    rw [nameB, this, Bool.and_false]
  · cases t with
    | nil => simp [nameB, inB]
    | cons c l => simp only [List.getD_cons_zero] at h; simp [nameB, namI, h]
theorem nameB_b {t : List UInt8} (h : 0 < t.length) (h2 : letC (t.getD 0 0).toNat = true) : namI true t = namI false (t.drop 1) := by
  cases t with
  | nil => simp at h
  | cons c l => simp only [List.getD_cons_zero] at h2; simp [namI, h2]

def c_l00Letter : FSpec := ⟨[(.rd, .int .u8)], [.bool], true, fun _ => True, fun ps => [.bool (letC (nth ps 0).I)], fun _ => []⟩
theorem k_l00Letter : FnOk Tryd.prog 85 c_l00Letter := by
  refine fn_mk [0, 2] [.tmp 2] (env_nil (tyTab_ok [])) mixed Tryd.func85 rfl (by decide) rfl (by decide) rfl ?_
  intro ps hT hpre W hW
  simp only [c_l00Letter, TyA, Ty, Tys] at hT hpre
  obtain ⟨_, _, rfl, ⟨c, rfl, hc⟩, rfl⟩ := hT
  refine hW.vc [] _ _ ?_
  simp [-List.getD_eq_getElem?_getD, c_l00Letter]
  exact ⟨by omega, rfl⟩
def c_l00Digit : FSpec := ⟨[(.rd, .int .u8)], [.bool], true, fun _ => True, fun ps => [.bool (digC (nth ps 0).I)], fun _ => []⟩
theorem k_l00Digit : FnOk Tryd.prog 86 c_l00Digit := by
  refine fn_mk [0, 2] [.tmp 2] (env_nil (tyTab_ok [])) mixed Tryd.func86 rfl (by decide) rfl (by decide) rfl ?_
  intro ps hT hpre W hW
  simp only [c_l00Digit, TyA, Ty, Tys] at hT hpre
  obtain ⟨_, _, rfl, ⟨c, rfl, hc⟩, rfl⟩ := hT
  refine hW.vc [] _ _ ?_
  simp [-List.getD_eq_getElem?_getD, c_l00Digit]
  rfl
def c_l00Word : FSpec := c_isName
theorem k_l00Word : FnOk Tryd.prog 66 c_l00Word := by
  refine fn_mk [0, 2, 3] [.tmp 2] (env_cons (cs := []) k_l00Digit (env_cons (cs := []) k_l00Letter (env_nil (tyTab_ok [])))) mixed Tryd.func66 rfl (by decide) rfl (by decide) rfl ?_
  intro ps hT hpre W hW
  simp only [c_l00Word, TyA, Ty, Tys] at hT hpre
  simp only [c_isName, TyA, Ty, Tys] at hT
  obtain ⟨_, _, rfl, ⟨t, rfl, ht⟩, rfl⟩ := hT
  refine hW.vc [] _ _ ?_
  simp [-List.getD_eq_getElem?_getD, c_l00Word, c_l00Letter, c_l00Digit, c_isName]
  refine fun _ _ => ⟨fun _ _ => by omega, fun h => nameB_a h, fun g1 g2 g3 => ?_⟩
  refine hW.loopS _ _ _ [.sl 3 .dp (.int .i64)] (fun ys => ∃ i : Nat, ys = [.int .i64 i] ∧ i ≤ t.length ∧ namI true t = namI false (t.drop i)) (fun ys => t.length - (nth ys 0).I.toNat) ?_ ?_
  · simp [-List.getD_eq_getElem?_getD, c_l00Word, c_l00Letter, c_l00Digit, c_isName]
    exact ⟨1, rfl, by omega, nameB_b (by omega) g3⟩
  · rintro ys ⟨i, rfl, h1, h2⟩
    refine hW.vc [] _ _ ?_
    simp [-List.getD_eq_getElem?_getD, c_l00Word, c_l00Letter, c_l00Digit, c_isName]
    refine fun _ => ⟨fun h3 => ?_, fun h3 => ?_⟩
    · have hd : t.drop i = t.getD i 0 :: t.drop (i + 1) := by
        rw [List.drop_eq_getElem_cons h3]; simp [h3]
      rw [hd, namI] at h2
      rw [wrap64 (n := (i : Int) + 1) (by omega)]
      refine ⟨h3, fun h => ⟨h, h3⟩, fun k1 k2 => ?_, fun k => ⟨⟨i + 1, by omega, by omega, ?_⟩, by omega⟩⟩
      · rw [nameB, h2, k1, k2]; rfl
      · have hf : (letC (t.getD i 0).toNat || (!false && digC (t.getD i 0).toNat)) = true := by
          cases hq : letC (t.getD i 0).toNat with
          | true => rfl
          | false => rw [k hq]; rfl
        rw [h2, hf]; rfl
    · rw [nameB, h2, List.drop_eq_nil_of_le h3, namI, Bool.true_and]
      simp [inB]; omega

def c_sNameOK : FSpec := c_isName
theorem k_sNameOK : FnOk Tryd.prog 41 c_sNameOK := by
  refine fn_mk [0, 2] [.tmp 2] (env_cons (cs := []) k_l00Word (env_nil (tyTab_ok []))) mixed Tryd.func41 rfl (by decide) rfl (by decide) rfl ?_
  intro ps hT hpre W hW
  simp only [c_sNameOK, TyA, Ty, Tys] at hT hpre
  simp only [c_isName, TyA, Ty, Tys] at hT
  obtain ⟨_, _, rfl, ⟨t, rfl, ht⟩, rfl⟩ := hT
  refine hW.vc [] _ _ ?_
  simp [-List.getD_eq_getElem?_getD, c_sNameOK, c_l00Word, c_isName, c_isName]
def wordB (t : List UInt8) : Bool := nameB t && decide ((t.length : Int) ≤ 12)
def c_isWindowName : FSpec := ⟨[(.rd, .str)], [.bool], true, fun _ => True, fun ps => [.bool (wordB (nth ps 0).S)], fun _ => []⟩
theorem k_isWindowName : FnOk Tryd.prog 47 c_isWindowName := by
  refine fn_mk [0, 2] [.tmp 2] (env_cons (cs := []) k_isName (env_nil (tyTab_ok []))) mixed Tryd.func47 rfl (by decide) rfl (by decide) rfl ?_
  intro ps hT hpre W hW
  simp only [c_isWindowName, TyA, Ty, Tys] at hT hpre
  obtain ⟨_, _, rfl, ⟨t, rfl, ht⟩, rfl⟩ := hT
  refine hW.vc [] _ _ ?_
  simp [-List.getD_eq_getElem?_getD, c_isWindowName, c_isName]
  exact fun _ => rfl
def c_isClientId : FSpec := ⟨[(.rd, .int .i64)], [.bool], true, fun _ => True, fun ps => [.bool (inB (nth ps 0).I 0 200)], fun _ => []⟩
theorem k_isClientId : FnOk Tryd.prog 46 c_isClientId := by
  refine fn_mk [0, 2] [.tmp 2] (env_cons (cs := []) k_within (env_nil (tyTab_ok []))) mixed Tryd.func46 rfl (by decide) rfl (by decide) rfl ?_
  intro ps hT hpre W hW
  simp only [c_isClientId, TyA, Ty, Tys] at hT hpre
  obtain ⟨_, _, rfl, ⟨n, rfl, hn⟩, rfl⟩ := hT
  refine hW.vc [] _ _ ?_
  simp [-List.getD_eq_getElem?_getD, c_isClientId, c_within]
def toldB (c : Int) (t : List UInt8) (n : Int) : Bool := inB c 0 200 && wordB t && inB n (-1) 60
def c_isTold : FSpec := ⟨[(.rd, .int .i64), (.rd, .str), (.rd, .int .i64)], [.bool], true, fun _ => True, fun ps => [.bool (toldB (nth ps 0).I (nth ps 1).S (nth ps 2).I)], fun _ => []⟩
theorem k_isTold : FnOk Tryd.prog 24 c_isTold := by
  refine fn_mk [0, 1, 2, 6] [.tmp 6] (env_cons (cs := []) k_within (env_cons (cs := []) k_isWindowName (env_cons (cs := []) k_isClientId (env_nil (tyTab_ok []))))) mixed Tryd.func24 rfl (by decide) rfl (by decide) rfl ?_
  intro ps hT hpre W hW
  simp only [c_isTold, TyA, Ty, Tys] at hT hpre
  obtain ⟨_, _, rfl, ⟨c, rfl, hc⟩, _, _, rfl, ⟨t, rfl, ht⟩, _, _, rfl, ⟨n, rfl, hn⟩, rfl⟩ := hT
  refine hW.vc [] _ _ ?_
  simp [-List.getD_eq_getElem?_getD, c_isTold, c_isClientId, c_isWindowName, c_within]
  rfl
def c_l12Ask : FSpec := c_isTold
theorem k_l12Ask : FnOk Tryd.prog 21 c_l12Ask := by
  refine fn_mk [0, 1, 2, 6] [.tmp 6] (env_cons (cs := []) k_sNameOK (env_cons (cs := []) k_l01In (env_nil (tyTab_ok [])))) mixed Tryd.func21 rfl (by decide) rfl (by decide) rfl ?_
  intro ps hT hpre W hW
  simp only [c_l12Ask, TyA, Ty, Tys] at hT hpre
  simp only [c_isTold, TyA, Ty, Tys] at hT
  obtain ⟨_, _, rfl, ⟨c, rfl, hc⟩, _, _, rfl, ⟨t, rfl, ht⟩, _, _, rfl, ⟨n, rfl, hn⟩, rfl⟩ := hT
  refine hW.vc [] _ _ ?_
  simp [-List.getD_eq_getElem?_getD, c_l12Ask, c_l01In, c_sNameOK, c_isTold, c_within, c_isName, c_within, c_isName]
  intro _
  simp only [toldB, wordB]
  cases inB c 0 200 <;> cases nameB t <;> cases decide ((t.length : Int) ≤ 12) <;> cases inB n (-1) 60 <;> rfl
end Go.Proofs.YtolgjekokdimoaaDoor
end

