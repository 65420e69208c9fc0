/-
  Part 6 of the proof of FnExactClientOK: a verification-condition generator over the program and the contracts of its functions, in the order of their use.
  Conditions: none.
-/
import Derived.Test.YtolgjekokdimoaaDoorM5
import Derived.Test.YtolgjekokdimoaaDoorChecked
set_option linter.unusedVariables false
set_option linter.unusedSimpArgs false

section
namespace Go.Proofs.YtolgjekokdimoaaDoor
set_option maxRecDepth 100000

/-- int64 -/
noncomputable def T2 : TI := ⟨false, [.int .i64], 0, [], 8, .int .i64, false⟩
theorem T2_ok : TIok Tryd.prog 2 T2 := tiok_mk (i := Tryd.t2) Tryd.underlying2 Tryd.type2 rfl rfl rfl rfl rfl rfl (by kernel_rfl) (by decide) (by decide) (by decide) rfl (fun h => by cases h)
theorem T2_sz : T2.sz = 1 := rfl
theorem T2_pty : T2.pty = .int .i64 := rfl
/-- int -/
noncomputable def T3 : TI := ⟨false, [.int .i64], 0, [], 8, .int .i64, false⟩
theorem T3_ok : TIok Tryd.prog 3 T3 := tiok_mk (i := Tryd.t3) Tryd.underlying3 Tryd.type3 rfl rfl rfl rfl rfl rfl (by kernel_rfl) (by decide) (by decide) (by decide) rfl (fun h => by cases h)
theorem T3_sz : T3.sz = 1 := rfl
theorem T3_pty : T3.pty = .int .i64 := rfl
/-- bool -/
noncomputable def T4 : TI := ⟨false, [.bool], 0, [], 1, .bool, false⟩
theorem T4_ok : TIok Tryd.prog 4 T4 := tiok_mk (i := Tryd.t4) Tryd.underlying4 Tryd.type4 rfl rfl rfl rfl rfl rfl (by kernel_rfl) (by decide) (by decide) (by decide) rfl (fun h => by cases h)
theorem T4_sz : T4.sz = 1 := rfl
theorem T4_pty : T4.pty = .bool := rfl
/-- uint8 -/
noncomputable def T5 : TI := ⟨false, [.int .u8], 0, [], 1, .int .u8, false⟩
theorem T5_ok : TIok Tryd.prog 5 T5 := tiok_mk (i := Tryd.t5) Tryd.underlying5 Tryd.type5 rfl rfl rfl rfl rfl rfl (by kernel_rfl) (by decide) (by decide) (by decide) rfl (fun h => by cases h)
theorem T5_sz : T5.sz = 1 := rfl
theorem T5_pty : T5.pty = .int .u8 := rfl
/-- abi.BoundsErrorCode -/
noncomputable def T6 : TI := ⟨false, [.int .u8], 0, [], 1, .int .u8, false⟩
theorem T6_ok : TIok Tryd.prog 6 T6 := tiok_mk (i := Tryd.t6) Tryd.underlying6 Tryd.type6 rfl rfl rfl rfl rfl rfl (by kernel_rfl) (by decide) (by decide) (by decide) rfl (fun h => by cases h)
theorem T6_sz : T6.sz = 1 := rfl
theorem T6_pty : T6.pty = .int .u8 := rfl
/-- a struct -/
noncomputable def T7 : TI := ⟨true, [.int .i64, .int .i64, .bool, .int .u8], 0, [(0, 2), (1, 3), (2, 4), (3, 6)], 24, .struct (match Tryd.t7.desc with | .struct fs => fs | _ => #[]), true⟩
theorem T7_ok : TIok Tryd.prog 7 T7 := tiok_mk (i := Tryd.t7) Tryd.underlying7 Tryd.type7 rfl rfl rfl rfl rfl rfl (by kernel_rfl) (by decide) (by decide) (by decide) rfl (fun _ => ⟨Tryd.stoodInHeld7, Tryd.eqGuardType7⟩)
theorem T7_sz : T7.sz = 4 := rfl
theorem T7_pty : T7.pty = .agg [.int .i64, .int .i64, .bool, .int .u8] := rfl
/-- runtime.boundsError -/
noncomputable def T8 : TI := ⟨true, [.int .i64, .int .i64, .bool, .int .u8], 0, [(0, 2), (1, 3), (2, 4), (3, 6)], 24, .struct (match Tryd.t7.desc with | .struct fs => fs | _ => #[]), true⟩
theorem T8_ok : TIok Tryd.prog 8 T8 := tiok_mk (i := Tryd.t8) Tryd.underlying8 Tryd.type8 rfl rfl rfl rfl rfl rfl (by kernel_rfl) (by decide) (by decide) (by decide) rfl (fun _ => ⟨Tryd.stoodInHeld8, Tryd.eqGuardType8⟩)
theorem T8_sz : T8.sz = 4 := rfl
theorem T8_pty : T8.pty = .agg [.int .i64, .int .i64, .bool, .int .u8] := rfl
/-- string -/
noncomputable def T9 : TI := ⟨false, [.str], 0, [], 16, .string, false⟩
theorem T9_ok : TIok Tryd.prog 9 T9 := tiok_mk (i := Tryd.t9) Tryd.underlying9 Tryd.type9 rfl rfl rfl rfl rfl rfl (by kernel_rfl) (by decide) (by decide) (by decide) rfl (fun h => by cases h)
theorem T9_sz : T9.sz = 1 := rfl
theorem T9_pty : T9.pty = .str := rfl
/-- runtime.errorString -/
noncomputable def T10 : TI := ⟨false, [.str], 0, [], 16, .string, false⟩
theorem T10_ok : TIok Tryd.prog 10 T10 := tiok_mk (i := Tryd.t10) Tryd.underlying10 Tryd.type10 rfl rfl rfl rfl rfl rfl (by kernel_rfl) (by decide) (by decide) (by decide) rfl (fun h => by cases h)
theorem T10_sz : T10.sz = 1 := rfl
theorem T10_pty : T10.pty = .str := rfl
/-- runtime.plainError -/
noncomputable def T11 : TI := ⟨false, [.str], 0, [], 16, .string, false⟩
theorem T11_ok : TIok Tryd.prog 11 T11 := tiok_mk (i := Tryd.t11) Tryd.underlying11 Tryd.type11 rfl rfl rfl rfl rfl rfl (by kernel_rfl) (by decide) (by decide) (by decide) rfl (fun h => by cases h)
theorem T11_sz : T11.sz = 1 := rfl
theorem T11_pty : T11.pty = .str := rfl
/-- uintptr -/
noncomputable def T12 : TI := ⟨false, [.int .u64], 0, [], 8, .int .u64, false⟩
theorem T12_ok : TIok Tryd.prog 12 T12 := tiok_mk (i := Tryd.t12) Tryd.underlying12 Tryd.type12 rfl rfl rfl rfl rfl rfl (by kernel_rfl) (by decide) (by decide) (by decide) rfl (fun h => by cases h)
theorem T12_sz : T12.sz = 1 := rfl
theorem T12_pty : T12.pty = .int .u64 := rfl
/-- a struct -/
noncomputable def T13 : TI := ⟨true, [.str, .int .u64], 0, [(0, 9), (1, 12)], 24, .struct (match Tryd.t13.desc with | .struct fs => fs | _ => #[]), false⟩
theorem T13_ok : TIok Tryd.prog 13 T13 := tiok_mk (i := Tryd.t13) Tryd.underlying13 Tryd.type13 rfl rfl rfl rfl rfl rfl (by kernel_rfl) (by decide) (by decide) (by decide) rfl (fun h => by cases h)
theorem T13_sz : T13.sz = 2 := rfl
theorem T13_pty : T13.pty = .agg [.str, .int .u64] := rfl
/-- runtime.errorAddressString -/
noncomputable def T14 : TI := ⟨true, [.str, .int .u64], 0, [(0, 9), (1, 12)], 24, .struct (match Tryd.t13.desc with | .struct fs => fs | _ => #[]), false⟩
theorem T14_ok : TIok Tryd.prog 14 T14 := tiok_mk (i := Tryd.t14) Tryd.underlying14 Tryd.type14 rfl rfl rfl rfl rfl rfl (by kernel_rfl) (by decide) (by decide) (by decide) rfl (fun h => by cases h)
theorem T14_sz : T14.sz = 2 := rfl
theorem T14_pty : T14.pty = .agg [.str, .int .u64] := rfl
/-- *runtime.TypeAssertionError -/
noncomputable def T15 : TI := ⟨false, [.opq], 0, [], 8, .pointer 170, false⟩
theorem T15_ok : TIok Tryd.prog 15 T15 := tiok_mk (i := Tryd.t15) Tryd.underlying15 Tryd.type15 rfl rfl rfl rfl rfl rfl (by kernel_rfl) (by decide) (by decide) (by decide) rfl (fun h => by cases h)
theorem T15_sz : T15.sz = 1 := rfl
theorem T15_pty : T15.pty = .opq := rfl
/-- *runtime.PanicNilError -/
noncomputable def T16 : TI := ⟨false, [.opq], 0, [], 8, .pointer 173, false⟩
theorem T16_ok : TIok Tryd.prog 16 T16 := tiok_mk (i := Tryd.t16) Tryd.underlying16 Tryd.type16 rfl rfl rfl rfl rfl rfl (by kernel_rfl) (by decide) (by decide) (by decide) rfl (fun h => by cases h)
theorem T16_sz : T16.sz = 1 := rfl
theorem T16_pty : T16.pty = .opq := rfl
/-- *abi.Type -/
noncomputable def T17 : TI := ⟨false, [.opq], 0, [], 8, .pointer 180, false⟩
theorem T17_ok : TIok Tryd.prog 17 T17 := tiok_mk (i := Tryd.t17) Tryd.underlying17 Tryd.type17 rfl rfl rfl rfl rfl rfl (by kernel_rfl) (by decide) (by decide) (by decide) rfl (fun h => by cases h)
theorem T17_sz : T17.sz = 1 := rfl
theorem T17_pty : T17.pty = .opq := rfl
/-- a struct -/
noncomputable def T18 : TI := ⟨true, [.opq], 0, [(0, 17)], 8, .struct (match Tryd.t18.desc with | .struct fs => fs | _ => #[]), false⟩
theorem T18_ok : TIok Tryd.prog 18 T18 := tiok_mk (i := Tryd.t18) Tryd.underlying18 Tryd.type18 rfl rfl rfl rfl rfl rfl (by kernel_rfl) (by decide) (by decide) (by decide) rfl (fun h => by cases h)
theorem T18_sz : T18.sz = 1 := rfl
theorem T18_pty : T18.pty = .agg [.opq] := rfl
/-- maps.unhashableTypeError -/
noncomputable def T19 : TI := ⟨true, [.opq], 0, [(0, 17)], 8, .struct (match Tryd.t18.desc with | .struct fs => fs | _ => #[]), false⟩
theorem T19_ok : TIok Tryd.prog 19 T19 := tiok_mk (i := Tryd.t19) Tryd.underlying19 Tryd.type19 rfl rfl rfl rfl rfl rfl (by kernel_rfl) (by decide) (by decide) (by decide) rfl (fun h => by cases h)
theorem T19_sz : T19.sz = 1 := rfl
theorem T19_pty : T19.pty = .agg [.opq] := rfl
/-- int32 -/
noncomputable def T21 : TI := ⟨false, [.int .i32], 0, [], 4, .int .i32, false⟩
theorem T21_ok : TIok Tryd.prog 21 T21 := tiok_mk (i := Tryd.t21) Tryd.underlying21 Tryd.type21 rfl rfl rfl rfl rfl rfl (by kernel_rfl) (by decide) (by decide) (by decide) rfl (fun h => by cases h)
theorem T21_sz : T21.sz = 1 := rfl
theorem T21_pty : T21.pty = .int .i32 := rfl
/-- []string -/
noncomputable def T25 : TI := ⟨false, [.list (.str)], 9, [], 24, .slice 9, false⟩
theorem T25_ok : TIok Tryd.prog 25 T25 := tiok_mk (i := Tryd.t25) Tryd.underlying25 Tryd.type25 rfl rfl rfl rfl rfl rfl (by kernel_rfl) (by decide) (by decide) (by decide) rfl (fun h => by cases h)
theorem T25_sz : T25.sz = 1 := rfl
theorem T25_pty : T25.pty = .list (.str) := rfl
/-- a struct -/
noncomputable def T26 : TI := ⟨true, [.int .i64, .int .i64, .int .i64, .list (.str)], 0, [(0, 3), (1, 3), (2, 3), (3, 25)], 48, .struct (match Tryd.t26.desc with | .struct fs => fs | _ => #[]), false⟩
theorem T26_ok : TIok Tryd.prog 26 T26 := tiok_mk (i := Tryd.t26) Tryd.underlying26 Tryd.type26 rfl rfl rfl rfl rfl rfl (by kernel_rfl) (by decide) (by decide) (by decide) rfl (fun h => by cases h)
theorem T26_sz : T26.sz = 4 := rfl
theorem T26_pty : T26.pty = .agg [.int .i64, .int .i64, .int .i64, .list (.str)] := rfl
/-- impl.Mirror -/
noncomputable def T27 : TI := ⟨true, [.int .i64, .int .i64, .int .i64, .list (.str)], 0, [(0, 3), (1, 3), (2, 3), (3, 25)], 48, .struct (match Tryd.t26.desc with | .struct fs => fs | _ => #[]), false⟩
theorem T27_ok : TIok Tryd.prog 27 T27 := tiok_mk (i := Tryd.t27) Tryd.underlying27 Tryd.type27 rfl rfl rfl rfl rfl rfl (by kernel_rfl) (by decide) (by decide) (by decide) rfl (fun h => by cases h)
theorem T27_sz : T27.sz = 4 := rfl
theorem T27_pty : T27.pty = .agg [.int .i64, .int .i64, .int .i64, .list (.str)] := rfl
/-- a struct -/
noncomputable def T28 : TI := ⟨true, [.int .i64, .str, .str, .int .i64, .int .i64, .int .i64, .list (.str)], 0, [(0, 3), (1, 9), (2, 9), (3, 27)], 88, .struct (match Tryd.t28.desc with | .struct fs => fs | _ => #[]), false⟩
theorem T28_ok : TIok Tryd.prog 28 T28 := tiok_mk (i := Tryd.t28) Tryd.underlying28 Tryd.type28 rfl rfl rfl rfl rfl rfl (by kernel_rfl) (by decide) (by decide) (by decide) rfl (fun h => by cases h)
theorem T28_sz : T28.sz = 7 := rfl
theorem T28_pty : T28.pty = .agg [.int .i64, .str, .str, .int .i64, .int .i64, .int .i64, .list (.str)] := rfl
/-- impl.Client -/
noncomputable def T29 : TI := ⟨true, [.int .i64, .str, .str, .int .i64, .int .i64, .int .i64, .list (.str)], 0, [(0, 3), (1, 9), (2, 9), (3, 27)], 88, .struct (match Tryd.t28.desc with | .struct fs => fs | _ => #[]), false⟩
theorem T29_ok : TIok Tryd.prog 29 T29 := tiok_mk (i := Tryd.t29) Tryd.underlying29 Tryd.type29 rfl rfl rfl rfl rfl rfl (by kernel_rfl) (by decide) (by decide) (by decide) rfl (fun h => by cases h)
theorem T29_sz : T29.sz = 7 := rfl
theorem T29_pty : T29.pty = .agg [.int .i64, .str, .str, .int .i64, .int .i64, .int .i64, .list (.str)] := rfl
/-- laws.Mirror -/
noncomputable def T35 : TI := ⟨true, [.int .i64, .int .i64, .int .i64, .list (.str)], 0, [(0, 3), (1, 3), (2, 3), (3, 25)], 48, .struct (match Tryd.t26.desc with | .struct fs => fs | _ => #[]), false⟩
theorem T35_ok : TIok Tryd.prog 35 T35 := tiok_mk (i := Tryd.t35) Tryd.underlying35 Tryd.type35 rfl rfl rfl rfl rfl rfl (by kernel_rfl) (by decide) (by decide) (by decide) rfl (fun h => by cases h)
theorem T35_sz : T35.sz = 4 := rfl
theorem T35_pty : T35.pty = .agg [.int .i64, .int .i64, .int .i64, .list (.str)] := rfl
/-- a struct -/
noncomputable def T36 : TI := ⟨true, [.int .i64, .str, .str, .int .i64, .int .i64, .int .i64, .list (.str)], 0, [(0, 3), (1, 9), (2, 9), (3, 35)], 88, .struct (match Tryd.t36.desc with | .struct fs => fs | _ => #[]), false⟩
theorem T36_ok : TIok Tryd.prog 36 T36 := tiok_mk (i := Tryd.t36) Tryd.underlying36 Tryd.type36 rfl rfl rfl rfl rfl rfl (by kernel_rfl) (by decide) (by decide) (by decide) rfl (fun h => by cases h)
theorem T36_sz : T36.sz = 7 := rfl
theorem T36_pty : T36.pty = .agg [.int .i64, .str, .str, .int .i64, .int .i64, .int .i64, .list (.str)] := rfl
/-- laws.Client -/
noncomputable def T37 : TI := ⟨true, [.int .i64, .str, .str, .int .i64, .int .i64, .int .i64, .list (.str)], 0, [(0, 3), (1, 9), (2, 9), (3, 35)], 88, .struct (match Tryd.t36.desc with | .struct fs => fs | _ => #[]), false⟩
theorem T37_ok : TIok Tryd.prog 37 T37 := tiok_mk (i := Tryd.t37) Tryd.underlying37 Tryd.type37 rfl rfl rfl rfl rfl rfl (by kernel_rfl) (by decide) (by decide) (by decide) rfl (fun h => by cases h)
theorem T37_sz : T37.sz = 7 := rfl
theorem T37_pty : T37.pty = .agg [.int .i64, .str, .str, .int .i64, .int .i64, .int .i64, .list (.str)] := rfl
/-- a struct -/
noncomputable def T42 : TI := ⟨true, [.int .i64, .int .i64, .int .i64, .int .i64, .int .i64, .int .i64, .bool, .str, .str], 0, [(0, 3), (1, 3), (2, 3), (3, 3), (4, 3), (5, 3), (6, 4), (7, 9), (8, 9)], 88, .struct (match Tryd.t42.desc with | .struct fs => fs | _ => #[]), true⟩
theorem T42_ok : TIok Tryd.prog 42 T42 := tiok_mk (i := Tryd.t42) Tryd.underlying42 Tryd.type42 rfl rfl rfl rfl rfl rfl (by kernel_rfl) (by decide) (by decide) (by decide) rfl (fun _ => ⟨Tryd.stoodInHeld42, Tryd.eqGuardType42⟩)
theorem T42_sz : T42.sz = 9 := rfl
theorem T42_pty : T42.pty = .agg [.int .i64, .int .i64, .int .i64, .int .i64, .int .i64, .int .i64, .bool, .str, .str] := rfl
/-- impl.Command -/
noncomputable def T43 : TI := ⟨true, [.int .i64, .int .i64, .int .i64, .int .i64, .int .i64, .int .i64, .bool, .str, .str], 0, [(0, 3), (1, 3), (2, 3), (3, 3), (4, 3), (5, 3), (6, 4), (7, 9), (8, 9)], 88, .struct (match Tryd.t42.desc with | .struct fs => fs | _ => #[]), true⟩
theorem T43_ok : TIok Tryd.prog 43 T43 := tiok_mk (i := Tryd.t43) Tryd.underlying43 Tryd.type43 rfl rfl rfl rfl rfl rfl (by kernel_rfl) (by decide) (by decide) (by decide) rfl (fun _ => ⟨Tryd.stoodInHeld43, Tryd.eqGuardType43⟩)
theorem T43_sz : T43.sz = 9 := rfl
theorem T43_pty : T43.pty = .agg [.int .i64, .int .i64, .int .i64, .int .i64, .int .i64, .int .i64, .bool, .str, .str] := rfl
/-- []int -/
noncomputable def T63 : TI := ⟨false, [.list (.int .i64)], 3, [], 24, .slice 3, false⟩
theorem T63_ok : TIok Tryd.prog 63 T63 := tiok_mk (i := Tryd.t63) Tryd.underlying63 Tryd.type63 rfl rfl rfl rfl rfl rfl (by kernel_rfl) (by decide) (by decide) (by decide) rfl (fun h => by cases h)
theorem T63_sz : T63.sz = 1 := rfl
theorem T63_pty : T63.pty = .list (.int .i64) := rfl
/-- []uint8 -/
noncomputable def T91 : TI := ⟨false, [.list (.int .u8)], 5, [], 24, .slice 5, false⟩
theorem T91_ok : TIok Tryd.prog 91 T91 := tiok_mk (i := Tryd.t91) Tryd.underlying91 Tryd.type91 rfl rfl rfl rfl rfl rfl (by kernel_rfl) (by decide) (by decide) (by decide) rfl (fun h => by cases h)
theorem T91_sz : T91.sz = 1 := rfl
theorem T91_pty : T91.pty = .list (.int .u8) := rfl
/-- uint -/
noncomputable def T93 : TI := ⟨false, [.int .u64], 0, [], 8, .int .u64, false⟩
theorem T93_ok : TIok Tryd.prog 93 T93 := tiok_mk (i := Tryd.t93) Tryd.underlying93 Tryd.type93 rfl rfl rfl rfl rfl rfl (by kernel_rfl) (by decide) (by decide) (by decide) rfl (fun h => by cases h)
theorem T93_sz : T93.sz = 1 := rfl
theorem T93_pty : T93.pty = .int .u64 := rfl
/-- a struct -/
noncomputable def T96 : TI := ⟨true, [.int .i64, .int .i64], 0, [(0, 3), (1, 3)], 16, .struct (match Tryd.t96.desc with | .struct fs => fs | _ => #[]), true⟩
theorem T96_ok : TIok Tryd.prog 96 T96 := tiok_mk (i := Tryd.t96) Tryd.underlying96 Tryd.type96 rfl rfl rfl rfl rfl rfl (by kernel_rfl) (by decide) (by decide) (by decide) rfl (fun _ => ⟨Tryd.stoodInHeld96, Tryd.eqGuardType96⟩)
theorem T96_sz : T96.sz = 2 := rfl
theorem T96_pty : T96.pty = .agg [.int .i64, .int .i64] := rfl
/-- impl.Cell -/
noncomputable def T97 : TI := ⟨true, [.int .i64, .int .i64], 0, [(0, 3), (1, 3)], 16, .struct (match Tryd.t96.desc with | .struct fs => fs | _ => #[]), true⟩
theorem T97_ok : TIok Tryd.prog 97 T97 := tiok_mk (i := Tryd.t97) Tryd.underlying97 Tryd.type97 rfl rfl rfl rfl rfl rfl (by kernel_rfl) (by decide) (by decide) (by decide) rfl (fun _ => ⟨Tryd.stoodInHeld97, Tryd.eqGuardType97⟩)
theorem T97_sz : T97.sz = 2 := rfl
theorem T97_pty : T97.pty = .agg [.int .i64, .int .i64] := rfl
/-- uint32 -/
noncomputable def T102 : TI := ⟨false, [.int .u32], 0, [], 4, .int .u32, false⟩
theorem T102_ok : TIok Tryd.prog 102 T102 := tiok_mk (i := Tryd.t102) Tryd.underlying102 Tryd.type102 rfl rfl rfl rfl rfl rfl (by kernel_rfl) (by decide) (by decide) (by decide) rfl (fun h => by cases h)
theorem T102_sz : T102.sz = 1 := rfl
theorem T102_pty : T102.pty = .int .u32 := rfl
/-- []uint32 -/
noncomputable def T103 : TI := ⟨false, [.list (.int .u32)], 102, [], 24, .slice 102, false⟩
theorem T103_ok : TIok Tryd.prog 103 T103 := tiok_mk (i := Tryd.t103) Tryd.underlying103 Tryd.type103 rfl rfl rfl rfl rfl rfl (by kernel_rfl) (by decide) (by decide) (by decide) rfl (fun h => by cases h)
theorem T103_sz : T103.sz = 1 := rfl
theorem T103_pty : T103.pty = .list (.int .u32) := rfl
/-- [8]uint32 -/
noncomputable def T107 : TI := ⟨true, [.int .u32, .int .u32, .int .u32, .int .u32, .int .u32, .int .u32, .int .u32, .int .u32], 0, [], 32, .array 8 102, false⟩
theorem T107_ok : TIok Tryd.prog 107 T107 := tiok_mk (i := Tryd.t107) Tryd.underlying107 Tryd.type107 rfl rfl rfl rfl rfl rfl (by kernel_rfl) (by decide) (by decide) (by decide) rfl (fun h => by cases h)
theorem T107_sz : T107.sz = 8 := rfl
theorem T107_pty : T107.pty = .agg [.int .u32, .int .u32, .int .u32, .int .u32, .int .u32, .int .u32, .int .u32, .int .u32] := rfl
/-- *[8]uint32 -/
noncomputable def T111 : TI := ⟨false, [.opq], 0, [], 8, .pointer 107, false⟩
theorem T111_ok : TIok Tryd.prog 111 T111 := tiok_mk (i := Tryd.t111) Tryd.underlying111 Tryd.type111 rfl rfl rfl rfl rfl rfl (by kernel_rfl) (by decide) (by decide) (by decide) rfl (fun h => by cases h)
theorem T111_sz : T111.sz = 1 := rfl
theorem T111_pty : T111.pty = .opq := rfl
/-- strconv.Error -/
noncomputable def T112 : TI := ⟨false, [.int .i64], 0, [], 8, .int .i64, false⟩
theorem T112_ok : TIok Tryd.prog 112 T112 := tiok_mk (i := Tryd.t112) Tryd.underlying112 Tryd.type112 rfl rfl rfl rfl rfl rfl (by kernel_rfl) (by decide) (by decide) (by decide) rfl (fun h => by cases h)
theorem T112_sz : T112.sz = 1 := rfl
theorem T112_pty : T112.pty = .int .i64 := rfl
/-- *strconv.NumError -/
noncomputable def T115 : TI := ⟨false, [.opq], 0, [], 8, .pointer 142, false⟩
theorem T115_ok : TIok Tryd.prog 115 T115 := tiok_mk (i := Tryd.t115) Tryd.underlying115 Tryd.type115 rfl rfl rfl rfl rfl rfl (by kernel_rfl) (by decide) (by decide) (by decide) rfl (fun h => by cases h)
theorem T115_sz : T115.sz = 1 := rfl
theorem T115_pty : T115.pty = .opq := rfl
/-- [24]uint8 -/
noncomputable def T123 : TI := ⟨true, [.int .u8, .int .u8, .int .u8, .int .u8, .int .u8, .int .u8, .int .u8, .int .u8, .int .u8, .int .u8, .int .u8, .int .u8, .int .u8, .int .u8, .int .u8, .int .u8, .int .u8, .int .u8, .int .u8, .int .u8, .int .u8, .int .u8, .int .u8, .int .u8], 0, [], 24, .array 24 5, false⟩
theorem T123_ok : TIok Tryd.prog 123 T123 := tiok_mk (i := Tryd.t123) Tryd.underlying123 Tryd.type123 rfl rfl rfl rfl rfl rfl (by kernel_rfl) (by decide) (by decide) (by decide) rfl (fun h => by cases h)
theorem T123_sz : T123.sz = 24 := rfl
theorem T123_pty : T123.pty = .agg [.int .u8, .int .u8, .int .u8, .int .u8, .int .u8, .int .u8, .int .u8, .int .u8, .int .u8, .int .u8, .int .u8, .int .u8, .int .u8, .int .u8, .int .u8, .int .u8, .int .u8, .int .u8, .int .u8, .int .u8, .int .u8, .int .u8, .int .u8, .int .u8] := rfl
/-- uint64 -/
noncomputable def T124 : TI := ⟨false, [.int .u64], 0, [], 8, .int .u64, false⟩
theorem T124_ok : TIok Tryd.prog 124 T124 := tiok_mk (i := Tryd.t124) Tryd.underlying124 Tryd.type124 rfl rfl rfl rfl rfl rfl (by kernel_rfl) (by decide) (by decide) (by decide) rfl (fun h => by cases h)
theorem T124_sz : T124.sz = 1 := rfl
theorem T124_pty : T124.pty = .int .u64 := rfl
/-- [64]uint32 -/
noncomputable def T137 : TI := ⟨true, [.int .u32, .int .u32, .int .u32, .int .u32, .int .u32, .int .u32, .int .u32, .int .u32, .int .u32, .int .u32, .int .u32, .int .u32, .int .u32, .int .u32, .int .u32, .int .u32, .int .u32, .int .u32, .int .u32, .int .u32, .int .u32, .int .u32, .int .u32, .int .u32, .int .u32, .int .u32, .int .u32, .int .u32, .int .u32, .int .u32, .int .u32, .int .u32, .int .u32, .int .u32, .int .u32, .int .u32, .int .u32, .int .u32, .int .u32, .int .u32, .int .u32, .int .u32, .int .u32, .int .u32, .int .u32, .int .u32, .int .u32, .int .u32, .int .u32, .int .u32, .int .u32, .int .u32, .int .u32, .int .u32, .int .u32, .int .u32, .int .u32, .int .u32, .int .u32, .int .u32, .int .u32, .int .u32, .int .u32, .int .u32], 0, [], 256, .array 64 102, false⟩
theorem T137_ok : TIok Tryd.prog 137 T137 := tiok_mk (i := Tryd.t137) Tryd.underlying137 Tryd.type137 rfl rfl rfl rfl rfl rfl (by kernel_rfl) (by decide) (by decide) (by decide) rfl (fun h => by cases h)
theorem T137_sz : T137.sz = 64 := rfl
theorem T137_pty : T137.pty = .agg [.int .u32, .int .u32, .int .u32, .int .u32, .int .u32, .int .u32, .int .u32, .int .u32, .int .u32, .int .u32, .int .u32, .int .u32, .int .u32, .int .u32, .int .u32, .int .u32, .int .u32, .int .u32, .int .u32, .int .u32, .int .u32, .int .u32, .int .u32, .int .u32, .int .u32, .int .u32, .int .u32, .int .u32, .int .u32, .int .u32, .int .u32, .int .u32, .int .u32, .int .u32, .int .u32, .int .u32, .int .u32, .int .u32, .int .u32, .int .u32, .int .u32, .int .u32, .int .u32, .int .u32, .int .u32, .int .u32, .int .u32, .int .u32, .int .u32, .int .u32, .int .u32, .int .u32, .int .u32, .int .u32, .int .u32, .int .u32, .int .u32, .int .u32, .int .u32, .int .u32, .int .u32, .int .u32, .int .u32, .int .u32] := rfl
/-- [20]uint64 -/
noncomputable def T146 : TI := ⟨true, [.int .u64, .int .u64, .int .u64, .int .u64, .int .u64, .int .u64, .int .u64, .int .u64, .int .u64, .int .u64, .int .u64, .int .u64, .int .u64, .int .u64, .int .u64, .int .u64, .int .u64, .int .u64, .int .u64, .int .u64], 0, [], 160, .array 20 124, false⟩
theorem T146_ok : TIok Tryd.prog 146 T146 := tiok_mk (i := Tryd.t146) Tryd.underlying146 Tryd.type146 rfl rfl rfl rfl rfl rfl (by kernel_rfl) (by decide) (by decide) (by decide) rfl (fun h => by cases h)
theorem T146_sz : T146.sz = 20 := rfl
theorem T146_pty : T146.pty = .agg [.int .u64, .int .u64, .int .u64, .int .u64, .int .u64, .int .u64, .int .u64, .int .u64, .int .u64, .int .u64, .int .u64, .int .u64, .int .u64, .int .u64, .int .u64, .int .u64, .int .u64, .int .u64, .int .u64, .int .u64] := rfl
/-- *uint8 -/
noncomputable def T153 : TI := ⟨false, [.opq], 0, [], 8, .pointer 5, false⟩
theorem T153_ok : TIok Tryd.prog 153 T153 := tiok_mk (i := Tryd.t153) Tryd.underlying153 Tryd.type153 rfl rfl rfl rfl rfl rfl (by kernel_rfl) (by decide) (by decide) (by decide) rfl (fun h => by cases h)
theorem T153_sz : T153.sz = 1 := rfl
theorem T153_pty : T153.pty = .opq := rfl
/-- *errors.errorString -/
noncomputable def T155 : TI := ⟨false, [.opq], 0, [], 8, .pointer 157, false⟩
theorem T155_ok : TIok Tryd.prog 155 T155 := tiok_mk (i := Tryd.t155) Tryd.underlying155 Tryd.type155 rfl rfl rfl rfl rfl rfl (by kernel_rfl) (by decide) (by decide) (by decide) rfl (fun h => by cases h)
theorem T155_sz : T155.sz = 1 := rfl
theorem T155_pty : T155.pty = .opq := rfl
/-- a struct -/
noncomputable def T156 : TI := ⟨true, [.str], 0, [(0, 9)], 16, .struct (match Tryd.t156.desc with | .struct fs => fs | _ => #[]), true⟩
theorem T156_ok : TIok Tryd.prog 156 T156 := tiok_mk (i := Tryd.t156) Tryd.underlying156 Tryd.type156 rfl rfl rfl rfl rfl rfl (by kernel_rfl) (by decide) (by decide) (by decide) rfl (fun _ => ⟨Tryd.stoodInHeld156, Tryd.eqGuardType156⟩)
theorem T156_sz : T156.sz = 1 := rfl
theorem T156_pty : T156.pty = .agg [.str] := rfl
/-- errors.errorString -/
noncomputable def T157 : TI := ⟨true, [.str], 0, [(0, 9)], 16, .struct (match Tryd.t156.desc with | .struct fs => fs | _ => #[]), true⟩
theorem T157_ok : TIok Tryd.prog 157 T157 := tiok_mk (i := Tryd.t157) Tryd.underlying157 Tryd.type157 rfl rfl rfl rfl rfl rfl (by kernel_rfl) (by decide) (by decide) (by decide) rfl (fun _ => ⟨Tryd.stoodInHeld157, Tryd.eqGuardType157⟩)
theorem T157_sz : T157.sz = 1 := rfl
theorem T157_pty : T157.pty = .agg [.str] := rfl
/-- a struct -/
noncomputable def T159 : TI := ⟨true, [.int .u8, .int .u8], 0, [(0, 5), (1, 5)], 2, .struct (match Tryd.t159.desc with | .struct fs => fs | _ => #[]), true⟩
theorem T159_ok : TIok Tryd.prog 159 T159 := tiok_mk (i := Tryd.t159) Tryd.underlying159 Tryd.type159 rfl rfl rfl rfl rfl rfl (by kernel_rfl) (by decide) (by decide) (by decide) rfl (fun _ => ⟨Tryd.stoodInHeld159, Tryd.eqGuardType159⟩)
theorem T159_sz : T159.sz = 2 := rfl
theorem T159_pty : T159.pty = .agg [.int .u8, .int .u8] := rfl
/-- utf8.acceptRange -/
noncomputable def T160 : TI := ⟨true, [.int .u8, .int .u8], 0, [(0, 5), (1, 5)], 2, .struct (match Tryd.t159.desc with | .struct fs => fs | _ => #[]), true⟩
theorem T160_ok : TIok Tryd.prog 160 T160 := tiok_mk (i := Tryd.t160) Tryd.underlying160 Tryd.type160 rfl rfl rfl rfl rfl rfl (by kernel_rfl) (by decide) (by decide) (by decide) rfl (fun _ => ⟨Tryd.stoodInHeld160, Tryd.eqGuardType160⟩)
theorem T160_sz : T160.sz = 2 := rfl
theorem T160_pty : T160.pty = .agg [.int .u8, .int .u8] := rfl
/-- [16]utf8.acceptRange -/
noncomputable def T161 : TI := ⟨true, [.int .u8, .int .u8, .int .u8, .int .u8, .int .u8, .int .u8, .int .u8, .int .u8, .int .u8, .int .u8, .int .u8, .int .u8, .int .u8, .int .u8, .int .u8, .int .u8, .int .u8, .int .u8, .int .u8, .int .u8, .int .u8, .int .u8, .int .u8, .int .u8, .int .u8, .int .u8, .int .u8, .int .u8, .int .u8, .int .u8, .int .u8, .int .u8], 0, [], 32, .array 16 160, false⟩
theorem T161_ok : TIok Tryd.prog 161 T161 := tiok_mk (i := Tryd.t161) Tryd.underlying161 Tryd.type161 rfl rfl rfl rfl rfl rfl (by kernel_rfl) (by decide) (by decide) (by decide) rfl (fun h => by cases h)
theorem T161_sz : T161.sz = 32 := rfl
theorem T161_pty : T161.pty = .agg [.int .u8, .int .u8, .int .u8, .int .u8, .int .u8, .int .u8, .int .u8, .int .u8, .int .u8, .int .u8, .int .u8, .int .u8, .int .u8, .int .u8, .int .u8, .int .u8, .int .u8, .int .u8, .int .u8, .int .u8, .int .u8, .int .u8, .int .u8, .int .u8, .int .u8, .int .u8, .int .u8, .int .u8, .int .u8, .int .u8, .int .u8, .int .u8] := rfl
/-- [32]uint8 -/
noncomputable def T167 : TI := ⟨true, [.int .u8, .int .u8, .int .u8, .int .u8, .int .u8, .int .u8, .int .u8, .int .u8, .int .u8, .int .u8, .int .u8, .int .u8, .int .u8, .int .u8, .int .u8, .int .u8, .int .u8, .int .u8, .int .u8, .int .u8, .int .u8, .int .u8, .int .u8, .int .u8, .int .u8, .int .u8, .int .u8, .int .u8, .int .u8, .int .u8, .int .u8, .int .u8], 0, [], 32, .array 32 5, false⟩
theorem T167_ok : TIok Tryd.prog 167 T167 := tiok_mk (i := Tryd.t167) Tryd.underlying167 Tryd.type167 rfl rfl rfl rfl rfl rfl (by kernel_rfl) (by decide) (by decide) (by decide) rfl (fun h => by cases h)
theorem T167_sz : T167.sz = 32 := rfl
theorem T167_pty : T167.pty = .agg [.int .u8, .int .u8, .int .u8, .int .u8, .int .u8, .int .u8, .int .u8, .int .u8, .int .u8, .int .u8, .int .u8, .int .u8, .int .u8, .int .u8, .int .u8, .int .u8, .int .u8, .int .u8, .int .u8, .int .u8, .int .u8, .int .u8, .int .u8, .int .u8, .int .u8, .int .u8, .int .u8, .int .u8, .int .u8, .int .u8, .int .u8, .int .u8] := rfl
/-- [64]uint8 -/
noncomputable def T168 : TI := ⟨true, [.int .u8, .int .u8, .int .u8, .int .u8, .int .u8, .int .u8, .int .u8, .int .u8, .int .u8, .int .u8, .int .u8, .int .u8, .int .u8, .int .u8, .int .u8, .int .u8, .int .u8, .int .u8, .int .u8, .int .u8, .int .u8, .int .u8, .int .u8, .int .u8, .int .u8, .int .u8, .int .u8, .int .u8, .int .u8, .int .u8, .int .u8, .int .u8, .int .u8, .int .u8, .int .u8, .int .u8, .int .u8, .int .u8, .int .u8, .int .u8, .int .u8, .int .u8, .int .u8, .int .u8, .int .u8, .int .u8, .int .u8, .int .u8, .int .u8, .int .u8, .int .u8, .int .u8, .int .u8, .int .u8, .int .u8, .int .u8, .int .u8, .int .u8, .int .u8, .int .u8, .int .u8, .int .u8, .int .u8, .int .u8], 0, [], 64, .array 64 5, false⟩
theorem T168_ok : TIok Tryd.prog 168 T168 := tiok_mk (i := Tryd.t168) Tryd.underlying168 Tryd.type168 rfl rfl rfl rfl rfl rfl (by kernel_rfl) (by decide) (by decide) (by decide) rfl (fun h => by cases h)
theorem T168_sz : T168.sz = 64 := rfl
theorem T168_pty : T168.pty = .agg [.int .u8, .int .u8, .int .u8, .int .u8, .int .u8, .int .u8, .int .u8, .int .u8, .int .u8, .int .u8, .int .u8, .int .u8, .int .u8, .int .u8, .int .u8, .int .u8, .int .u8, .int .u8, .int .u8, .int .u8, .int .u8, .int .u8, .int .u8, .int .u8, .int .u8, .int .u8, .int .u8, .int .u8, .int .u8, .int .u8, .int .u8, .int .u8, .int .u8, .int .u8, .int .u8, .int .u8, .int .u8, .int .u8, .int .u8, .int .u8, .int .u8, .int .u8, .int .u8, .int .u8, .int .u8, .int .u8, .int .u8, .int .u8, .int .u8, .int .u8, .int .u8, .int .u8, .int .u8, .int .u8, .int .u8, .int .u8, .int .u8, .int .u8, .int .u8, .int .u8, .int .u8, .int .u8, .int .u8, .int .u8] := rfl
/-- a struct -/
noncomputable def T169 : TI := ⟨true, [.opq, .opq, .opq, .str], 0, [(0, 17), (1, 17), (2, 17), (3, 9)], 40, .struct (match Tryd.t169.desc with | .struct fs => fs | _ => #[]), false⟩
theorem T169_ok : TIok Tryd.prog 169 T169 := tiok_mk (i := Tryd.t169) Tryd.underlying169 Tryd.type169 rfl rfl rfl rfl rfl rfl (by kernel_rfl) (by decide) (by decide) (by decide) rfl (fun h => by cases h)
theorem T169_sz : T169.sz = 4 := rfl
theorem T169_pty : T169.pty = .agg [.opq, .opq, .opq, .str] := rfl
/-- runtime.TypeAssertionError -/
noncomputable def T170 : TI := ⟨true, [.opq, .opq, .opq, .str], 0, [(0, 17), (1, 17), (2, 17), (3, 9)], 40, .struct (match Tryd.t169.desc with | .struct fs => fs | _ => #[]), false⟩
theorem T170_ok : TIok Tryd.prog 170 T170 := tiok_mk (i := Tryd.t170) Tryd.underlying170 Tryd.type170 rfl rfl rfl rfl rfl rfl (by kernel_rfl) (by decide) (by decide) (by decide) rfl (fun h => by cases h)
theorem T170_sz : T170.sz = 4 := rfl
theorem T170_pty : T170.pty = .agg [.opq, .opq, .opq, .str] := rfl
/-- abi.TFlag -/
noncomputable def T174 : TI := ⟨false, [.int .u8], 0, [], 1, .int .u8, false⟩
theorem T174_ok : TIok Tryd.prog 174 T174 := tiok_mk (i := Tryd.t174) Tryd.underlying174 Tryd.type174 rfl rfl rfl rfl rfl rfl (by kernel_rfl) (by decide) (by decide) (by decide) rfl (fun h => by cases h)
theorem T174_sz : T174.sz = 1 := rfl
theorem T174_pty : T174.pty = .int .u8 := rfl
/-- abi.Kind -/
noncomputable def T175 : TI := ⟨false, [.int .u8], 0, [], 1, .int .u8, false⟩
theorem T175_ok : TIok Tryd.prog 175 T175 := tiok_mk (i := Tryd.t175) Tryd.underlying175 Tryd.type175 rfl rfl rfl rfl rfl rfl (by kernel_rfl) (by decide) (by decide) (by decide) rfl (fun h => by cases h)
theorem T175_sz : T175.sz = 1 := rfl
theorem T175_pty : T175.pty = .int .u8 := rfl
/-- abi.NameOff -/
noncomputable def T177 : TI := ⟨false, [.int .i32], 0, [], 4, .int .i32, false⟩
theorem T177_ok : TIok Tryd.prog 177 T177 := tiok_mk (i := Tryd.t177) Tryd.underlying177 Tryd.type177 rfl rfl rfl rfl rfl rfl (by kernel_rfl) (by decide) (by decide) (by decide) rfl (fun h => by cases h)
theorem T177_sz : T177.sz = 1 := rfl
theorem T177_pty : T177.pty = .int .i32 := rfl
/-- abi.TypeOff -/
noncomputable def T178 : TI := ⟨false, [.int .i32], 0, [], 4, .int .i32, false⟩
theorem T178_ok : TIok Tryd.prog 178 T178 := tiok_mk (i := Tryd.t178) Tryd.underlying178 Tryd.type178 rfl rfl rfl rfl rfl rfl (by kernel_rfl) (by decide) (by decide) (by decide) rfl (fun h => by cases h)
theorem T178_sz : T178.sz = 1 := rfl
theorem T178_pty : T178.pty = .int .i32 := rfl
noncomputable def tyTab : List (Nat × TI) := [(2, T2), (3, T3), (4, T4), (5, T5), (6, T6), (7, T7), (8, T8), (9, T9), (10, T10), (11, T11), (12, T12), (13, T13), (14, T14), (15, T15), (16, T16), (17, T17), (18, T18), (19, T19), (21, T21), (25, T25), (26, T26), (27, T27), (28, T28), (29, T29), (35, T35), (36, T36), (37, T37), (42, T42), (43, T43), (63, T63), (91, T91), (93, T93), (96, T96), (97, T97), (102, T102), (103, T103), (107, T107), (111, T111), (112, T112), (115, T115), (123, T123), (124, T124), (137, T137), (146, T146), (153, T153), (155, T155), (156, T156), (157, T157), (159, T159), (160, T160), (161, T161), (167, T167), (168, T168), (169, T169), (170, T170), (174, T174), (175, T175), (177, T177), (178, T178)]
theorem ty2 : lk tyTab 2 = some T2 := rfl
theorem ty3 : lk tyTab 3 = some T3 := rfl
theorem ty4 : lk tyTab 4 = some T4 := rfl
theorem ty5 : lk tyTab 5 = some T5 := rfl
theorem ty6 : lk tyTab 6 = some T6 := rfl
theorem ty7 : lk tyTab 7 = some T7 := rfl
theorem ty8 : lk tyTab 8 = some T8 := rfl
theorem ty9 : lk tyTab 9 = some T9 := rfl
theorem ty10 : lk tyTab 10 = some T10 := rfl
theorem ty11 : lk tyTab 11 = some T11 := rfl
theorem ty12 : lk tyTab 12 = some T12 := rfl
theorem ty13 : lk tyTab 13 = some T13 := rfl
theorem ty14 : lk tyTab 14 = some T14 := rfl
theorem ty15 : lk tyTab 15 = some T15 := rfl
theorem ty16 : lk tyTab 16 = some T16 := rfl
theorem ty17 : lk tyTab 17 = some T17 := rfl
theorem ty18 : lk tyTab 18 = some T18 := rfl
theorem ty19 : lk tyTab 19 = some T19 := rfl
theorem ty21 : lk tyTab 21 = some T21 := rfl
theorem ty25 : lk tyTab 25 = some T25 := rfl
theorem ty26 : lk tyTab 26 = some T26 := rfl
theorem ty27 : lk tyTab 27 = some T27 := rfl
theorem ty28 : lk tyTab 28 = some T28 := rfl
theorem ty29 : lk tyTab 29 = some T29 := rfl
theorem ty35 : lk tyTab 35 = some T35 := rfl
theorem ty36 : lk tyTab 36 = some T36 := rfl
theorem ty37 : lk tyTab 37 = some T37 := rfl
theorem ty42 : lk tyTab 42 = some T42 := rfl
theorem ty43 : lk tyTab 43 = some T43 := rfl
theorem ty63 : lk tyTab 63 = some T63 := rfl
theorem ty91 : lk tyTab 91 = some T91 := rfl
theorem ty93 : lk tyTab 93 = some T93 := rfl
theorem ty96 : lk tyTab 96 = some T96 := rfl
theorem ty97 : lk tyTab 97 = some T97 := rfl
theorem ty102 : lk tyTab 102 = some T102 := rfl
theorem ty103 : lk tyTab 103 = some T103 := rfl
theorem ty107 : lk tyTab 107 = some T107 := rfl
theorem ty111 : lk tyTab 111 = some T111 := rfl
theorem ty112 : lk tyTab 112 = some T112 := rfl
theorem ty115 : lk tyTab 115 = some T115 := rfl
theorem ty123 : lk tyTab 123 = some T123 := rfl
theorem ty124 : lk tyTab 124 = some T124 := rfl
theorem ty137 : lk tyTab 137 = some T137 := rfl
theorem ty146 : lk tyTab 146 = some T146 := rfl
theorem ty153 : lk tyTab 153 = some T153 := rfl
theorem ty155 : lk tyTab 155 = some T155 := rfl
theorem ty156 : lk tyTab 156 = some T156 := rfl
theorem ty157 : lk tyTab 157 = some T157 := rfl
theorem ty159 : lk tyTab 159 = some T159 := rfl
theorem ty160 : lk tyTab 160 = some T160 := rfl
theorem ty161 : lk tyTab 161 = some T161 := rfl
theorem ty167 : lk tyTab 167 = some T167 := rfl
theorem ty168 : lk tyTab 168 = some T168 := rfl
theorem ty169 : lk tyTab 169 = some T169 := rfl
theorem ty170 : lk tyTab 170 = some T170 := rfl
theorem ty174 : lk tyTab 174 = some T174 := rfl
theorem ty175 : lk tyTab 175 = some T175 := rfl
theorem ty177 : lk tyTab 177 = some T177 := rfl
theorem ty178 : lk tyTab 178 = some T178 := rfl
theorem tyTab_ok (fns : List ((Nat × List Nat) × FSpec)) : EnvTy Tryd.prog ⟨tyTab, fns⟩ := by
  have key : ∀ l : List (Nat × TI), (∀ p ∈ l, TIok Tryd.prog p.1 p.2) → ∀ t ti, lk l t = some ti → TIok Tryd.prog t ti := by
    intro l
    induction l with
    | nil => intro _ t ti h; cases h
    | cons p l ih =>
      intro hl t ti h
      obtain ⟨i, x⟩ := p
      simp only [lk] at h
      split at h
      · rename_i e; subst e; cases h; exact hl (i, ti) (by simp)
      · exact ih (fun p hp => hl p (by simp [hp])) t ti h
  refine key tyTab ?_
  simp only [tyTab, List.mem_cons, List.not_mem_nil, or_false, forall_eq_or_imp, forall_eq]
  exact ⟨T2_ok, T3_ok, T4_ok, T5_ok, T6_ok, T7_ok, T8_ok, T9_ok, T10_ok, T11_ok, T12_ok, T13_ok, T14_ok, T15_ok, T16_ok, T17_ok, T18_ok, T19_ok, T21_ok, T25_ok, T26_ok, T27_ok, T28_ok, T29_ok, T35_ok, T36_ok, T37_ok, T42_ok, T43_ok, T63_ok, T91_ok, T93_ok, T96_ok, T97_ok, T102_ok, T103_ok, T107_ok, T111_ok, T112_ok, T115_ok, T123_ok, T124_ok, T137_ok, T146_ok, T153_ok, T155_ok, T156_ok, T157_ok, T159_ok, T160_ok, T161_ok, T167_ok, T168_ok, T169_ok, T170_ok, T174_ok, T175_ok, T177_ok, T178_ok⟩
theorem mixed : Tryd.prog.follows .mixedOrders = true := by kernel_rfl
theorem gt0 : lk GT 0 = some (.int .u32, G0) := rfl
theorem G0_len : G0.length = 8 := rfl
attribute [simp] gt0 G0_len
theorem gt1 : lk GT 1 = some (.int .u32, G1) := rfl
theorem G1_len : G1.length = 64 := rfl
attribute [simp] gt1 G1_len
theorem gt5 : lk GT 5 = some (.int .u64, G5) := rfl
theorem G5_len : G5.length = 20 := rfl
attribute [simp] gt5 G5_len
attribute [simp] nth_fold nth_zero nth_succ pv_I pv_B pv_S pv_L pv_A pv_at lv_int lv_bool lv_str lv_list lv_agg PTy.leaves PTy.wd inR TI.sz TI.pty lk set1 memB anyB kill strike stillH unpath still prom proms dpB dpAll ndB isNil shOk takeIn takeOk St.slot ofConst1 ofConsts ofConst St.ev SV.cells SV.ofCells SV.leafB leafAll fixL zeroSV zeroSVs zeroLf zeroLfs zeroPV resL resLs resB resBs resT resTs resEs introL noP elP introV introVs packV binI eqSVs shpV binS imp evs closes findFn slsOf slsAll argLs argsLs pathOf rdHs1 rdHsL rdHs rdsHs rdOk lendOk backL backs ownersOf allRd soleMt firstP callRd callPt callOw callOwn callRes idxs oprs fillSV partsOk convRes viewE viewA pathE pathA sliceRes evO etaL storeEl loadEl flatL flatLs flatB leafD leafDs dataB ownO sameO isStruct aggOk leafAt srcOf joinB joinOk appRes copyTo copyRes builtinRes loadHy eqCs lvsOf opRes0 svInts repT leafB arrRes opRes nilRes guardOf csz ksz unwd dstOk putS vcK vwCall skipR stepD vcD growP rdCall convP slcB rn entV entVs entR entO entH hlts domH entA entL ent itVal hsV hsVs itSlots itBoxes dropL hsL hsA onlyR gcH gcA itReach itLay itSt mr mrs itRho itOk introB introBs introR introX introT introTs lkAll numb resMs retOk mtTy bxCs mtSls mtHs finFr finOf SV.lt SV.lts IntKind.min IntKind.max IntKind.signed IntKind.bits LIM
attribute [simp] ty2 T2_sz T2_pty T2 ty3 T3_sz T3_pty T3 ty4 T4_sz T4_pty T4 ty5 T5_sz T5_pty T5 ty6 T6_sz T6_pty T6 ty7 T7_sz T7_pty T7 ty8 T8_sz T8_pty T8 ty9 T9_sz T9_pty T9 ty10 T10_sz T10_pty T10 ty11 T11_sz T11_pty T11 ty12 T12_sz T12_pty T12 ty13 T13_sz T13_pty T13 ty14 T14_sz T14_pty T14 ty15 T15_sz T15_pty T15 ty16 T16_sz T16_pty T16 ty17 T17_sz T17_pty T17 ty18 T18_sz T18_pty T18 ty19 T19_sz T19_pty T19 ty21 T21_sz T21_pty T21 ty25 T25_sz T25_pty T25 ty26 T26_sz T26_pty T26 ty27 T27_sz T27_pty T27 ty28 T28_sz T28_pty T28 ty29 T29_sz T29_pty T29 ty35 T35_sz T35_pty T35 ty36 T36_sz T36_pty T36 ty37 T37_sz T37_pty T37 ty42 T42_sz T42_pty T42 ty43 T43_sz T43_pty T43 ty63 T63_sz T63_pty T63 ty91 T91_sz T91_pty T91 ty93 T93_sz T93_pty T93 ty96 T96_sz T96_pty T96 ty97 T97_sz T97_pty T97 ty102 T102_sz T102_pty T102 ty103 T103_sz T103_pty T103 ty107 T107_sz T107_pty T107 ty111 T111_sz T111_pty T111 ty112 T112_sz T112_pty T112 ty115 T115_sz T115_pty T115 ty123 T123_sz T123_pty T123 ty124 T124_sz T124_pty T124 ty137 T137_sz T137_pty T137 ty146 T146_sz T146_pty T146 ty153 T153_sz T153_pty T153 ty155 T155_sz T155_pty T155 ty156 T156_sz T156_pty T156 ty157 T157_sz T157_pty T157 ty159 T159_sz T159_pty T159 ty160 T160_sz T160_pty T160 ty161 T161_sz T161_pty T161 ty167 T167_sz T167_pty T167 ty168 T168_sz T168_pty T168 ty169 T169_sz T169_pty T169 ty170 T170_sz T170_pty T170 ty174 T174_sz T174_pty T174 ty175 T175_sz T175_pty T175 ty177 T177_sz T177_pty T177 ty178 T178_sz T178_pty T178

end Go.Proofs.YtolgjekokdimoaaDoor
end

section
namespace Go.Proofs.YtolgjekokdimoaaDoor
set_option maxRecDepth 100000
set_option linter.unusedSimpArgs false

def inB (n lo hi : Int) : Bool := decide (n ≥ lo) && decide (n ≤ hi)

def c_within : FSpec := ⟨[(.rd, .int .i64), (.rd, .int .i64), (.rd, .int .i64)], [.bool], true, fun _ => True, fun ps => [.bool (inB (nth ps 0).I (nth ps 1).I (nth ps 2).I)], fun _ => []⟩
theorem k_within : FnOk Tryd.prog 38 c_within := by
  refine fn_mk [0, 1, 2, 6] [.tmp 6] (env_nil (tyTab_ok [])) mixed Tryd.func38 rfl (by decide) rfl (by decide) rfl ?_
  intro ps hT hpre W hW
  simp only [c_within, TyA, Ty, Tys] at hT hpre
  obtain ⟨_, _, rfl, ⟨a, rfl, ha⟩, _, _, rfl, ⟨b, rfl, hb⟩, _, _, rfl, ⟨c, rfl, hc⟩, rfl⟩ := hT
  refine hW.vc [] _ _ ?_
  simp [-List.getD_eq_getElem?_getD, c_within, inB]
  try rfl

def c_l01In : FSpec := c_within
theorem k_l01In : FnOk Tryd.prog 35 c_l01In := by
  refine fn_mk [0, 1, 2, 6] [.tmp 6] (env_nil (tyTab_ok [])) mixed Tryd.func35 rfl (by decide) rfl (by decide) rfl ?_
  intro ps hT hpre W hW
  simp only [c_l01In, TyA, Ty, Tys] at hT hpre
  simp only [c_within, TyA, Ty] at hT
  obtain ⟨_, _, rfl, ⟨a, rfl, ha⟩, _, _, rfl, ⟨b, rfl, hb⟩, _, _, rfl, ⟨c, rfl, hc⟩, rfl⟩ := hT
  refine hW.vc [] _ _ ?_
  simp [-List.getD_eq_getElem?_getD, c_l01In, c_within, c_within, inB]
  try rfl

def sizeB (w h : Int) : Bool := inB w 2 24 && inB h 2 10
def c_isSize : FSpec := ⟨[(.rd, .int .i64), (.rd, .int .i64)], [.bool], true, fun _ => True, fun ps => [.bool (sizeB (nth ps 0).I (nth ps 1).I)], fun _ => []⟩
theorem k_isSize : FnOk Tryd.prog 78 c_isSize := by
  refine fn_mk [0, 1, 4] [.tmp 4] (env_cons (cs := []) k_within (env_nil (tyTab_ok []))) mixed Tryd.func78 rfl (by decide) rfl (by decide) rfl ?_
  intro ps hT hpre W hW
  simp only [c_isSize, TyA, Ty, Tys] at hT hpre
  obtain ⟨_, _, rfl, ⟨a, rfl, ha⟩, _, _, rfl, ⟨b, rfl, hb⟩, rfl⟩ := hT
  refine hW.vc [] _ _ ?_
  simp [-List.getD_eq_getElem?_getD, c_isSize, c_within, sizeB]

def c_l04Size : FSpec := c_isSize
theorem k_l04Size : FnOk Tryd.prog 54 c_l04Size := by
  refine fn_mk [0, 1, 4] [.tmp 4] (env_cons (cs := []) k_l01In (env_nil (tyTab_ok []))) mixed Tryd.func54 rfl (by decide) rfl (by decide) rfl ?_
  intro ps hT hpre W hW
  simp only [c_l04Size, TyA, Ty, Tys] at hT hpre
  simp only [c_isSize, TyA, Ty] at hT
  obtain ⟨_, _, rfl, ⟨a, rfl, ha⟩, _, _, rfl, ⟨b, rfl, hb⟩, rfl⟩ := hT
  refine hW.vc [] _ _ ?_
  simp [-List.getD_eq_getElem?_getD, c_l04Size, c_l01In, c_isSize, c_within, c_within, c_isSize, sizeB]

end Go.Proofs.YtolgjekokdimoaaDoor
end

section
namespace Go.Proofs.YtolgjekokdimoaaDoor
set_option maxRecDepth 100000
set_option linter.unusedSimpArgs false

/-- A word turned right. -/
def rotI (x by_ : Int) : Int := orI .u32 (shlI .u32 x (32 - by_)) (shrI .u32 x by_)
theorem orI_comm (k : IntKind) (a b : Int) : orI k a b = orI k b a := by unfold orI; rw [BitVec.or_comm]

def c_Rotate : FSpec := ⟨[(.rd, .int .u32), (.rd, .int .i64)], [.int .u32], true, fun ps => -32 < (nth ps 1).I ∧ (nth ps 1).I < 0, fun ps => [.int .u32 (rotI (nth ps 0).I (-(nth ps 1).I))], fun _ => []⟩
theorem k_Rotate : FnOk Tryd.prog 149 c_Rotate := by
  refine fn_mk [0, 1, 4, 5] [.tmp 4] (env_nil (tyTab_ok [])) mixed Tryd.func149 rfl (by decide) rfl (by decide) rfl ?_
  intro ps hT hpre W hW
  simp only [c_Rotate, TyA, Ty, Tys] at hT hpre
  obtain ⟨_, _, rfl, ⟨x, rfl, hx⟩, _, _, rfl, ⟨b, rfl, hb⟩, rfl⟩ := hT
  simp only [nth_zero, nth_succ, pv_I] at hpre
  obtain ⟨p1, p2⟩ := hpre
  have key : ∀ n : Fin 32, 0 < n.1 → andI .u64 (IntKind.u64.wrap (-(n.1 : Int))) 31 = 32 - n.1 := by decide
  have h1 := key ⟨(-b).toNat, by omega⟩ (by simp only; omega)
  simp only at h1
  have e : (((-b).toNat : Nat) : Int) = -b := by omega
  rw [e, Int.neg_neg] at h1
  refine hW.vc [] _ _ ?_
  simp [-List.getD_eq_getElem?_getD, c_Rotate]
  rw [h1, wrapU64 (by omega)]
  have e3 : (32 : Int) - (32 - -b) = -b := by omega
  rw [e3]
  exact ⟨by omega, by omega, rfl⟩

def c_turned : FSpec := ⟨[(.rd, .int .u32), (.rd, .int .i64)], [.int .u32], true, fun ps => 0 < (nth ps 1).I ∧ (nth ps 1).I < 32, fun ps => [.int .u32 (rotI (nth ps 0).I (nth ps 1).I)], fun _ => []⟩
theorem k_turned : FnOk Tryd.prog 131 c_turned := by
  refine fn_mk [0, 1, 4] [.tmp 4] (env_cons (cs := []) k_Rotate (env_nil (tyTab_ok []))) mixed Tryd.func131 rfl (by decide) rfl (by decide) rfl ?_
  intro ps hT hpre W hW
  simp only [c_turned, TyA, Ty, Tys] at hT hpre
  obtain ⟨_, _, rfl, ⟨x, rfl, hx⟩, _, _, rfl, ⟨b, rfl, hb⟩, rfl⟩ := hT
  simp only [nth_zero, nth_succ, pv_I] at hpre
  obtain ⟨p1, p2⟩ := hpre
  refine hW.vc [] _ _ ?_
  simp [-List.getD_eq_getElem?_getD, c_turned, c_Rotate]
  rw [wrap64 (by omega), Int.neg_neg]
  exact ⟨⟨by omega, by omega⟩, rfl⟩

def c_l01Turn : FSpec := ⟨[(.rd, .int .u32), (.rd, .int .u64)], [.int .u32], true, fun ps => 0 < (nth ps 1).I ∧ (nth ps 1).I < 32, fun ps => [.int .u32 (rotI (nth ps 0).I (nth ps 1).I)], fun _ => []⟩
theorem k_l01Turn : FnOk Tryd.prog 120 c_l01Turn := by
  refine fn_mk [0, 1, 4] [.tmp 4] (env_nil (tyTab_ok [])) mixed Tryd.func120 rfl (by decide) rfl (by decide) rfl ?_
  intro ps hT hpre W hW
  simp only [c_l01Turn, TyA, Ty, Tys] at hT hpre
  obtain ⟨_, _, rfl, ⟨x, rfl, hx⟩, _, _, rfl, ⟨b, rfl, hb⟩, rfl⟩ := hT
  simp only [nth_zero, nth_succ, pv_I] at hpre
  obtain ⟨p1, p2⟩ := hpre
  refine hW.vc [] _ _ ?_
  simp [-List.getD_eq_getElem?_getD, c_l01Turn]
  rw [wrapU64 (by omega)]
  exact ⟨by omega, by omega, by rw [rotI, orI_comm]⟩

end Go.Proofs.YtolgjekokdimoaaDoor
end

section
namespace Go.Proofs.YtolgjekokdimoaaDoor
set_option maxRecDepth 100000
set_option linter.unusedSimpArgs false

def w32 (n : Int) : Int := IntKind.u32.wrap n
def notI (x : Int) : Int := xorI .u32 4294967295 x
def sgm (x a b c : Int) : Int := xorI .u32 (xorI .u32 (rotI x a) (rotI x b)) (rotI x c)
def sgs (x a b c : Int) : Int := xorI .u32 (xorI .u32 (rotI x a) (rotI x b)) (shrI .u32 x c)
def chI (e f g : Int) : Int := orI .u32 (andI .u32 e f) (andI .u32 (notI e) g)
def majI (a b c : Int) : Int := orI .u32 (orI .u32 (andI .u32 a b) (andI .u32 a c)) (andI .u32 b c)

/-- Words behind IntKind's numbers. -/
theorem bv_u32 (x : BitVec 32) : BitVec.ofInt 32 (IntKind.u32.wrap (x.toNat : Int)) = x := by
  have h : IntKind.u32.wrap (x.toNat : Int) = x.toNat := by
    have := x.isLt
    simp [IntKind.wrap, IntKind.signed, IntKind.bits]; omega
  rw [h]; simp
theorem xor32 (a b : Int) : xorI .u32 a b = IntKind.u32.wrap ((BitVec.ofInt 32 a ^^^ BitVec.ofInt 32 b).toNat : Int) := rfl
theorem or32 (a b : Int) : orI .u32 a b = IntKind.u32.wrap ((BitVec.ofInt 32 a ||| BitVec.ofInt 32 b).toNat : Int) := rfl
theorem and32 (a b : Int) : andI .u32 a b = IntKind.u32.wrap ((BitVec.ofInt 32 a &&& BitVec.ofInt 32 b).toNat : Int) := rfl
theorem ch_xor (e f g : Int) : xorI .u32 (andI .u32 e f) (andI .u32 (notI e) g) = chI e f g := by
  simp only [chI, notI, xor32, or32, and32, bv_u32]
  refine congrArg (fun x : BitVec 32 => IntKind.u32.wrap (x.toNat : Int)) ?_
  ext i hi
  simp only [BitVec.getElem_xor, BitVec.getElem_or, BitVec.getElem_and]
  have hm : (BitVec.ofInt 32 4294967295)[i] = true := by
    have : BitVec.ofInt 32 4294967295 = BitVec.allOnes 32 := by decide
    rw [this, BitVec.getElem_allOnes]
  rw [hm]
  cases (BitVec.ofInt 32 e)[i] <;> cases (BitVec.ofInt 32 f)[i] <;> cases (BitVec.ofInt 32 g)[i] <;> rfl
theorem maj_xor (a b c : Int) : xorI .u32 (xorI .u32 (andI .u32 a b) (andI .u32 a c)) (andI .u32 b c) = majI a b c := by
  simp only [majI, xor32, or32, and32, bv_u32]
  refine congrArg (fun x : BitVec 32 => IntKind.u32.wrap (x.toNat : Int)) ?_
  ext i hi
  simp only [BitVec.getElem_xor, BitVec.getElem_or, BitVec.getElem_and]
  cases (BitVec.ofInt 32 a)[i] <;> cases (BitVec.ofInt 32 b)[i] <;> cases (BitVec.ofInt 32 c)[i] <;> rfl

/-- The word at a place of a block of bytes. -/
def wrdI (f : Nat → Int) (j : Nat) : Int := orI .u32 (orI .u32 (orI .u32 (shlI .u32 (f (4 * j)) 24) (shlI .u32 (f (4 * j + 1)) 16)) (shlI .u32 (f (4 * j + 2)) 8)) (f (4 * j + 3))
def nxtI (l : List PV) (n : Nat) : Int := w32 (w32 (w32 ((nth l (n - 16)).I + sgs (nth l (n - 15)).I 7 18 3) + (nth l (n - 7)).I) + sgs (nth l (n - 2)).I 17 19 10)
/-- The first words. -/
def schP (f : Nat → Int) : Nat → List PV
  | 0 => []
  | n + 1 => schP f n ++ [.int .u32 (if n < 16 then wrdI f n else nxtI (schP f n) n)]
theorem schP_len (f : Nat → Int) : ∀ n, (schP f n).length = n
  | 0 => rfl
  | n + 1 => by rw [schP, List.length_append, schP_len f n]; rfl

/-- Eight words. -/
structure S8 where
  a : Int
  b : Int
  c : Int
  d : Int
  e : Int
  f : Int
  g : Int
  h : Int
def S8.p (s : S8) (k w : Int) : Int := w32 (w32 (w32 (w32 (s.h + sgm s.e 6 11 25) + chI s.e s.f s.g) + k) + w)
def S8.q (s : S8) : Int := w32 (sgm s.a 2 13 22 + majI s.a s.b s.c)
def S8.step (s : S8) (k w : Int) : S8 := ⟨w32 (s.p k w + s.q), s.a, s.b, s.c, w32 (s.d + s.p k w), s.e, s.f, s.g⟩
def S8.pv (s : S8) : List PV := [.int .u32 s.a, .int .u32 s.b, .int .u32 s.c, .int .u32 s.d, .int .u32 s.e, .int .u32 s.f, .int .u32 s.g, .int .u32 s.h]
def s8Of (v : List PV) : S8 := ⟨(nth v 0).I, (nth v 1).I, (nth v 2).I, (nth v 3).I, (nth v 4).I, (nth v 5).I, (nth v 6).I, (nth v 7).I⟩
def rnds (K W : List PV) (s : S8) : Nat → S8
  | 0 => s
  | n + 1 => (rnds K W s n).step (nth K n).I (nth W n).I
/-- The first of the sums of two rows. -/
def addP (v r : List PV) : Nat → List PV
  | 0 => []
  | n + 1 => addP v r n ++ [.int .u32 (w32 ((nth v n).I + (nth r n).I))]
theorem addP_len (v r : List PV) : ∀ n, (addP v r n).length = n
  | 0 => rfl
  | n + 1 => by rw [addP, List.length_append, addP_len v r n]; rfl
/-- The state behind a block. -/
def blkP (K : List PV) (v : List PV) (f : Nat → Int) : List PV := addP v (rnds K (schP f 64) (s8Of v) 64).pv 8
theorem blkP_len (K v : List PV) (f : Nat → Int) : (blkP K v f).length = 8 := addP_len _ _ 8

theorem set_at {l : List PV} {z x : PV} {i m : Nat} (hl : l.length = i) (hm : i < m) : (l ++ List.replicate (m - i) z).set i x = (l ++ [x]) ++ List.replicate (m - (i + 1)) z := by
  have e : m - i = (m - (i + 1)) + 1 := by omega
  rw [e, List.replicate_succ, List.set_append_right _ _ (by omega), hl, Nat.sub_self, List.set_cons_zero, List.append_assoc]
  rfl
theorem nth_left {l r : List PV} {i : Nat} (h : i < l.length) : nth (l ++ r) i = nth l i := by simp [nth, List.getElem?_append_left h]

theorem drop_set {a st : List PV} {x : PV} {i : Nat} (ha : a.length = i) (hi : i < st.length) : (a ++ st.drop i).set i x = (a ++ [x]) ++ st.drop (i + 1) := by
  rw [drop_nth hi, List.set_append_right _ _ (by omega), ha, Nat.sub_self, List.set_cons_zero, List.append_assoc]; rfl
theorem drop_at {a st : List PV} {i : Nat} (ha : a.length = i) (hi : i < st.length) : nth (a ++ st.drop i) i = nth st i := by
  rw [drop_nth hi, ← ha]; simp [nth]
theorem pv_getD (s : S8) : ∀ {i : Nat}, i < 8 → [s.a, s.b, s.c, s.d, s.e, s.f, s.g, s.h].getD i 0 = (nth s.pv i).I
  | 0, _ | 1, _ | 2, _ | 3, _ | 4, _ | 5, _ | 6, _ | 7, _ => rfl
  | n + 8, h => by omega

end Go.Proofs.YtolgjekokdimoaaDoor
end

section
namespace Go.Proofs.YtolgjekokdimoaaDoor
set_option maxRecDepth 100000
set_option linter.unusedSimpArgs false

def byteF (l : List UInt8) (k : Nat) : Int := ((l.getD k 0).toNat : Int)
theorem wB (x : UInt8) : IntKind.u32.wrap (x.toNat : Int) = x.toNat := by
  have := x.toNat_lt
  simp [IntKind.wrap, IntKind.signed, IntKind.bits]; omega
def c_hashBlock : FSpec := ⟨[(.bx, .abx (.int .u32)), (.rd, .str)], [], true, fun ps => (nth ps 0).L.length = 8 ∧ (nth ps 1).S.length = 64, fun _ => [], fun ps => [.list (blkP G1 (nth ps 0).L (byteF (nth ps 1).S))]⟩
set_option maxHeartbeats 4000000 in
theorem k_hashBlock : FnOk Tryd.prog 106 c_hashBlock := by
  refine fn_mk [0, 1, 4, 5, 6, 7, 8, 9, 10, 11, 12, 13, 14, 15, 16, 17, 18, 19, 20, 21, 127, 198, 199] [] (env_cons (cs := []) k_turned (env_nil (tyTab_ok []))) mixed Tryd.func106 rfl (by decide) rfl (by decide) rfl ?_
  intro ps hT hpre W hW
  simp only [c_hashBlock, TyA, Ty, Tys] at hT hpre
  obtain ⟨_, _, rfl, ⟨st, rfl, tst⟩, _, _, rfl, ⟨b, rfl, hb⟩, rfl⟩ := hT
  simp only [nth_zero, nth_succ, pv_L, pv_S] at hpre
  obtain ⟨p1, p2⟩ := hpre
  refine hW.vc [] _ _ ?_
  simp [-List.getD_eq_getElem?_getD, c_hashBlock, c_turned]
  refine hW.cutS [_, _] _ _ [.ax 4, .sl 21 .dp (.int .i64)] (fun ys => ys = [.list (schP (byteF b) 64), .int .i64 64]) ?_ ?_
  · refine hW.loopS _ _ _ [.ax 4, .sl 21 .dp (.int .i64)] (fun ys => ∃ i : Nat, ys = [.list (schP (byteF b) i ++ List.replicate (64 - i) (.int .u32 0)), .int .i64 i] ∧ i ≤ 64) (fun ys => 64 - (nth ys 1).I.toNat) ?_ ?_
    · simp [-List.getD_eq_getElem?_getD, c_hashBlock, c_turned]
      exact ⟨0, ⟨rfl, rfl⟩, by omega⟩
    · rintro ys ⟨i, rfl, g1⟩
      refine hW.vc [(5, [31], .take 0 <| .take 1 <| .take 2 <| .take 3 <| .take 4 <| .take 5 <| .take 6 <| .take 7 <| .take 8 <| .take 9 <| .take 10 <| .take 11 <| .take 12 <| .take 13 <| .take 14 <| .take 15 <| .take 16 <| .take 17 <| .take 18 <| .take 19 <| .take 20 <| .take 21 <| .take 22 <| .take 23 <| .take 24 <| .take 25 <| .take 26 <| .take 27 <| .take 28 <| .take 29 <| .take 30 <| .alt 31 (.done) .stop), (6, [], .take 0 <| .take 1 <| .take 2 <| .take 3 <| .take 4 <| .take 5 <| .take 6 <| .take 7 <| .alt 8 (.alt 9 (.done) .stop) .stop), (7, [29], .take 0 <| .take 1 <| .take 2 <| .take 3 <| .take 4 <| .take 5 <| .take 7 <| .take 10 <| .take 11 <| .take 14 <| .take 15 <| .take 16 <| .take 17 <| .take 19 <| .take 21 <| .take 24 <| .take 25 <| .alt 6 (.alt 8 (.take 9 <| .take 12 <| .take 13 <| .take 18 <| .alt 20 (.alt 22 (.take 23 <| .take 26 <| .take 27 <| .take 28 <| .alt 29 (.done) .stop) .stop) .stop) .stop) .stop), (9, [], .take 0 <| .take 1 <| .take 2 <| .take 3 <| .take 4 <| .take 5 <| .take 6 <| .take 7 <| .take 8 <| .take 9 <| .take 10 <| .take 11 <| .take 12 <| .take 13 <| .take 14 <| .take 15 <| .take 16 <| .take 17 <| .take 18 <| .take 19 <| .take 20 <| .take 21 <| .take 22 <| .take 23 <| .take 24 <| .take 25 <| .take 26 <| .take 27 <| .take 28 <| .take 29 <| .take 30 <| .take 31 <| .alt 32 (.alt 33 (.alt 34 (.alt 35 (.alt 36 (.alt 37 (.alt 38 (.alt 39 (.done) .stop) .stop) .stop) .stop) .stop) .stop) .stop) .stop), (13, [], .take 0 <| .take 1 <| .take 3 <| .take 6 <| .take 10 <| .take 11 <| .take 12 <| .take 13 <| .take 14 <| .take 15 <| .take 16 <| .take 17 <| .take 19 <| .take 20 <| .take 21 <| .take 23 <| .take 24 <| .take 25 <| .alt 2 (.alt 4 (.take 5 <| .alt 7 (.take 8 <| .take 9 <| .take 18 <| .take 22 <| .take 26 <| .alt 27 (.done) .stop) .stop) .stop) .stop), (20, [9], .take 0 <| .take 1 <| .take 2 <| .take 3 <| .take 4 <| .take 5 <| .take 6 <| .take 7 <| .take 8 <| .alt 9 (.done) .stop)] _ _ ?_
      simp [-List.getD_eq_getElem?_getD, c_hashBlock, c_turned]
      have hl := schP_len (byteF b) i
      have a0 : IntKind.i64.wrap (4 * (i : Int)) = ((4 * i : Nat) : Int) := by rw [wrap64 (by omega)]; omega
      have a1 : IntKind.i64.wrap (((4 * i : Nat) : Int) + 1) = ((4 * i + 1 : Nat) : Int) := by rw [wrap64 (by omega)]; omega
      have a2 : IntKind.i64.wrap (((4 * i : Nat) : Int) + 2) = ((4 * i + 2 : Nat) : Int) := by rw [wrap64 (by omega)]; omega
      have a3 : IntKind.i64.wrap (((4 * i : Nat) : Int) + 3) = ((4 * i + 3 : Nat) : Int) := by rw [wrap64 (by omega)]; omega
      rw [a0, a1, a2, a3]
      simp only [Int.toNat_natCast, wB]
      refine ⟨fun h64 => ⟨fun h16 => ?_, fun h16 => ?_⟩, fun h64 => ?_⟩
      · refine ⟨by decide +kernel, ⟨by omega, by omega⟩, ⟨by omega, by omega⟩, ⟨by omega, by omega⟩, ⟨by omega, by omega⟩, ⟨h64, by omega⟩, by omega, ⟨i + 1, ⟨?_, wrap64 (by omega)⟩, by omega⟩, by rw [wrap64 (by omega)]; omega⟩
        rw [set_at hl (by omega), schP, if_pos (by omega)]
        rfl
      · have c15 : IntKind.i64.wrap ((i : Int) - 15) = ((i - 15 : Nat) : Int) := by rw [wrap64 (by omega)]; omega
        have c2 : IntKind.i64.wrap ((i : Int) - 2) = ((i - 2 : Nat) : Int) := by rw [wrap64 (by omega)]; omega
        have c16 : IntKind.i64.wrap ((i : Int) - 16) = ((i - 16 : Nat) : Int) := by rw [wrap64 (by omega)]; omega
        have c7 : IntKind.i64.wrap ((i : Int) - 7) = ((i - 7 : Nat) : Int) := by rw [wrap64 (by omega)]; omega
        rw [c15, c2, c16, c7]
        simp only [Int.toNat_natCast]
        rw [nth_left (by omega : i - 15 < (schP (byteF b) i).length), nth_left (by omega : i - 2 < (schP (byteF b) i).length), nth_left (by omega : i - 16 < (schP (byteF b) i).length), nth_left (by omega : i - 7 < (schP (byteF b) i).length)]
        refine ⟨by decide +kernel, ⟨by omega, by omega, by omega⟩, by omega, fun _ => ⟨⟨by omega, by omega, by omega⟩, by omega, fun _ => ⟨by decide +kernel, ⟨by omega, by omega, by omega⟩, by omega, fun _ => ⟨⟨by omega, by omega, by omega⟩, by omega, fun _ => ⟨⟨h64, by omega⟩, by omega, ⟨i + 1, ⟨?_, wrap64 (by omega)⟩, by omega⟩, by rw [wrap64 (by omega)]; omega⟩⟩⟩⟩⟩
        rw [set_at hl (by omega), schP, if_neg (by omega)]
        rfl
      · have e : i = 64 := by omega
        subst e
        exact ⟨by simp, rfl⟩
  · rintro ys rfl
    refine hW.vc [(9, [], .take 0 <| .take 1 <| .take 2 <| .take 3 <| .take 4 <| .take 5 <| .take 6 <| .take 7 <| .take 8 <| .take 9 <| .take 10 <| .take 11 <| .take 12 <| .take 13 <| .take 14 <| .take 15 <| .take 16 <| .take 17 <| .take 18 <| .take 19 <| .take 20 <| .take 21 <| .take 22 <| .take 23 <| .take 24 <| .take 25 <| .take 26 <| .take 27 <| .take 28 <| .take 29 <| .take 30 <| .take 31 <| .alt 32 (.alt 33 (.alt 34 (.alt 35 (.alt 36 (.alt 37 (.alt 38 (.alt 39 (.done) .stop) .stop) .stop) .stop) .stop) .stop) .stop) .stop)] _ _ ?_
    simp [-List.getD_eq_getElem?_getD, c_hashBlock, c_turned]
    refine ⟨by decide +kernel, by omega, by omega, fun _ => ⟨by omega, by omega, fun _ => ⟨by omega, by omega, fun _ => ⟨by omega, by omega, fun _ => ⟨by omega, by omega, fun _ => ⟨by omega, by omega, fun _ => ⟨by omega, by omega, fun _ => ⟨by omega, by omega, fun _ => ?_⟩⟩⟩⟩⟩⟩⟩⟩
    obtain ⟨W64, hW64⟩ : ∃ L, L = schP (byteF b) 64 := ⟨_, rfl⟩
    have wl : W64.length = 64 := by rw [hW64, schP_len]
    obtain ⟨rs, hrs⟩ : ∃ rs : Nat → S8, rs = rnds G1 W64 (s8Of st) := ⟨_, rfl⟩
    have hr0 : rs 0 = s8Of st := by rw [hrs]; rfl
    have hrS : ∀ i, rs (i + 1) = (rs i).step (nth G1 i).I (nth W64 i).I := fun i => by rw [hrs]; rfl
    rw [← hW64]
    refine hW.cutS [_, _] _ _ [.sl 8 .dp (.int .u32), .sl 9 .dp (.int .u32), .sl 10 .dp (.int .u32), .sl 11 .dp (.int .u32), .sl 12 .dp (.int .u32), .sl 13 .dp (.int .u32), .sl 14 .dp (.int .u32), .sl 15 .dp (.int .u32), .sl 127 .dp (.int .i64)]
      (fun ys => ys = [.int .u32 (rs 64).a, .int .u32 (rs 64).b, .int .u32 (rs 64).c, .int .u32 (rs 64).d, .int .u32 (rs 64).e, .int .u32 (rs 64).f, .int .u32 (rs 64).g, .int .u32 (rs 64).h, .int .i64 64]) ?_ ?_
    · refine hW.loopS _ _ _ [.sl 8 .dp (.int .u32), .sl 9 .dp (.int .u32), .sl 10 .dp (.int .u32), .sl 11 .dp (.int .u32), .sl 12 .dp (.int .u32), .sl 13 .dp (.int .u32), .sl 14 .dp (.int .u32), .sl 15 .dp (.int .u32), .sl 127 .dp (.int .i64)]
        (fun ys => ∃ i : Nat, ys = [.int .u32 (rs i).a, .int .u32 (rs i).b, .int .u32 (rs i).c, .int .u32 (rs i).d, .int .u32 (rs i).e, .int .u32 (rs i).f, .int .u32 (rs i).g, .int .u32 (rs i).h, .int .i64 i] ∧ i ≤ 64) (fun ys => 64 - (nth ys 8).I.toNat) ?_ ?_
      · simp [-List.getD_eq_getElem?_getD, c_hashBlock, c_turned]
        refine ⟨0, ?_, by omega⟩
        rw [hr0]
        and_intros <;> rfl
      · rintro ys ⟨i, rfl, g1⟩
        refine hW.vc [(5, [31], .take 0 <| .take 1 <| .take 2 <| .take 3 <| .take 4 <| .take 5 <| .take 6 <| .take 7 <| .take 8 <| .take 9 <| .take 10 <| .take 11 <| .take 12 <| .take 13 <| .take 14 <| .take 15 <| .take 16 <| .take 17 <| .take 18 <| .take 19 <| .take 20 <| .take 21 <| .take 22 <| .take 23 <| .take 24 <| .take 25 <| .take 26 <| .take 27 <| .take 28 <| .take 29 <| .take 30 <| .alt 31 (.done) .stop), (6, [], .take 0 <| .take 1 <| .take 2 <| .take 3 <| .take 4 <| .take 5 <| .take 6 <| .take 7 <| .alt 8 (.alt 9 (.done) .stop) .stop), (7, [29], .take 0 <| .take 1 <| .take 2 <| .take 3 <| .take 4 <| .take 5 <| .take 7 <| .take 10 <| .take 11 <| .take 14 <| .take 15 <| .take 16 <| .take 17 <| .take 19 <| .take 21 <| .take 24 <| .take 25 <| .alt 6 (.alt 8 (.take 9 <| .take 12 <| .take 13 <| .take 18 <| .alt 20 (.alt 22 (.take 23 <| .take 26 <| .take 27 <| .take 28 <| .alt 29 (.done) .stop) .stop) .stop) .stop) .stop), (9, [], .take 0 <| .take 1 <| .take 2 <| .take 3 <| .take 4 <| .take 5 <| .take 6 <| .take 7 <| .take 8 <| .take 9 <| .take 10 <| .take 11 <| .take 12 <| .take 13 <| .take 14 <| .take 15 <| .take 16 <| .take 17 <| .take 18 <| .take 19 <| .take 20 <| .take 21 <| .take 22 <| .take 23 <| .take 24 <| .take 25 <| .take 26 <| .take 27 <| .take 28 <| .take 29 <| .take 30 <| .take 31 <| .alt 32 (.alt 33 (.alt 34 (.alt 35 (.alt 36 (.alt 37 (.alt 38 (.alt 39 (.done) .stop) .stop) .stop) .stop) .stop) .stop) .stop) .stop), (13, [], .take 0 <| .take 1 <| .take 3 <| .take 6 <| .take 10 <| .take 11 <| .take 12 <| .take 13 <| .take 14 <| .take 15 <| .take 16 <| .take 17 <| .take 19 <| .take 20 <| .take 21 <| .take 23 <| .take 24 <| .take 25 <| .alt 2 (.alt 4 (.take 5 <| .alt 7 (.take 8 <| .take 9 <| .take 18 <| .take 22 <| .take 26 <| .alt 27 (.done) .stop) .stop) .stop) .stop), (20, [9], .take 0 <| .take 1 <| .take 2 <| .take 3 <| .take 4 <| .take 5 <| .take 6 <| .take 7 <| .take 8 <| .alt 9 (.done) .stop)] _ _ ?_
        simp [-List.getD_eq_getElem?_getD, c_hashBlock, c_turned]
        refine ⟨fun h => ⟨by decide +kernel, h, by omega, fun _ _ => ⟨⟨h, by omega⟩, by omega, fun _ => ⟨⟨i + 1, ?_, by omega⟩, by rw [wrap64 (by omega)]; omega⟩⟩⟩, fun h => ?_⟩
        · rw [hrS]
          and_intros
          all_goals first | rfl | exact wrap64 (by omega)
        · have e : i = 64 := by omega
          subst e
          and_intros <;> rfl
    · rintro ys rfl
      refine hW.vc [(5, [31], .take 0 <| .take 1 <| .take 2 <| .take 3 <| .take 4 <| .take 5 <| .take 6 <| .take 7 <| .take 8 <| .take 9 <| .take 10 <| .take 11 <| .take 12 <| .take 13 <| .take 14 <| .take 15 <| .take 16 <| .take 17 <| .take 18 <| .take 19 <| .take 20 <| .take 21 <| .take 22 <| .take 23 <| .take 24 <| .take 25 <| .take 26 <| .take 27 <| .take 28 <| .take 29 <| .take 30 <| .alt 31 (.done) .stop), (6, [], .take 0 <| .take 1 <| .take 2 <| .take 3 <| .take 4 <| .take 5 <| .take 6 <| .take 7 <| .alt 8 (.alt 9 (.done) .stop) .stop), (7, [29], .take 0 <| .take 1 <| .take 2 <| .take 3 <| .take 4 <| .take 5 <| .take 7 <| .take 10 <| .take 11 <| .take 14 <| .take 15 <| .take 16 <| .take 17 <| .take 19 <| .take 21 <| .take 24 <| .take 25 <| .alt 6 (.alt 8 (.take 9 <| .take 12 <| .take 13 <| .take 18 <| .alt 20 (.alt 22 (.take 23 <| .take 26 <| .take 27 <| .take 28 <| .alt 29 (.done) .stop) .stop) .stop) .stop) .stop), (9, [], .take 0 <| .take 1 <| .take 2 <| .take 3 <| .take 4 <| .take 5 <| .take 6 <| .take 7 <| .take 8 <| .take 9 <| .take 10 <| .take 11 <| .take 12 <| .take 13 <| .take 14 <| .take 15 <| .take 16 <| .take 17 <| .take 18 <| .take 19 <| .take 20 <| .take 21 <| .take 22 <| .take 23 <| .take 24 <| .take 25 <| .take 26 <| .take 27 <| .take 28 <| .take 29 <| .take 30 <| .take 31 <| .alt 32 (.alt 33 (.alt 34 (.alt 35 (.alt 36 (.alt 37 (.alt 38 (.alt 39 (.done) .stop) .stop) .stop) .stop) .stop) .stop) .stop) .stop), (13, [], .take 0 <| .take 1 <| .take 3 <| .take 6 <| .take 10 <| .take 11 <| .take 12 <| .take 13 <| .take 14 <| .take 15 <| .take 16 <| .take 17 <| .take 19 <| .take 20 <| .take 21 <| .take 23 <| .take 24 <| .take 25 <| .alt 2 (.alt 4 (.take 5 <| .alt 7 (.take 8 <| .take 9 <| .take 18 <| .take 22 <| .take 26 <| .alt 27 (.done) .stop) .stop) .stop) .stop), (20, [9], .take 0 <| .take 1 <| .take 2 <| .take 3 <| .take 4 <| .take 5 <| .take 6 <| .take 7 <| .take 8 <| .alt 9 (.done) .stop)] _ _ ?_
      simp [-List.getD_eq_getElem?_getD, c_hashBlock, c_turned]
      refine ⟨by decide, hW.loopS _ _ _ [.ax 0, .sl 199 .dp (.int .i64)] (fun ys => ∃ i : Nat, ys = [.list (addP st (rs 64).pv i ++ st.drop i), .int .i64 i] ∧ i ≤ 8) (fun ys => 8 - (nth ys 1).I.toNat) ?_ ?_⟩
      · simp [-List.getD_eq_getElem?_getD, c_hashBlock, c_turned]
        exact ⟨0, ⟨rfl, rfl⟩, by omega⟩
      · rintro ys ⟨i, rfl, g1⟩
        refine hW.vc [(5, [31], .take 0 <| .take 1 <| .take 2 <| .take 3 <| .take 4 <| .take 5 <| .take 6 <| .take 7 <| .take 8 <| .take 9 <| .take 10 <| .take 11 <| .take 12 <| .take 13 <| .take 14 <| .take 15 <| .take 16 <| .take 17 <| .take 18 <| .take 19 <| .take 20 <| .take 21 <| .take 22 <| .take 23 <| .take 24 <| .take 25 <| .take 26 <| .take 27 <| .take 28 <| .take 29 <| .take 30 <| .alt 31 (.done) .stop), (6, [], .take 0 <| .take 1 <| .take 2 <| .take 3 <| .take 4 <| .take 5 <| .take 6 <| .take 7 <| .alt 8 (.alt 9 (.done) .stop) .stop), (7, [29], .take 0 <| .take 1 <| .take 2 <| .take 3 <| .take 4 <| .take 5 <| .take 7 <| .take 10 <| .take 11 <| .take 14 <| .take 15 <| .take 16 <| .take 17 <| .take 19 <| .take 21 <| .take 24 <| .take 25 <| .alt 6 (.alt 8 (.take 9 <| .take 12 <| .take 13 <| .take 18 <| .alt 20 (.alt 22 (.take 23 <| .take 26 <| .take 27 <| .take 28 <| .alt 29 (.done) .stop) .stop) .stop) .stop) .stop), (9, [], .take 0 <| .take 1 <| .take 2 <| .take 3 <| .take 4 <| .take 5 <| .take 6 <| .take 7 <| .take 8 <| .take 9 <| .take 10 <| .take 11 <| .take 12 <| .take 13 <| .take 14 <| .take 15 <| .take 16 <| .take 17 <| .take 18 <| .take 19 <| .take 20 <| .take 21 <| .take 22 <| .take 23 <| .take 24 <| .take 25 <| .take 26 <| .take 27 <| .take 28 <| .take 29 <| .take 30 <| .take 31 <| .alt 32 (.alt 33 (.alt 34 (.alt 35 (.alt 36 (.alt 37 (.alt 38 (.alt 39 (.done) .stop) .stop) .stop) .stop) .stop) .stop) .stop) .stop), (13, [], .take 0 <| .take 1 <| .take 3 <| .take 6 <| .take 10 <| .take 11 <| .take 12 <| .take 13 <| .take 14 <| .take 15 <| .take 16 <| .take 17 <| .take 19 <| .take 20 <| .take 21 <| .take 23 <| .take 24 <| .take 25 <| .alt 2 (.alt 4 (.take 5 <| .alt 7 (.take 8 <| .take 9 <| .take 18 <| .take 22 <| .take 26 <| .alt 27 (.done) .stop) .stop) .stop) .stop), (20, [9], .take 0 <| .take 1 <| .take 2 <| .take 3 <| .take 4 <| .take 5 <| .take 6 <| .take 7 <| .take 8 <| .alt 9 (.done) .stop)] _ _ ?_
        simp [-List.getD_eq_getElem?_getD, c_hashBlock, c_turned]
        have al := addP_len st (rs 64).pv i
        refine ⟨fun h => ?_, fun h => ?_⟩
        · have h8 : i < 8 := by omega
          rw [drop_at al (by omega), pv_getD (rs 64) h8, drop_set al (by omega)]
          exact ⟨h, by decide +kernel, ⟨h, by omega⟩, by omega, fun _ => ⟨⟨h, by omega⟩, by omega, ⟨i + 1, ⟨rfl, wrap64 (by omega)⟩, by omega⟩, by rw [wrap64 (by omega)]; omega⟩⟩
        · have e : i = 8 := by omega
          subst e
          rw [List.drop_eq_nil_of_le (by omega), List.append_nil, blkP, hrs, hW64]

end Go.Proofs.YtolgjekokdimoaaDoor
end

section
namespace Go.Proofs.YtolgjekokdimoaaDoor
set_option maxRecDepth 100000
set_option linter.unusedSimpArgs false

def byteP (bs : List PV) (k : Nat) : Int := (nth bs k).I
def c_l01Consts : FSpec := ⟨[], [.list (.int .u32)], true, fun _ => True, fun _ => [.list G1], fun _ => []⟩
theorem k_l01Consts : FnOk Tryd.prog 101 c_l01Consts := by
  refine fn_mk [0] [.tmp 0] (env_nil (tyTab_ok [])) mixed Tryd.func101 rfl (by decide) rfl (by decide) rfl ?_
  intro ps hT hpre W hW
  simp only [c_l01Consts, TyA, Ty, Tys] at hT hpre
  obtain rfl := hT
  refine hW.vc [] _ _ ?_
  simp [-List.getD_eq_getElem?_getD, c_l01Consts]
  exact ⟨by decide, rfl⟩

theorem pv_s8 : ∀ {st : List PV}, st.length = 8 → (∀ e ∈ st, ∃ n, e = PV.int .u32 n ∧ inR .u32 n) → (s8Of st).pv = st
  | [a, b, c, d, e, f, g, h], _, ht => by
    obtain ⟨_, rfl, _⟩ := ht a (by simp)
    obtain ⟨_, rfl, _⟩ := ht b (by simp)
    obtain ⟨_, rfl, _⟩ := ht c (by simp)
    obtain ⟨_, rfl, _⟩ := ht d (by simp)
    obtain ⟨_, rfl, _⟩ := ht e (by simp)
    obtain ⟨_, rfl, _⟩ := ht f (by simp)
    obtain ⟨_, rfl, _⟩ := ht g (by simp)
    obtain ⟨_, rfl, _⟩ := ht h (by simp)
    rfl
def c_l01Block : FSpec := ⟨[(.mt, .list (.int .u32)), (.rd, .list (.int .u8)), (.rd, .list (.int .u32))], [], true, fun ps => (nth ps 0).L.length = 8 ∧ (nth ps 1).L.length = 64 ∧ (nth ps 2).L = G1, fun _ => [], fun ps => [.list (blkP G1 (nth ps 0).L (byteP (nth ps 1).L))]⟩
set_option maxHeartbeats 4000000 in
theorem k_l01Block : FnOk Tryd.prog 102 c_l01Block := by
  refine fn_mk [0, 1, 2, 6, 7, 8, 9, 10, 11, 12, 13, 14, 15, 16, 17] [] (env_cons (cs := []) k_l01Turn (env_nil (tyTab_ok []))) mixed Tryd.func102 rfl (by decide) rfl (by decide) rfl ?_
  intro ps hT hpre W hW
  simp only [c_l01Block, TyA, Ty, Tys] at hT hpre
  obtain ⟨_, _, rfl, ⟨st, rfl, hst, tst⟩, _, _, rfl, ⟨b, rfl, hb, tb⟩, _, _, rfl, ⟨ks, rfl, hks, tks⟩, rfl⟩ := hT
  simp only [nth_zero, nth_succ, pv_L] at hpre
  obtain ⟨p1, p2, p3⟩ := hpre
  have pk : ks.length = 64 := by rw [p3, G1_len]
  have bB : ∀ k, k < 64 → 0 ≤ (nth b k).I ∧ (nth b k).I ≤ 255 := fun k hk => by
    obtain ⟨n, e, h⟩ := tb _ (nth_mem (by omega : k < b.length))
    rw [e, pv_I]
    simp [inR, IntKind.min, IntKind.max, IntKind.signed, IntKind.bits] at h
    omega
  have wI : ∀ k, k < 64 → IntKind.u32.wrap (nth b k).I = (nth b k).I := fun k hk => by
    have := bB k hk
    simp [IntKind.wrap, IntKind.signed, IntKind.bits]; omega
  refine hW.vc [] _ _ ?_
  simp [-List.reduceReplicate, -List.getD_eq_getElem?_getD, c_l01Block, c_l01Turn]
  refine hW.cutS [_, _] _ _ [.ar 6 (.int .u32), .sl 7 .dp (.int .i64)] (fun ys => ys = [.list (schP (byteP b) 16 ++ List.replicate 48 (.int .u32 0)), .int .i64 16]) ?_ ?_
  · refine hW.loopS _ _ _ [.ar 6 (.int .u32), .sl 7 .dp (.int .i64)] (fun ys => ∃ i : Nat, ys = [.list (schP (byteP b) i ++ List.replicate (64 - i) (.int .u32 0)), .int .i64 i] ∧ i ≤ 16) (fun ys => 64 - (nth ys 1).I.toNat) ?_ ?_
    · simp [-List.reduceReplicate, -List.getD_eq_getElem?_getD, c_l01Block, c_l01Turn]
      exact ⟨0, ⟨rfl, rfl⟩, by omega⟩
    · rintro ys ⟨i, rfl, g1⟩
      refine hW.vc [(4, [36], .take 0 <| .take 1 <| .take 2 <| .take 3 <| .take 4 <| .take 5 <| .take 6 <| .take 7 <| .take 8 <| .take 9 <| .take 10 <| .take 11 <| .take 12 <| .take 13 <| .take 14 <| .take 15 <| .take 16 <| .take 17 <| .take 18 <| .take 19 <| .take 20 <| .take 21 <| .take 22 <| .take 23 <| .take 24 <| .take 25 <| .take 26 <| .take 27 <| .take 28 <| .take 29 <| .take 30 <| .take 31 <| .take 32 <| .take 33 <| .take 34 <| .take 35 <| .alt 36 (.done) .stop), (10, [32], .take 0 <| .take 1 <| .take 2 <| .take 3 <| .take 4 <| .take 5 <| .take 6 <| .take 7 <| .take 9 <| .take 12 <| .take 13 <| .take 16 <| .take 17 <| .take 18 <| .take 19 <| .take 20 <| .take 22 <| .take 24 <| .take 27 <| .take 28 <| .alt 8 (.alt 10 (.take 11 <| .take 14 <| .take 15 <| .take 21 <| .alt 23 (.alt 25 (.take 26 <| .take 29 <| .take 30 <| .take 31 <| .alt 32 (.done) .stop) .stop) .stop) .stop) .stop), (17, [], .take 0 <| .take 1 <| .take 2 <| .take 3 <| .take 5 <| .take 8 <| .take 12 <| .take 13 <| .take 14 <| .take 15 <| .take 16 <| .take 17 <| .take 18 <| .take 19 <| .take 20 <| .take 21 <| .take 22 <| .take 23 <| .take 25 <| .take 26 <| .take 27 <| .take 28 <| .take 30 <| .take 31 <| .take 32 <| .take 33 <| .alt 4 (.alt 6 (.take 7 <| .alt 9 (.take 10 <| .take 11 <| .take 24 <| .take 29 <| .take 34 <| .alt 35 (.done) .stop) .stop) .stop) .stop), (18, [], .take 0 <| .take 2 <| .take 5 <| .take 8 <| .take 9 <| .take 10 <| .take 11 <| .take 12 <| .take 13 <| .take 14 <| .take 15 <| .take 16 <| .take 17 <| .take 18 <| .take 19 <| .take 20 <| .take 21 <| .take 22 <| .take 23 <| .take 24 <| .take 25 <| .take 26 <| .alt 1 (.alt 3 (.take 4 <| .alt 6 (.take 7 <| .take 27 <| .alt 28 (.done) .stop) .stop) .stop) .stop), (19, [], .take 0 <| .take 1 <| .take 2 <| .take 3 <| .take 4 <| .take 5 <| .take 6 <| .take 7 <| .take 8 <| .take 9 <| .take 10 <| .take 11 <| .take 12 <| .take 13 <| .take 14 <| .take 15 <| .take 16 <| .take 17 <| .take 18 <| .take 19 <| .take 20 <| .take 21 <| .take 22 <| .take 23 <| .take 24 <| .take 25 <| .alt 26 (.alt 27 (.done) .stop) .stop), (23, [10], .take 0 <| .take 1 <| .take 2 <| .take 3 <| .take 4 <| .take 5 <| .take 6 <| .take 7 <| .take 8 <| .take 9 <| .alt 10 (.done) .stop)] _ _ ?_
      simp [-List.reduceReplicate, -List.getD_eq_getElem?_getD, c_l01Block, c_l01Turn]
      have hl := schP_len (byteP b) i
      have a0 : IntKind.i64.wrap (4 * (i : Int)) = ((4 * i : Nat) : Int) := by rw [wrap64 (by omega)]; omega
      have a1 : IntKind.i64.wrap (((4 * i : Nat) : Int) + 1) = ((4 * i + 1 : Nat) : Int) := by rw [wrap64 (by omega)]; omega
      have a2 : IntKind.i64.wrap (((4 * i : Nat) : Int) + 2) = ((4 * i + 2 : Nat) : Int) := by rw [wrap64 (by omega)]; omega
      have a3 : IntKind.i64.wrap (((4 * i : Nat) : Int) + 3) = ((4 * i + 3 : Nat) : Int) := by rw [wrap64 (by omega)]; omega
      rw [a0, a1, a2, a3]
      simp only [Int.toNat_natCast]
      rw [wrap64 (n := (i : Int) + 1) (by omega)]
      refine ⟨fun h => ?_, fun h => ?_⟩
      · rw [wI (4 * i) (by omega), wI (4 * i + 1) (by omega), wI (4 * i + 2) (by omega), wI (4 * i + 3) (by omega)]
        repeat' (first | apply And.intro | intro _)
        all_goals first | omega | decide +kernel | exact ⟨i + 1, ⟨by rw [set_at hl (by omega), schP, if_pos (by omega)]; rfl, by omega⟩, by omega⟩
      · have e : i = 16 := by omega
        subst e
        exact ⟨rfl, rfl⟩
  · rintro ys rfl
    refine hW.vc [] _ _ ?_
    simp [-List.reduceReplicate, -List.getD_eq_getElem?_getD, c_l01Block, c_l01Turn]
    refine hW.cutS [_, _] _ _ [.ar 6 (.int .u32), .sl 8 .dp (.int .i64)] (fun ys => ys = [.list (schP (byteP b) 64), .int .i64 64]) ?_ ?_
    · refine hW.loopS _ _ _ [.ar 6 (.int .u32), .sl 8 .dp (.int .i64)] (fun ys => ∃ i : Nat, ys = [.list (schP (byteP b) i ++ List.replicate (64 - i) (.int .u32 0)), .int .i64 i] ∧ 16 ≤ i ∧ i ≤ 64) (fun ys => 64 - (nth ys 1).I.toNat) ?_ ?_
      · simp [-List.reduceReplicate, -List.getD_eq_getElem?_getD, c_l01Block, c_l01Turn]
        exact ⟨16, ⟨rfl, rfl⟩, by omega, by omega⟩
      · rintro ys ⟨i, rfl, g0, g1⟩
        refine hW.vc [(4, [36], .take 0 <| .take 1 <| .take 2 <| .take 3 <| .take 4 <| .take 5 <| .take 6 <| .take 7 <| .take 8 <| .take 9 <| .take 10 <| .take 11 <| .take 12 <| .take 13 <| .take 14 <| .take 15 <| .take 16 <| .take 17 <| .take 18 <| .take 19 <| .take 20 <| .take 21 <| .take 22 <| .take 23 <| .take 24 <| .take 25 <| .take 26 <| .take 27 <| .take 28 <| .take 29 <| .take 30 <| .take 31 <| .take 32 <| .take 33 <| .take 34 <| .take 35 <| .alt 36 (.done) .stop), (10, [32], .take 0 <| .take 1 <| .take 2 <| .take 3 <| .take 4 <| .take 5 <| .take 6 <| .take 7 <| .take 9 <| .take 12 <| .take 13 <| .take 16 <| .take 17 <| .take 18 <| .take 19 <| .take 20 <| .take 22 <| .take 24 <| .take 27 <| .take 28 <| .alt 8 (.alt 10 (.take 11 <| .take 14 <| .take 15 <| .take 21 <| .alt 23 (.alt 25 (.take 26 <| .take 29 <| .take 30 <| .take 31 <| .alt 32 (.done) .stop) .stop) .stop) .stop) .stop), (17, [], .take 0 <| .take 1 <| .take 2 <| .take 3 <| .take 5 <| .take 8 <| .take 12 <| .take 13 <| .take 14 <| .take 15 <| .take 16 <| .take 17 <| .take 18 <| .take 19 <| .take 20 <| .take 21 <| .take 22 <| .take 23 <| .take 25 <| .take 26 <| .take 27 <| .take 28 <| .take 30 <| .take 31 <| .take 32 <| .take 33 <| .alt 4 (.alt 6 (.take 7 <| .alt 9 (.take 10 <| .take 11 <| .take 24 <| .take 29 <| .take 34 <| .alt 35 (.done) .stop) .stop) .stop) .stop), (18, [], .take 0 <| .take 2 <| .take 5 <| .take 8 <| .take 9 <| .take 10 <| .take 11 <| .take 12 <| .take 13 <| .take 14 <| .take 15 <| .take 16 <| .take 17 <| .take 18 <| .take 19 <| .take 20 <| .take 21 <| .take 22 <| .take 23 <| .take 24 <| .take 25 <| .take 26 <| .alt 1 (.alt 3 (.take 4 <| .alt 6 (.take 7 <| .take 27 <| .alt 28 (.done) .stop) .stop) .stop) .stop), (19, [], .take 0 <| .take 1 <| .take 2 <| .take 3 <| .take 4 <| .take 5 <| .take 6 <| .take 7 <| .take 8 <| .take 9 <| .take 10 <| .take 11 <| .take 12 <| .take 13 <| .take 14 <| .take 15 <| .take 16 <| .take 17 <| .take 18 <| .take 19 <| .take 20 <| .take 21 <| .take 22 <| .take 23 <| .take 24 <| .take 25 <| .alt 26 (.alt 27 (.done) .stop) .stop), (23, [10], .take 0 <| .take 1 <| .take 2 <| .take 3 <| .take 4 <| .take 5 <| .take 6 <| .take 7 <| .take 8 <| .take 9 <| .alt 10 (.done) .stop)] _ _ ?_
        simp [-List.reduceReplicate, -List.getD_eq_getElem?_getD, c_l01Block, c_l01Turn]
        have hl := schP_len (byteP b) i
        have c15 : IntKind.i64.wrap ((i : Int) - 15) = ((i - 15 : Nat) : Int) := by rw [wrap64 (by omega)]; omega
        have c2 : IntKind.i64.wrap ((i : Int) - 2) = ((i - 2 : Nat) : Int) := by rw [wrap64 (by omega)]; omega
        have c16 : IntKind.i64.wrap ((i : Int) - 16) = ((i - 16 : Nat) : Int) := by rw [wrap64 (by omega)]; omega
        have c7 : IntKind.i64.wrap ((i : Int) - 7) = ((i - 7 : Nat) : Int) := by rw [wrap64 (by omega)]; omega
        rw [c15, c2, c16, c7]
        simp only [Int.toNat_natCast]
        rw [nth_left (by omega : i - 15 < (schP (byteP b) i).length), nth_left (by omega : i - 2 < (schP (byteP b) i).length), nth_left (by omega : i - 16 < (schP (byteP b) i).length), nth_left (by omega : i - 7 < (schP (byteP b) i).length)]
        rw [wrap64 (n := (i : Int) + 1) (by omega)]
        refine ⟨fun h => ?_, fun h => ?_⟩
        · repeat' (first | apply And.intro | intro _)
          all_goals first | omega | decide +kernel | exact ⟨i + 1, ⟨by rw [set_at hl (by omega), schP, if_neg (by omega)]; rfl, by omega⟩, by omega, by omega⟩
        · have e : i = 64 := by omega
          subst e
          exact ⟨by simp, rfl⟩
    · rintro ys rfl
      refine hW.vc [] _ _ ?_
      simp [-List.reduceReplicate, -List.getD_eq_getElem?_getD, c_l01Block, c_l01Turn]
      refine ⟨by omega, ?_⟩
      obtain ⟨W64, hW64⟩ : ∃ L, L = schP (byteP b) 64 := ⟨_, rfl⟩
      have wl : W64.length = 64 := by rw [hW64, schP_len]
      obtain ⟨rs, hrs⟩ : ∃ rs : Nat → S8, rs = rnds G1 W64 (s8Of st) := ⟨_, rfl⟩
      have hr0 : rs 0 = s8Of st := by rw [hrs]; rfl
      have hrS : ∀ i, rs (i + 1) = (rs i).step (nth G1 i).I (nth W64 i).I := fun i => by rw [hrs]; rfl
      rw [← hW64]
      refine hW.cutS [_, _] _ _ [.sl 11 .dp (.list (.int .u32)), .sl 12 .dp (.int .i64)] (fun ys => ys = [.list (rs 64).pv, .int .i64 64]) ?_ ?_
      · refine hW.loopS _ _ _ [.sl 11 .dp (.list (.int .u32)), .sl 12 .dp (.int .i64)] (fun ys => ∃ i : Nat, ys = [.list (rs i).pv, .int .i64 i] ∧ i ≤ 64) (fun ys => 64 - (nth ys 1).I.toNat) ?_ ?_
        · simp [-List.getD_eq_getElem?_getD, c_l01Block, c_l01Turn]
          exact ⟨0, ⟨by rw [hr0, pv_s8 p1 tst], rfl⟩, by omega⟩
        · rintro ys ⟨i, rfl, g1⟩
          refine hW.vc [(4, [36], .take 0 <| .take 1 <| .take 2 <| .take 3 <| .take 4 <| .take 5 <| .take 6 <| .take 7 <| .take 8 <| .take 9 <| .take 10 <| .take 11 <| .take 12 <| .take 13 <| .take 14 <| .take 15 <| .take 16 <| .take 17 <| .take 18 <| .take 19 <| .take 20 <| .take 21 <| .take 22 <| .take 23 <| .take 24 <| .take 25 <| .take 26 <| .take 27 <| .take 28 <| .take 29 <| .take 30 <| .take 31 <| .take 32 <| .take 33 <| .take 34 <| .take 35 <| .alt 36 (.done) .stop), (10, [32], .take 0 <| .take 1 <| .take 2 <| .take 3 <| .take 4 <| .take 5 <| .take 6 <| .take 7 <| .take 9 <| .take 12 <| .take 13 <| .take 16 <| .take 17 <| .take 18 <| .take 19 <| .take 20 <| .take 22 <| .take 24 <| .take 27 <| .take 28 <| .alt 8 (.alt 10 (.take 11 <| .take 14 <| .take 15 <| .take 21 <| .alt 23 (.alt 25 (.take 26 <| .take 29 <| .take 30 <| .take 31 <| .alt 32 (.done) .stop) .stop) .stop) .stop) .stop), (17, [], .take 0 <| .take 1 <| .take 2 <| .take 3 <| .take 5 <| .take 8 <| .take 12 <| .take 13 <| .take 14 <| .take 15 <| .take 16 <| .take 17 <| .take 18 <| .take 19 <| .take 20 <| .take 21 <| .take 22 <| .take 23 <| .take 25 <| .take 26 <| .take 27 <| .take 28 <| .take 30 <| .take 31 <| .take 32 <| .take 33 <| .alt 4 (.alt 6 (.take 7 <| .alt 9 (.take 10 <| .take 11 <| .take 24 <| .take 29 <| .take 34 <| .alt 35 (.done) .stop) .stop) .stop) .stop), (18, [], .take 0 <| .take 2 <| .take 5 <| .take 8 <| .take 9 <| .take 10 <| .take 11 <| .take 12 <| .take 13 <| .take 14 <| .take 15 <| .take 16 <| .take 17 <| .take 18 <| .take 19 <| .take 20 <| .take 21 <| .take 22 <| .take 23 <| .take 24 <| .take 25 <| .take 26 <| .alt 1 (.alt 3 (.take 4 <| .alt 6 (.take 7 <| .take 27 <| .alt 28 (.done) .stop) .stop) .stop) .stop), (19, [], .take 0 <| .take 1 <| .take 2 <| .take 3 <| .take 4 <| .take 5 <| .take 6 <| .take 7 <| .take 8 <| .take 9 <| .take 10 <| .take 11 <| .take 12 <| .take 13 <| .take 14 <| .take 15 <| .take 16 <| .take 17 <| .take 18 <| .take 19 <| .take 20 <| .take 21 <| .take 22 <| .take 23 <| .take 24 <| .take 25 <| .alt 26 (.alt 27 (.done) .stop) .stop), (23, [10], .take 0 <| .take 1 <| .take 2 <| .take 3 <| .take 4 <| .take 5 <| .take 6 <| .take 7 <| .take 8 <| .take 9 <| .alt 10 (.done) .stop)] _ _ ?_
          simp [-List.getD_eq_getElem?_getD, c_l01Block, c_l01Turn, S8.pv, p3]
          rw [wrap64 (n := (i : Int) + 1) (by omega)]
          refine ⟨fun h => ?_, fun h => ?_⟩
          · repeat' (first | apply And.intro | intro _)
            all_goals first | omega | decide +kernel | exact ⟨i + 1, ⟨by rw [hrS]; simp only [S8.step, S8.p, S8.q, ← ch_xor, ← maj_xor]; and_intros <;> first | rfl | trivial, by omega⟩, by omega⟩
          · have e : i = 64 := by omega
            subst e
            and_intros <;> rfl
      · rintro ys rfl
        refine hW.vc [(4, [36], .take 0 <| .take 1 <| .take 2 <| .take 3 <| .take 4 <| .take 5 <| .take 6 <| .take 7 <| .take 8 <| .take 9 <| .take 10 <| .take 11 <| .take 12 <| .take 13 <| .take 14 <| .take 15 <| .take 16 <| .take 17 <| .take 18 <| .take 19 <| .take 20 <| .take 21 <| .take 22 <| .take 23 <| .take 24 <| .take 25 <| .take 26 <| .take 27 <| .take 28 <| .take 29 <| .take 30 <| .take 31 <| .take 32 <| .take 33 <| .take 34 <| .take 35 <| .alt 36 (.done) .stop), (10, [32], .take 0 <| .take 1 <| .take 2 <| .take 3 <| .take 4 <| .take 5 <| .take 6 <| .take 7 <| .take 9 <| .take 12 <| .take 13 <| .take 16 <| .take 17 <| .take 18 <| .take 19 <| .take 20 <| .take 22 <| .take 24 <| .take 27 <| .take 28 <| .alt 8 (.alt 10 (.take 11 <| .take 14 <| .take 15 <| .take 21 <| .alt 23 (.alt 25 (.take 26 <| .take 29 <| .take 30 <| .take 31 <| .alt 32 (.done) .stop) .stop) .stop) .stop) .stop), (17, [], .take 0 <| .take 1 <| .take 2 <| .take 3 <| .take 5 <| .take 8 <| .take 12 <| .take 13 <| .take 14 <| .take 15 <| .take 16 <| .take 17 <| .take 18 <| .take 19 <| .take 20 <| .take 21 <| .take 22 <| .take 23 <| .take 25 <| .take 26 <| .take 27 <| .take 28 <| .take 30 <| .take 31 <| .take 32 <| .take 33 <| .alt 4 (.alt 6 (.take 7 <| .alt 9 (.take 10 <| .take 11 <| .take 24 <| .take 29 <| .take 34 <| .alt 35 (.done) .stop) .stop) .stop) .stop), (18, [], .take 0 <| .take 2 <| .take 5 <| .take 8 <| .take 9 <| .take 10 <| .take 11 <| .take 12 <| .take 13 <| .take 14 <| .take 15 <| .take 16 <| .take 17 <| .take 18 <| .take 19 <| .take 20 <| .take 21 <| .take 22 <| .take 23 <| .take 24 <| .take 25 <| .take 26 <| .alt 1 (.alt 3 (.take 4 <| .alt 6 (.take 7 <| .take 27 <| .alt 28 (.done) .stop) .stop) .stop) .stop), (19, [], .take 0 <| .take 1 <| .take 2 <| .take 3 <| .take 4 <| .take 5 <| .take 6 <| .take 7 <| .take 8 <| .take 9 <| .take 10 <| .take 11 <| .take 12 <| .take 13 <| .take 14 <| .take 15 <| .take 16 <| .take 17 <| .take 18 <| .take 19 <| .take 20 <| .take 21 <| .take 22 <| .take 23 <| .take 24 <| .take 25 <| .alt 26 (.alt 27 (.done) .stop) .stop), (23, [10], .take 0 <| .take 1 <| .take 2 <| .take 3 <| .take 4 <| .take 5 <| .take 6 <| .take 7 <| .take 8 <| .take 9 <| .alt 10 (.done) .stop)] _ _ ?_
        simp [-List.getD_eq_getElem?_getD, c_l01Block, c_l01Turn]
        refine hW.loopS _ _ _ [.ar 0 (.int .u32), .sl 17 .dp (.int .i64)] (fun ys => ∃ i : Nat, ys = [.list (addP st (rs 64).pv i ++ st.drop i), .int .i64 i] ∧ i ≤ 8) (fun ys => 8 - (nth ys 1).I.toNat) ?_ ?_
        · simp [-List.getD_eq_getElem?_getD, c_l01Block, c_l01Turn]
          exact ⟨0, ⟨rfl, rfl⟩, by omega⟩
        · rintro ys ⟨i, rfl, g1⟩
          refine hW.vc [(4, [36], .take 0 <| .take 1 <| .take 2 <| .take 3 <| .take 4 <| .take 5 <| .take 6 <| .take 7 <| .take 8 <| .take 9 <| .take 10 <| .take 11 <| .take 12 <| .take 13 <| .take 14 <| .take 15 <| .take 16 <| .take 17 <| .take 18 <| .take 19 <| .take 20 <| .take 21 <| .take 22 <| .take 23 <| .take 24 <| .take 25 <| .take 26 <| .take 27 <| .take 28 <| .take 29 <| .take 30 <| .take 31 <| .take 32 <| .take 33 <| .take 34 <| .take 35 <| .alt 36 (.done) .stop), (10, [32], .take 0 <| .take 1 <| .take 2 <| .take 3 <| .take 4 <| .take 5 <| .take 6 <| .take 7 <| .take 9 <| .take 12 <| .take 13 <| .take 16 <| .take 17 <| .take 18 <| .take 19 <| .take 20 <| .take 22 <| .take 24 <| .take 27 <| .take 28 <| .alt 8 (.alt 10 (.take 11 <| .take 14 <| .take 15 <| .take 21 <| .alt 23 (.alt 25 (.take 26 <| .take 29 <| .take 30 <| .take 31 <| .alt 32 (.done) .stop) .stop) .stop) .stop) .stop), (17, [], .take 0 <| .take 1 <| .take 2 <| .take 3 <| .take 5 <| .take 8 <| .take 12 <| .take 13 <| .take 14 <| .take 15 <| .take 16 <| .take 17 <| .take 18 <| .take 19 <| .take 20 <| .take 21 <| .take 22 <| .take 23 <| .take 25 <| .take 26 <| .take 27 <| .take 28 <| .take 30 <| .take 31 <| .take 32 <| .take 33 <| .alt 4 (.alt 6 (.take 7 <| .alt 9 (.take 10 <| .take 11 <| .take 24 <| .take 29 <| .take 34 <| .alt 35 (.done) .stop) .stop) .stop) .stop), (18, [], .take 0 <| .take 2 <| .take 5 <| .take 8 <| .take 9 <| .take 10 <| .take 11 <| .take 12 <| .take 13 <| .take 14 <| .take 15 <| .take 16 <| .take 17 <| .take 18 <| .take 19 <| .take 20 <| .take 21 <| .take 22 <| .take 23 <| .take 24 <| .take 25 <| .take 26 <| .alt 1 (.alt 3 (.take 4 <| .alt 6 (.take 7 <| .take 27 <| .alt 28 (.done) .stop) .stop) .stop) .stop), (19, [], .take 0 <| .take 1 <| .take 2 <| .take 3 <| .take 4 <| .take 5 <| .take 6 <| .take 7 <| .take 8 <| .take 9 <| .take 10 <| .take 11 <| .take 12 <| .take 13 <| .take 14 <| .take 15 <| .take 16 <| .take 17 <| .take 18 <| .take 19 <| .take 20 <| .take 21 <| .take 22 <| .take 23 <| .take 24 <| .take 25 <| .alt 26 (.alt 27 (.done) .stop) .stop), (23, [10], .take 0 <| .take 1 <| .take 2 <| .take 3 <| .take 4 <| .take 5 <| .take 6 <| .take 7 <| .take 8 <| .take 9 <| .alt 10 (.done) .stop)] _ _ ?_
          simp [-List.getD_eq_getElem?_getD, c_l01Block, c_l01Turn]
          rw [wrap64 (n := (i : Int) + 1) (by omega)]
          have al := addP_len st (rs 64).pv i
          have rl : (rs 64).pv.length = 8 := rfl
          refine ⟨fun h => ?_, fun h => ?_⟩
          · rw [drop_at al (by omega), drop_set al (by omega)]
            repeat' (first | apply And.intro | intro _)
            all_goals first | omega | decide +kernel | exact ⟨i + 1, ⟨rfl, by omega⟩, by omega⟩
          · have e : i = 8 := by omega
            subst e
            rw [List.drop_eq_nil_of_le (by omega), List.append_nil, blkP, hrs, hW64]

end Go.Proofs.YtolgjekokdimoaaDoor
end

section
namespace Go.Proofs.YtolgjekokdimoaaDoor
set_option maxRecDepth 100000
set_option linter.unusedSimpArgs false

def szGo (l : Int) : List PV → Int
  | [] => l
  | e :: es => if l - e.S.length < 0 then -1 else szGo (l - e.S.length) es
def szStr (es : List PV) (l : Int) : Int := if l - es.length < 0 then -1 else szGo (l - es.length) es

def c_szStringS : FSpec := ⟨[(.rd, .list .str), (.rd, .int .i64)], [.int .i64], true, fun ps => 0 ≤ (nth ps 1).I, fun ps => [.int .i64 (szStr (nth ps 0).L (nth ps 1).I)], fun _ => []⟩
theorem k_szStringS : FnOk Tryd.prog 53 c_szStringS := by
  refine fn_mk [0, 1, 4, 5] [.tmp 4] (env_nil (tyTab_ok [])) mixed Tryd.func53 rfl (by decide) rfl (by decide) rfl ?_
  intro ps hT hpre W hW
  simp only [c_szStringS, TyA, Ty, Tys] at hT hpre
  obtain ⟨_, _, rfl, ⟨es, rfl, he, hes⟩, _, _, rfl, ⟨l, rfl, hl⟩, rfl⟩ := hT
  simp only [nth_zero, nth_succ, pv_I] at hpre
  refine hW.vc [] _ _ ?_
  simp [-List.getD_eq_getElem?_getD, c_szStringS]
  intro h1
  rw [inR64] at hl
  rw [wrap64 (by omega)]
  refine ⟨fun h => by simp [szStr, h], fun h => ?_⟩
  refine hW.loopS _ _ _ [.sl 1 .dp (.int .i64), .sl 5 .dp (.int .i64)] (fun ys => ∃ (x : Int) (i : Nat), ys = [.int .i64 x, .int .i64 i] ∧ 0 ≤ x ∧ x ≤ l ∧ i ≤ es.length ∧ szStr es l = szGo x (es.drop i)) (fun ys => es.length - (nth ys 1).I.toNat) ?_ ?_
  · simp [-List.getD_eq_getElem?_getD, c_szStringS]
    exact ⟨_, 0, ⟨rfl, rfl⟩, h, by omega, by simp, by simp [szStr, Int.not_lt.2 h]⟩
  · rintro ys ⟨x, i, rfl, h2, h3, h4, h5⟩
    refine hW.vc [] _ _ ?_
    simp [-List.getD_eq_getElem?_getD, c_szStringS]
    refine fun _ => ⟨fun h6 => ⟨h6, fun _ h7 => ?_⟩, fun h6 => ?_⟩
    · rw [drop_nth h6] at h5
      rw [wrap64 (by omega), wrap64 (by omega)]
      simp only [szGo] at h5
      refine ⟨fun h8 => by rw [h5, if_pos h8], fun h8 => ⟨⟨_, i + 1, ⟨rfl, by omega⟩, h8, by omega, by omega, ?_⟩, by omega⟩⟩
      rw [h5, if_neg (by omega)]
    · rw [List.drop_eq_nil_of_le h6] at h5
      exact h5.symm


theorem set_take {out es : List PV} {i : Nat} {x : PV} (h1 : out.take i = es.take i) (h2 : out.length = es.length) (h3 : i < es.length) (h4 : x = nth es i) : (out.set i x).take (i + 1) = es.take (i + 1) := by
  rw [take_nth h3, ← h1, take_nth (by simp; omega), List.take_set_of_le (Nat.le_refl _), nth_eq (by simp; omega), List.getElem_set_self, h4]

def c_toStringS : FSpec := ⟨[(.rd, .list .str)], [.list .str], true, fun ps => (nth ps 0).L.length ≤ 1048576, fun ps => [.list (nth ps 0).L], fun _ => []⟩
theorem k_toStringS : FnOk Tryd.prog 56 c_toStringS := by
  refine fn_mk [0, 2, 3, 4] [.tmp 2] (env_nil (tyTab_ok [])) mixed Tryd.func56 rfl (by decide) rfl (by decide) rfl ?_
  intro ps hT hpre W hW
  simp only [c_toStringS, TyA, Ty, Tys] at hT hpre
  obtain ⟨_, _, rfl, ⟨es, rfl, he, hes⟩, rfl⟩ := hT
  simp only [nth_zero, pv_L] at hpre
  refine hW.vc [] _ _ ?_
  simp [-List.getD_eq_getElem?_getD, c_toStringS]
  refine fun h1 => ⟨by omega, hW.loopS _ _ _ [.sl 3 .dp (.list .str), .sl 4 .dp (.int .i64)] (fun ys => ∃ (out : List PV) (i : Nat), ys = [.list out, .int .i64 i] ∧ i ≤ es.length ∧ out.length = es.length ∧ out.take i = es.take i) (fun ys => es.length - (nth ys 1).I.toNat) ?_ ?_⟩
  · simp [-List.getD_eq_getElem?_getD, c_toStringS]
    exact ⟨_, 0, ⟨rfl, rfl⟩, by simp, by simp, by simp⟩
  · rintro ys ⟨out, i, rfl, h2, h3, h4⟩
    refine hW.vc [] _ _ ?_
    simp [-List.getD_eq_getElem?_getD, c_toStringS]
    refine fun _ => ⟨fun h5 => ⟨h5, fun h6 => ⟨by omega, ?_⟩⟩, fun h5 => ?_⟩
    · obtain ⟨x, hx, _⟩ := hes _ (nth_mem h5)
      rw [wrap64 (by omega)]
      refine ⟨⟨_, i + 1, ⟨rfl, by omega⟩, by omega, by simp [h3], set_take h4 h3 h5 (by rw [hx, pv_S])⟩, by omega⟩
    · rw [List.take_of_length_le (by omega), List.take_of_length_le (by omega)] at h4
      exact h4

/-- Two rows are the same by their elements. -/
def eqL (f : PV → PV → Bool) : List PV → List PV → Bool
  | [], [] => true
  | a :: l, b :: m => f a b && eqL f l m
  | _, _ => false
theorem eqL_len {f : PV → PV → Bool} : ∀ {a b : List PV}, a.length ≠ b.length → eqL f a b = false
  | [], [], h => absurd rfl h
  | [], _ :: _, _ => rfl
  | _ :: _, [], _ => rfl
  | x :: a, y :: b, h => by simp only [eqL, eqL_len (a := a) (b := b) (by simpa using h), Bool.and_false]

def c_eqStringS : FSpec := ⟨[(.rd, .list .str), (.rd, .list .str)], [.bool], true, fun _ => True, fun ps => [.bool (eqL (fun x y => x.S == y.S) (nth ps 0).L (nth ps 1).L)], fun _ => []⟩
theorem k_eqStringS : FnOk Tryd.prog 50 c_eqStringS := by
  refine fn_mk [0, 1, 4, 5] [.tmp 4] (env_nil (tyTab_ok [])) mixed Tryd.func50 rfl (by decide) rfl (by decide) rfl ?_
  intro ps hT hpre W hW
  simp only [c_eqStringS, TyA, Ty, Tys] at hT hpre
  obtain ⟨_, _, rfl, ⟨es, rfl, he, hes⟩, _, _, rfl, ⟨es2, rfl, he2, hes2⟩, rfl⟩ := hT
  refine hW.vc [(6, [], .take 0 <| .take 1 <| .take 2 <| .take 3 <| .take 4 <| .take 5 <| .take 6 <| .take 7 <| .take 8 <| .done)] _ _ ?_
  simp [-List.getD_eq_getElem?_getD, c_eqStringS]
  refine fun h1 h2 => ⟨fun h3 => eqL_len (by omega), fun h3 => ?_⟩
  refine hW.loopS _ _ _ [.sl 5 .dp (.int .i64)] (fun ys => ∃ i : Nat, ys = [.int .i64 i] ∧ i ≤ es.length ∧ eqL (fun x y => x.S == y.S) es es2 = eqL (fun x y => x.S == y.S) (es.drop i) (es2.drop i)) (fun ys => es.length - (nth ys 0).I.toNat) ?_ ?_
  · simp [-List.getD_eq_getElem?_getD, c_eqStringS]
    exact ⟨0, rfl, by simp, by simp⟩
  · rintro ys ⟨i, rfl, h4, h5⟩
    refine hW.vc [(6, [], .take 0 <| .take 1 <| .take 2 <| .take 3 <| .take 4 <| .take 5 <| .take 6 <| .take 7 <| .take 8 <| .done)] _ _ ?_
    simp [-List.getD_eq_getElem?_getD, c_eqStringS]
    refine fun _ => ⟨fun h6 => ⟨by decide +kernel, h6, fun _ => ⟨by omega, fun _ => ?_⟩⟩, fun h6 => ?_⟩
    · rw [drop_nth h6, drop_nth (by omega : i < es2.length), eqL] at h5
      rw [wrap64 (by omega)]
      refine ⟨fun h7 => by rw [h5]; simp [h7], fun h7 => ⟨⟨i + 1, by omega, by omega, by rw [h5]; simp [h7]⟩, by omega⟩⟩
    · rw [h5, List.drop_eq_nil_of_le h6, List.drop_eq_nil_of_le (by omega)]; rfl

end Go.Proofs.YtolgjekokdimoaaDoor
end

section
namespace Go.Proofs.YtolgjekokdimoaaDoor
set_option maxRecDepth 100000
set_option linter.unusedSimpArgs false

theorem wrapU8 {n : Int} (h : 0 ≤ n ∧ n ≤ 255) : IntKind.u8.wrap n = n := by
  simp [IntKind.wrap, IntKind.signed, IntKind.bits]; omega

def digs (n : Nat) : List UInt8 := if h : n = 0 then [] else digs (n / 10) ++ [UInt8.ofNat (48 + n % 10)]
termination_by n
decreasing_by omega
def mtext (k : Int) : List UInt8 := if k ≤ 0 then [109, 48] else 109 :: digs k.toNat

def c_markText : FSpec := ⟨[(.rd, .int .i64)], [.str], true, fun ps => (nth ps 0).I ≤ 1073741824, fun ps => [.str (mtext (nth ps 0).I)], fun _ => []⟩
theorem k_markText : FnOk Tryd.prog 75 c_markText := by
  refine fn_mk [0, 2, 3] [.tmp 2] (env_nil (tyTab_ok [])) mixed Tryd.func75 rfl (by decide) rfl (by decide) rfl ?_
  intro ps hT hpre W hW
  simp only [c_markText, TyA, Ty, Tys] at hT hpre
  obtain ⟨_, _, rfl, ⟨k, rfl, hk⟩, rfl⟩ := hT
  simp only [nth_zero, pv_I] at hpre
  rw [inR64] at hk
  refine hW.vc [] _ _ ?_
  simp [-List.getD_eq_getElem?_getD, c_markText]
  refine ⟨fun h => by rw [mtext, if_pos h], fun h => hW.loopS _ _ _ [.sl 3 .dp .str, .sl 0 .dp (.int .i64)] (fun ys => ∃ (out : List UInt8) (x : Int), ys = [.str out, .int .i64 x] ∧ 0 ≤ x ∧ x ≤ k ∧ out.length + x ≤ k ∧ digs k.toNat = digs x.toNat ++ out) (fun ys => (nth ys 1).I.toNat) ?_ ?_⟩
  · simp [-List.getD_eq_getElem?_getD, c_markText]
    exact ⟨_, _, ⟨rfl, rfl⟩, by omega, by omega, by simp, by simp⟩
  · rintro ys ⟨out, x, rfl, h2, h3, h4, h5⟩
    refine hW.vc [] _ _ ?_
    simp [-List.getD_eq_getElem?_getD, c_markText, pvBytes]
    obtain ⟨m, rfl⟩ := Int.eq_ofNat_of_zero_le h2
    have e1 : ((m : Int)).tmod 10 = ((m % 10 : Nat) : Int) := rfl
    have e2 : ((m : Int)).tdiv 10 = ((m / 10 : Nat) : Int) := rfl
    rw [e1, e2, wrap64 (n := 48 + ((m % 10 : Nat) : Int)) (by omega), wrap64 (n := ((m / 10 : Nat) : Int)) (by omega), wrapU8 (by omega)]
    refine ⟨fun h6 => ⟨by omega, ⟨_, _, ⟨rfl, rfl⟩, by omega, by omega, by simp only [List.length_cons]; omega, ?_⟩, by omega⟩, fun h6 => ⟨by omega, ?_⟩⟩
    · have h7 : m ≠ 0 := by omega
      have e3 : (48 + ((m % 10 : Nat) : Int)).toNat = 48 + m % 10 := by omega
      rw [h5, e3, Int.toNat_natCast, Int.toNat_natCast, digs, dif_neg h7, List.append_assoc]; rfl
    · have h7 : m = 0 := by omega
      subst h7
      rw [mtext, if_neg (by omega), h5]
      simp [digs]

def markS (k : Int) : Nat → List PV
  | 0 => []
  | n + 1 => .str (mtext k) :: markS (k + 1) n
theorem markS_len : ∀ (n : Nat) (k : Int), (markS k n).length = n
  | 0, _ => rfl
  | n + 1, k => by simp [markS, markS_len n]
theorem markS_snoc : ∀ (n : Nat) (k : Int), markS k (n + 1) = markS k n ++ [.str (mtext (k + n))]
  | 0, k => by simp [markS]
  | n + 1, k => by
    rw [markS, markS_snoc n (k + 1), markS, List.cons_append]
    simp only [List.cons.injEq, true_and, List.append_cancel_left_eq, and_true, PV.str.injEq]
    congr 1; omega

theorem nth_set {l : List PV} {i : Nat} {x : PV} (h : i < l.length) : nth (l.set i x) i = x := by simp [nth, h]
theorem mark_step {m es : List PV} {i : Nat} {x : PV} {m' : List PV} (h1 : m.length = i) (h2 : i < es.length) (h3 : m' = m ++ [x]) : (m ++ es.drop i).set i x = m' ++ es.drop (i + 1) := by
  subst h3
  rw [List.set_append_right _ _ (by omega), h1, Nat.sub_self, drop_nth h2, List.set_cons_zero, List.append_assoc, List.singleton_append]

def c_markStringS : FSpec := ⟨[(.mt, .list .str), (.rd, .int .i64)], [.int .i64], true, fun ps => 0 ≤ (nth ps 1).I ∧ (nth ps 1).I + (nth ps 0).L.length ≤ 1073741824, fun ps => [.int .i64 ((nth ps 1).I + (nth ps 0).L.length)], fun ps => [.list (markS (nth ps 1).I (nth ps 0).L.length)]⟩
theorem k_markStringS : FnOk Tryd.prog 51 c_markStringS := by
  refine fn_mk [0, 1, 4, 5] [.tmp 4] (env_cons (cs := []) k_markText (env_nil (tyTab_ok []))) mixed Tryd.func51 rfl (by decide) rfl (by decide) rfl ?_
  intro ps hT hpre W hW
  simp only [c_markStringS, TyA, Ty, Tys] at hT hpre
  obtain ⟨_, _, rfl, ⟨es, rfl, hes, tes⟩, _, _, rfl, ⟨k, rfl, hk⟩, rfl⟩ := hT
  simp only [nth_zero, nth_succ, pv_I, pv_L] at hpre
  refine hW.vc [] _ _ ?_
  simp [-List.getD_eq_getElem?_getD, c_markStringS, c_markText]
  refine hW.loopS _ _ _ [.ar 0 .str, .sl 1 .dp (.int .i64), .sl 5 .dp (.int .i64)] (fun ys => ∃ i : Nat, ys = [.list (markS k i ++ es.drop i), .int .i64 (k + i), .int .i64 i] ∧ i ≤ es.length) (fun ys => es.length - (nth ys 2).I.toNat) ?_ ?_
  · simp [-List.getD_eq_getElem?_getD, c_markStringS, c_markText]
    exact ⟨0, ⟨by simp [markS], by omega, rfl⟩, by omega⟩
  · rintro ys ⟨i, rfl, h2⟩
    refine hW.vc [] _ _ ?_
    simp [-List.getD_eq_getElem?_getD, c_markStringS, c_markText]
    rw [markS_len]
    refine fun _ => ⟨fun h3 => ⟨by omega, by omega, by omega, ⟨i + 1, ⟨?_, by rw [wrap64 (by omega)]; omega, by rw [wrap64 (by omega)]; omega⟩, by omega⟩, by rw [wrap64 (by omega)]; omega⟩, fun h3 => ?_⟩
    · exact mark_step (markS_len i k) (by omega) (markS_snoc i k)
    · have : i = es.length := by omega
      subst this
      simp

def heldGo (f : Int → PV → Bool) (d : Int) (k : Int) : List PV → Int
  | [] => k
  | e :: es => if f k e then heldGo f d (k + d) es else -1
theorem held_neg {f : Int → PV → Bool} {d : Int} (hd : 0 ≤ d) : ∀ {es : List PV} {k : Int}, 0 ≤ k → heldGo f d k es < 0 → heldGo f d k es = -1
  | [], k, hk, h => by simp only [heldGo] at h; omega
  | e :: es, k, hk, h => by
    simp only [heldGo] at h ⊢
    split
    · rename_i h1
      rw [if_pos h1] at h
      exact held_neg hd (by omega) h
    · rfl
def heldS1 (k : Int) (e : PV) : Bool := e.S == mtext k
theorem held_marked {f : Int → PV → Bool} {d : Int} {m : Int → Nat → List PV} (h0 : ∀ k, m k 0 = []) (h1 : ∀ k n, ∃ x, m k (n + 1) = x :: m (k + d) n ∧ f k x = true) : ∀ (n : Nat) (k : Int), heldGo f d k (m k n) = k + d * n
  | 0, k => by simp [h0, heldGo]
  | n + 1, k => by
    obtain ⟨x, h2, h3⟩ := h1 k n
    rw [h2, heldGo, if_pos h3, held_marked h0 h1 n, Int.natCast_add, Int.mul_add]; omega
theorem heldS_mark (n : Nat) (k : Int) : heldGo heldS1 1 k (markS k n) = k + n := by
  rw [held_marked (m := markS) (fun _ => rfl) (fun k n => ⟨_, rfl, by simp [heldS1, pv_S]⟩), Int.one_mul]

def c_heldStringS : FSpec := ⟨[(.rd, .list .str), (.rd, .int .i64)], [.int .i64], true, fun ps => 0 ≤ (nth ps 1).I ∧ (nth ps 1).I + (nth ps 0).L.length ≤ 1073741824, fun ps => [.int .i64 (heldGo heldS1 1 (nth ps 1).I (nth ps 0).L)], fun _ => []⟩
theorem k_heldStringS : FnOk Tryd.prog 52 c_heldStringS := by
  refine fn_mk [0, 1, 4, 5] [.tmp 4] (env_cons (cs := []) k_markText (env_nil (tyTab_ok []))) mixed Tryd.func52 rfl (by decide) rfl (by decide) rfl ?_
  intro ps hT hpre W hW
  simp only [c_heldStringS, TyA, Ty, Tys] at hT hpre
  obtain ⟨_, _, rfl, ⟨es, rfl, hes, tes⟩, _, _, rfl, ⟨k, rfl, hk⟩, rfl⟩ := hT
  simp only [nth_zero, nth_succ, pv_I, pv_L] at hpre
  refine hW.vc [(4, [], .take 0 <| .take 1 <| .take 2 <| .take 3 <| .take 4 <| .alt 5 (.take 6 <| .done) .stop)] _ _ ?_
  simp [-List.getD_eq_getElem?_getD, c_heldStringS, c_markText]
  refine hW.loopS _ _ _ [.sl 1 .dp (.int .i64), .sl 5 .dp (.int .i64)] (fun ys => ∃ i : Nat, ys = [.int .i64 (k + i), .int .i64 i] ∧ i ≤ es.length ∧ heldGo heldS1 1 k es = heldGo heldS1 1 (k + i) (es.drop i)) (fun ys => es.length - (nth ys 1).I.toNat) ?_ ?_
  · simp [-List.getD_eq_getElem?_getD, c_heldStringS, c_markText]
    exact ⟨0, ⟨by omega, rfl⟩, by omega, by simp⟩
  · rintro ys ⟨i, rfl, h2, h3⟩
    refine hW.vc [(4, [], .take 0 <| .take 1 <| .take 2 <| .take 3 <| .take 4 <| .alt 5 (.take 6 <| .done) .stop)] _ _ ?_
    simp [-List.getD_eq_getElem?_getD, c_heldStringS, c_markText]
    refine fun _ => ⟨fun h4 => ⟨by decide +kernel, h4, fun _ => ⟨by omega, fun h5 => ?_, fun h5 => ?_⟩⟩, fun h4 => ?_⟩
    · rw [h3, drop_nth h4, heldGo, if_neg (by simpa [heldS1] using h5)]
    · rw [wrap64 (by omega), wrap64 (by omega)]
      refine ⟨⟨i + 1, ⟨by omega, by omega⟩, by omega, ?_⟩, by omega⟩
      rw [h3, drop_nth h4, heldGo, if_pos (by simpa [heldS1] using h5), Int.natCast_add, ← Int.add_assoc]; rfl
    · rw [h3, List.drop_eq_nil_of_le h4]; rfl

/-- Rows marked. -/
def markR (k : Int) : Nat → List PV
  | 0 => []
  | n + 1 => .agg [.int .i64 k, .str (mtext (k + 1))] :: markR (k + 2) n
theorem markR_len : ∀ (n : Nat) (k : Int), (markR k n).length = n
  | 0, _ => rfl
  | n + 1, k => by simp [markR, markR_len n]
theorem markR_snoc : ∀ (n : Nat) (k : Int), markR k (n + 1) = markR k n ++ [.agg [.int .i64 (k + 2 * n), .str (mtext (k + 2 * n + 1))]]
  | 0, k => by simp [markR]
  | n + 1, k => by
    rw [markR, markR_snoc n (k + 2), markR, List.cons_append]
    have e : k + 2 + 2 * (n : Int) = k + 2 * ((n + 1 : Nat) : Int) := by omega
    rw [e]
def c_markRowS : FSpec := ⟨[(.mt, .list (.agg [.int .i64, .str])), (.rd, .int .i64)], [.int .i64], true, fun ps => 0 ≤ (nth ps 1).I ∧ (nth ps 1).I + 2 * (nth ps 0).L.length ≤ 1073741823, fun ps => [.int .i64 ((nth ps 1).I + 2 * (nth ps 0).L.length)], fun ps => [.list (markR (nth ps 1).I (nth ps 0).L.length)]⟩
def heldR1 (k : Int) (e : PV) : Bool := (nth e.A 0).I == k && (nth e.A 1).S == mtext (k + 1)
theorem heldR_mark (n : Nat) (k : Int) : heldGo heldR1 2 k (markR k n) = k + 2 * n := by
  rw [held_marked (m := markR) (fun _ => rfl) (fun k n => ⟨_, rfl, by simp [heldR1, pv_S, pv_I, pv_A, nth_zero, nth_succ]⟩)]

def c_heldRowS : FSpec := ⟨[(.rd, .list (.agg [.int .i64, .str])), (.rd, .int .i64)], [.int .i64], true, fun ps => 0 ≤ (nth ps 1).I ∧ (nth ps 1).I + 2 * (nth ps 0).L.length ≤ 1073741823, fun ps => [.int .i64 (heldGo heldR1 2 (nth ps 1).I (nth ps 0).L)], fun _ => []⟩
def c_markView : FSpec := ⟨[(.mt, .agg [.int .i64, .int .i64, .bool, .int .i64, .int .i64, .list (.agg [.int .i64, .str])]), (.rd, .int .i64)], [.int .i64], true, fun ps => 0 ≤ (nth ps 1).I ∧ (nth ps 1).I + 2 * (nth (nth ps 0).A 5).L.length ≤ 1073741823, fun ps => [.int .i64 ((nth ps 1).I + 2 * (nth (nth ps 0).A 5).L.length)],
  fun ps => [.agg [nth (nth ps 0).A 0, nth (nth ps 0).A 1, nth (nth ps 0).A 2, nth (nth ps 0).A 3, nth (nth ps 0).A 4, .list (markR (nth ps 1).I (nth (nth ps 0).A 5).L.length)]]⟩
def c_heldView : FSpec := ⟨[(.rd, .agg [.int .i64, .int .i64, .bool, .int .i64, .int .i64, .list (.agg [.int .i64, .str])]), (.rd, .int .i64)], [.int .i64], true, fun ps => 0 ≤ (nth ps 1).I ∧ (nth ps 1).I + 2 * (nth (nth ps 0).A 5).L.length ≤ 1073741823, fun ps => [.int .i64 (heldGo heldR1 2 (nth ps 1).I (nth (nth ps 0).A 5).L)], fun _ => []⟩
def c_markMirror : FSpec := ⟨[(.mt, .agg [.int .i64, .int .i64, .int .i64, .list .str]), (.rd, .int .i64)], [.int .i64], true, fun ps => 0 ≤ (nth ps 1).I ∧ (nth ps 1).I + (nth (nth ps 0).A 3).L.length ≤ 1073741823, fun ps => [.int .i64 ((nth ps 1).I + (nth (nth ps 0).A 3).L.length)],
  fun ps => [.agg [nth (nth ps 0).A 0, nth (nth ps 0).A 1, nth (nth ps 0).A 2, .list (markS (nth ps 1).I (nth (nth ps 0).A 3).L.length)]]⟩
theorem k_markMirror : FnOk Tryd.prog 29 c_markMirror := by
  refine fn_mk [0, 1, 2, 4] [.tmp 4] (env_cons (cs := []) k_markStringS (env_nil (tyTab_ok []))) mixed Tryd.func29 rfl (by decide) rfl (by decide) rfl ?_
  intro ps hT hpre W hW
  simp only [c_markMirror, TyA, Ty, Tys] at hT hpre
  obtain ⟨_, _, rfl, ⟨_, rfl, _, _, rfl, ⟨n, rfl, hn⟩, _, _, rfl, ⟨w, rfl, hw⟩, _, _, rfl, ⟨h, rfl, hh⟩, _, _, rfl, ⟨es, rfl, hes, tes⟩, rfl⟩, _, _, rfl, ⟨k, rfl, hk⟩, rfl⟩ := hT
  simp only [nth_zero, nth_succ, pv_I, pv_L, pv_A] at hpre
  refine hW.vc [] _ _ ?_
  simp [-List.getD_eq_getElem?_getD, c_markMirror, c_markStringS]
  omega
def c_heldMirror : FSpec := ⟨[(.rd, .agg [.int .i64, .int .i64, .int .i64, .list .str]), (.rd, .int .i64)], [.int .i64], true, fun ps => 0 ≤ (nth ps 1).I ∧ (nth ps 1).I + (nth (nth ps 0).A 3).L.length ≤ 1073741823, fun ps => [.int .i64 (heldGo heldS1 1 (nth ps 1).I (nth (nth ps 0).A 3).L)], fun _ => []⟩
theorem k_heldMirror : FnOk Tryd.prog 30 c_heldMirror := by
  refine fn_mk [0, 1, 2, 4] [.tmp 4] (env_cons (cs := []) k_heldStringS (env_nil (tyTab_ok []))) mixed Tryd.func30 rfl (by decide) rfl (by decide) rfl ?_
  intro ps hT hpre W hW
  simp only [c_heldMirror, TyA, Ty, Tys] at hT hpre
  obtain ⟨_, _, rfl, ⟨_, rfl, _, _, rfl, ⟨n, rfl, hn⟩, _, _, rfl, ⟨w, rfl, hw⟩, _, _, rfl, ⟨h, rfl, hh⟩, _, _, rfl, ⟨es, rfl, hes, tes⟩, rfl⟩, _, _, rfl, ⟨k, rfl, hk⟩, rfl⟩ := hT
  simp only [nth_zero, nth_succ, pv_I, pv_L, pv_A] at hpre
  refine hW.vc [] _ _ ?_
  simp [-List.getD_eq_getElem?_getD, c_heldMirror, c_heldStringS]
  exact ⟨by omega, fun h1 => (held_neg (by omega) (by omega) h1).symm⟩

end Go.Proofs.YtolgjekokdimoaaDoor
end

section
namespace Go.Proofs.YtolgjekokdimoaaDoor
set_option maxRecDepth 100000
set_option linter.unusedSimpArgs false

def numB (l : List UInt8) : Int := l.foldl (fun n b => n * 256 + b.toNat) 0
theorem numB_snoc (l : List UInt8) (b : UInt8) : numB (l ++ [b]) = numB l * 256 + b.toNat := by simp [numB]
theorem numB_take {l : List UInt8} {i : Nat} (h : i < l.length) : numB (l.take (i + 1)) = numB (l.take i) * 256 + (l.getD i 0).toNat := by
  rw [List.take_succ_eq_append_getElem h, numB_snoc]; simp [h]
theorem numB_bound : ∀ (n : Nat) (l : List UInt8), l.length = n → 0 ≤ numB l ∧ numB l < 256 ^ n
  | 0, l, h => by have := List.eq_nil_of_length_eq_zero h; subst this; simp [numB]
  | n + 1, l, h => by
    have h0 : l ≠ [] := by intro e; subst e; simp at h
    have h1 := List.dropLast_concat_getLast h0
    have h2 := numB_bound n l.dropLast (by simp [h])
    have h3 := (l.getLast h0).toNat_lt
    rw [← h1, numB_snoc, Int.pow_succ]
    omega
theorem numB_le {l : List UInt8} (h : l.length ≤ 7) (i : Nat) : 0 ≤ numB (l.take i) ∧ numB (l.take i) < 72057594037927936 := by
  have h1 := numB_bound (l.take i).length (l.take i) rfl
  refine ⟨h1.1, Int.lt_of_lt_of_le h1.2 ?_⟩
  have h2 : (l.take i).length ≤ 7 := by simp; omega
  have h3 : (256 : Int) ^ (l.take i).length ≤ 256 ^ 7 := by
    have := Nat.pow_le_pow_right (n := 256) (by decide) h2
    exact_mod_cast this
  exact Int.le_trans h3 (by decide)
theorem numB_le6 {l : List UInt8} (h : l.length ≤ 7) {i : Nat} (hi : i < l.length) : 0 ≤ numB (l.take i) ∧ numB (l.take i) < 281474976710656 := by
  have h1 := numB_bound (l.take i).length (l.take i) rfl
  refine ⟨h1.1, Int.lt_of_lt_of_le h1.2 ?_⟩
  have h2 : (l.take i).length ≤ 6 := by simp; omega
  have h3 : (256 : Int) ^ (l.take i).length ≤ 256 ^ 6 := by
    have := Nat.pow_le_pow_right (n := 256) (by decide) h2
    exact_mod_cast this
  exact Int.le_trans h3 (by decide)

theorem or_byte {m : Int} {b : UInt8} (h0 : 0 ≤ m) (h1 : m < 281474976710656) : orI .i64 (m * 256) b.toNat = m * 256 + b.toNat := by
  obtain ⟨k, rfl⟩ := Int.eq_ofNat_of_zero_le h0
  have hb := b.toNat_lt
  unfold orI
  have hw : IntKind.i64.bits = 64 := rfl
  rw [hw]
  have e1 : (BitVec.ofInt 64 ((k : Int) * 256)).toNat = k * 256 := by
    rw [show (k : Int) * 256 = ((k * 256 : Nat) : Int) by simp, BitVec.ofInt_natCast, BitVec.toNat_ofNat]
    exact Nat.mod_eq_of_lt (by omega)
  have e2 : (BitVec.ofInt 64 (b.toNat : Int)).toNat = b.toNat := by
    rw [BitVec.ofInt_natCast, BitVec.toNat_ofNat]
    exact Nat.mod_eq_of_lt (by omega)
  rw [BitVec.toNat_or, e1, e2]
  have e3 : k * 256 ||| b.toNat = k * 256 + b.toNat := by
    have := Nat.shiftLeft_add_eq_or_of_lt (i := 8) (b := b.toNat) (by omega) k
    rw [Nat.shiftLeft_eq] at this
    exact this.symm
  rw [e3]
  rw [wrap64 (by omega)]
  simp

theorem conv_byte (b : UInt8) : IntKind.i64.wrap (b.toNat : Int) = b.toNat := wrap64 (by have := b.toNat_lt; omega)

def c_l02Of : FSpec := ⟨[(.rd, .str)], [.int .i64], true, fun ps => (nth ps 0).S.length ≤ 7, fun ps => [.int .i64 (numB (nth ps 0).S)], fun _ => []⟩
theorem k_l02Of : FnOk Tryd.prog 91 c_l02Of := by
  refine fn_mk [0, 2, 3, 4] [.tmp 2] (env_nil (tyTab_ok [])) mixed Tryd.func91 rfl (by decide) rfl (by decide) rfl ?_
  intro ps hT hpre W hW
  simp only [c_l02Of, TyA, Ty, Tys] at hT hpre
  obtain ⟨_, _, rfl, ⟨l, rfl, hl⟩, rfl⟩ := hT
  simp only [nth_zero, pv_S] at hpre
  refine hW.vc [] _ _ ?_
  simp [-List.getD_eq_getElem?_getD, c_l02Of]
  refine hW.loopS _ _ _ [.sl 3 .dp (.int .i64), .sl 4 .dp (.int .i64)] (fun ys => ∃ i : Nat, ys = [.int .i64 (numB (l.take i)), .int .i64 i] ∧ i ≤ l.length) (fun ys => l.length - (nth ys 1).I.toNat) ?_ ?_
  · simp [-List.getD_eq_getElem?_getD, c_l02Of]
    exact ⟨0, ⟨by simp [numB], rfl⟩, by simp⟩
  · rintro ys ⟨i, rfl, h4⟩
    refine hW.vc [] _ _ ?_
    simp [-List.getD_eq_getElem?_getD, c_l02Of]
    refine fun _ => ⟨fun h6 => ⟨h6, ?_⟩, fun h6 => by rw [List.take_of_length_le h6]⟩
    have h7 := numB_le hpre i
    have h8 := numB_le6 hpre h6
    have h9 := (l.getD i 0).toNat_lt
    rw [conv_byte, wrap64 (n := numB (l.take i) * 256) (by omega), wrap64 (by omega), wrap64 (by omega)]
    exact ⟨⟨i + 1, ⟨(numB_take h6).symm, by omega⟩, by omega⟩, by omega⟩

def c_bigNumber : FSpec := c_l02Of
theorem k_bigNumber : FnOk Tryd.prog 109 c_bigNumber := by
  refine fn_mk [0, 2, 3, 4, 6, 7] [.tmp 2] (env_nil (tyTab_ok [])) mixed Tryd.func109 rfl (by decide) rfl (by decide) rfl ?_
  intro ps hT hpre W hW
  simp only [c_bigNumber, TyA, Ty, Tys] at hT hpre
  simp only [c_l02Of, TyA, Ty] at hT hpre
  obtain ⟨_, _, rfl, ⟨l, rfl, hl⟩, rfl⟩ := hT
  simp only [nth_zero, pv_S] at hpre
  refine hW.vc [] _ _ ?_
  simp [-List.getD_eq_getElem?_getD, c_bigNumber, c_l02Of, c_l02Of]
  intro h0
  refine hW.loopS _ _ _ [.sl 3 .dp (.int .i64), .sl 7 .dp (.int .i64)] (fun ys => ∃ i : Nat, ys = [.int .i64 (numB (l.take i)), .int .i64 i] ∧ i ≤ l.length) (fun ys => l.length - (nth ys 1).I.toNat) ?_ ?_
  · simp [-List.getD_eq_getElem?_getD, c_bigNumber, c_l02Of]
    exact ⟨0, ⟨by simp [numB], rfl⟩, by simp⟩
  · rintro ys ⟨i, rfl, h4⟩
    refine hW.vc [] _ _ ?_
    simp [-List.getD_eq_getElem?_getD, c_bigNumber, c_l02Of, c_l02Of]
    refine ⟨fun h6 => ⟨h6, ?_⟩, fun h6 => by rw [List.take_of_length_le h6]⟩
    have h7 := numB_le hpre i
    have h8 := numB_le6 hpre h6
    have h9 := (l.getD i 0).toNat_lt
    rw [conv_byte, show shlI IntKind.i64 (numB (List.take i l)) 8 = IntKind.i64.wrap (numB (l.take i) * 256) from rfl, wrap64 (n := numB (l.take i) * 256) (by omega), wrap64 (by omega), or_byte h8.1 h8.2]
    exact ⟨⟨i + 1, ⟨(numB_take h6).symm, by omega⟩, by omega⟩, by omega⟩

def runeOk (n : Int) : Bool := inB n 0 1114111 && !inB n 55296 57343
def isRuneB (n : Int) : Bool := inB n 32 1114111 && (n != 127) && !inB n 55296 57343
def cellB (r k : Int) : Bool := runeOk r && decide (r ≥ 32) && (r != 127) && inB k 0 127

def c_l03RuneOK : FSpec := ⟨[(.rd, .int .i64)], [.bool], true, fun _ => True, fun ps => [.bool (runeOk (nth ps 0).I)], fun _ => []⟩
theorem k_l03RuneOK : FnOk Tryd.prog 107 c_l03RuneOK := by
  refine fn_mk [0, 2] [.tmp 2] (env_cons (cs := []) k_l01In (env_nil (tyTab_ok []))) mixed Tryd.func107 rfl (by decide) rfl (by decide) rfl ?_
  intro ps hT hpre W hW
  simp only [c_l03RuneOK, TyA, Ty, Tys] at hT hpre
  obtain ⟨_, _, rfl, ⟨a, rfl, ha⟩, rfl⟩ := hT
  refine hW.vc [] _ _ ?_
  simp [-List.getD_eq_getElem?_getD, c_l03RuneOK, c_l01In, c_within, c_within]
  rfl

def c_isRune : FSpec := ⟨[(.rd, .int .i64)], [.bool], true, fun _ => True, fun ps => [.bool (isRuneB (nth ps 0).I)], fun _ => []⟩
theorem k_isRune : FnOk Tryd.prog 108 c_isRune := by
  refine fn_mk [0, 2] [.tmp 2] (env_cons (cs := []) k_within (env_nil (tyTab_ok []))) mixed Tryd.func108 rfl (by decide) rfl (by decide) rfl ?_
  intro ps hT hpre W hW
  simp only [c_isRune, TyA, Ty, Tys] at hT hpre
  obtain ⟨_, _, rfl, ⟨a, rfl, ha⟩, rfl⟩ := hT
  refine hW.vc [] _ _ ?_
  simp [-List.getD_eq_getElem?_getD, c_isRune, c_within]
  simp only [isRuneB]; congr 2

def c_l04Cell : FSpec := ⟨[(.rd, .agg [.int .i64, .int .i64])], [.bool], true, fun _ => True, fun ps => [.bool (cellB (nth (nth ps 0).A 0).I (nth (nth ps 0).A 1).I)], fun _ => []⟩
theorem k_l04Cell : FnOk Tryd.prog 90 c_l04Cell := by
  refine fn_mk [0, 1, 2] [.tmp 2] (env_cons (cs := []) k_l01In (env_cons (cs := []) k_l03RuneOK (env_nil (tyTab_ok [])))) mixed Tryd.func90 rfl (by decide) rfl (by decide) rfl ?_
  intro ps hT hpre W hW
  simp only [c_l04Cell, TyA, Ty, Tys] at hT hpre
  obtain ⟨_, _, rfl, ⟨_, rfl, _, _, rfl, ⟨a, rfl, ha⟩, _, _, rfl, ⟨b, rfl, hb⟩, rfl⟩, rfl⟩ := hT
  refine hW.vc [] _ _ ?_
  simp [-List.getD_eq_getElem?_getD, c_l04Cell, c_l03RuneOK, c_l01In, c_within, c_within]
  simp only [cellB]; congr 2

/-- A row is so many cells of four bytes each. -/
def rowGo : List UInt8 → Bool
  | [] => true
  | a :: b :: c :: d :: l => isRuneB (numB [a, b, c]) && decide (d.toNat ≤ 127) && rowGo l
  | _ => false
def rowB (l : List UInt8) (w : Int) : Bool := decide ((l.length : Int) = 4 * w) && rowGo l

theorem rowGo_step {r : List UInt8} (h : 4 ≤ r.length) : rowGo r = (isRuneB (numB (r.take 3)) && decide ((r.getD 3 0).toNat ≤ 127) && rowGo (r.drop 4)) := by
  match r, h with
  | a :: b :: c :: d :: l, _ => rfl
theorem cell_eq (n : Int) (d : UInt8) : cellB n d.toNat = (isRuneB n && decide (d.toNat ≤ 127)) := by
  rw [Bool.eq_iff_iff]
  simp [cellB, isRuneB, runeOk, inB]
  omega
theorem row_off {l : List UInt8} {n : Nat} (i : Nat) : (l.drop n).getD i 0 = l.getD (n + i) 0 := by
  simp only [List.getD_eq_getElem?_getD, List.getElem?_drop]

def c_isRow : FSpec := ⟨[(.rd, .str), (.rd, .int .i64)], [.bool], true, fun ps => 0 ≤ (nth ps 1).I ∧ (nth ps 1).I ≤ 1000, fun ps => [.bool (rowB (nth ps 0).S (nth ps 1).I)], fun _ => []⟩
theorem k_isRow : FnOk Tryd.prog 94 c_isRow := by
  refine fn_mk [0, 1, 4] [.tmp 4] (env_cons (cs := []) k_isRune (env_cons (cs := []) k_bigNumber (env_nil (tyTab_ok [])))) mixed Tryd.func94 rfl (by decide) rfl (by decide) rfl ?_
  intro ps hT hpre W hW
  simp only [c_isRow, TyA, Ty, Tys] at hT hpre
  obtain ⟨_, _, rfl, ⟨l, rfl, hl⟩, _, _, rfl, ⟨w, rfl, hw⟩, rfl⟩ := hT
  simp only [nth_zero, nth_succ, pv_S, pv_I] at hpre
  refine hW.vc [] _ _ ?_
  simp [-List.getD_eq_getElem?_getD, c_isRow, c_bigNumber, c_isRune, c_l02Of]
  intro h1
  rw [wrap64 (by omega)]
  refine ⟨fun h => by simp [rowB, h], fun h => ?_⟩
  refine hW.loopS _ _ _ [.sl 0 .dp .str] (fun ys => ∃ r, ys = [.str r] ∧ (∃ k, r.length = 4 * k) ∧ r.length ≤ l.length ∧ rowB l w = rowGo r) (fun ys => (nth ys 0).S.length) ?_ ?_
  · simp [-List.getD_eq_getElem?_getD, c_isRow, c_bigNumber, c_isRune, c_l02Of]
    exact ⟨⟨w.toNat, by omega⟩, by simp [rowB, h]⟩
  · rintro ys ⟨r, rfl, ⟨k, hk⟩, h2, h3⟩
    refine hW.vc [] _ _ ?_
    simp [-List.getD_eq_getElem?_getD, c_isRow, c_bigNumber, c_isRune, c_l02Of]
    refine ⟨fun h4 => ?_, fun h4 => by rw [h3, h4]; rfl⟩
    have h5 : r.length ≠ 0 := fun e => h4 (List.eq_nil_of_length_eq_zero e)
    have h6 : 4 ≤ r.length := by omega
    rw [rowGo_step h6] at h3
    refine ⟨by omega, by omega, fun h7 => ⟨h7, by omega⟩, fun h7 => ?_, fun h7 h8 => ⟨by omega, ⟨⟨k - 1, by omega⟩, by omega, ?_⟩, by omega⟩⟩
    · rw [h3]
      rcases h7 with h7 | h7
      · simp [h7]
      · have : ¬ (r.getD 3 0).toNat ≤ 127 := by omega
        simp only [this, decide_false, Bool.and_false, Bool.false_and]
    · have : (r.getD 3 0).toNat ≤ 127 := by omega
      rw [h3, h7, List.take_of_length_le (by simp)]
      simp only [this, decide_true, Bool.and_true, Bool.true_and]

def c_l11Row : FSpec := ⟨[(.rd, .int .i64), (.rd, .str)], [.bool], true, fun ps => 0 ≤ (nth ps 0).I ∧ (nth ps 0).I ≤ 1000, fun ps => [.bool (rowB (nth ps 1).S (nth ps 0).I)], fun _ => []⟩
theorem k_l11Row : FnOk Tryd.prog 76 c_l11Row := by
  refine fn_mk [0, 1, 4, 5] [.tmp 4] (env_cons (cs := []) k_l04Cell (env_cons (cs := []) k_l02Of (env_nil (tyTab_ok [])))) mixed Tryd.func76 rfl (by decide) rfl (by decide) rfl ?_
  intro ps hT hpre W hW
  simp only [c_l11Row, TyA, Ty, Tys] at hT hpre
  obtain ⟨_, _, rfl, ⟨w, rfl, hw⟩, _, _, rfl, ⟨l, rfl, hl⟩, rfl⟩ := hT
  simp only [nth_zero, nth_succ, pv_S, pv_I] at hpre
  refine hW.vc [(6, [], .take 0 <| .take 1 <| .take 2 <| .take 3 <| .take 4 <| .take 5 <| .take 6 <| .take 8 <| .take 9 <| .take 10 <| .take 11 <| .take 12 <| .take 13 <| .alt 7 (.take 14 <| .alt 15 (.take 16 <| .done) .stop) .stop)] _ _ ?_
  simp [-List.getD_eq_getElem?_getD, c_l11Row, c_l02Of, c_l04Cell]
  intro h1
  rw [wrap64 (by omega)]
  refine ⟨fun h => by simp [rowB, h], fun h => ?_⟩
  refine hW.loopS _ _ _ [.sl 5 .dp (.int .i64)] (fun ys => ∃ x : Nat, ys = [.int .i64 x] ∧ (x : Int) ≤ w ∧ rowB l w = rowGo (l.drop (4 * x))) (fun ys => (w - (nth ys 0).I).toNat) ?_ ?_
  · simp [-List.getD_eq_getElem?_getD, c_l11Row, c_l02Of, c_l04Cell]
    exact ⟨0, rfl, by omega, by simp [rowB, h]⟩
  · rintro ys ⟨x, rfl, h2, h3⟩
    refine hW.vc [(6, [], .take 0 <| .take 1 <| .take 2 <| .take 3 <| .take 4 <| .take 5 <| .take 6 <| .take 8 <| .take 9 <| .take 10 <| .take 11 <| .take 12 <| .take 13 <| .alt 7 (.take 14 <| .alt 15 (.take 16 <| .done) .stop) .stop)] _ _ ?_
    simp [-List.getD_eq_getElem?_getD, c_l11Row, c_l02Of, c_l04Cell]
    refine ⟨fun h4 => ⟨by decide +kernel, ?_⟩, fun h4 => ?_⟩
    · rw [wrap64 (n := 4 * (x : Int)) (by omega), wrap64 (n := 4 * (x : Int) + 3) (by omega), conv_byte, cell_eq]
      have e1 : (4 * (x : Int)).toNat = 4 * x := by omega
      have e2 : (4 * (x : Int) + 3).toNat = 4 * x + 3 := by omega
      have e3 : 4 * x + 3 - 4 * x = 3 := by omega
      rw [e1, e2, e3]
      have h5 : 4 ≤ (l.drop (4 * x)).length := by simp; omega
      rw [rowGo_step h5, row_off, List.drop_drop] at h3
      rw [wrap64 (by omega)]
      refine ⟨⟨by omega, by omega, by omega⟩, ⟨by omega, by omega⟩, by omega, fun h6 => by rw [h3, h6]; rfl, fun h6 => ⟨⟨x + 1, by omega, by omega, ?_⟩, by omega⟩⟩
      rw [h3, h6, Bool.true_and, Nat.mul_add]
    · rw [h3, List.drop_eq_nil_of_le (by omega)]; rfl

end Go.Proofs.YtolgjekokdimoaaDoor
end

section
namespace Go.Proofs.YtolgjekokdimoaaDoor
set_option maxRecDepth 100000
set_option linter.unusedSimpArgs false

def rowsB (es : List PV) (w h : Int) : Bool := decide ((es.length : Int) = h) && es.all fun e => rowB e.S w
/-- The first place from i on. -/
def idxGo (p : PV → Bool) (i : Nat) : List PV → Int
  | [] => -1
  | e :: es => if p e then (i : Int) else idxGo p (i + 1) es
theorem idxGo_any (p : PV → Bool) : ∀ (es : List PV) (i : Nat), decide (0 ≤ idxGo p i es) = es.any p
  | [], i => by simp [idxGo]
  | e :: es, i => by
    simp only [idxGo, List.any_cons]
    by_cases h : p e = true
    · simp [h]
    · simp [h, idxGo_any p es (i + 1)]

def wOk (w : Int) : Prop := 0 ≤ w ∧ w ≤ 1000

def c_areRows1 : FSpec := ⟨[(.rd, .str), (.rd, .box [.int .i64])], [.bool], true, fun ps => wOk (nth (nth ps 1).A 0).I, fun ps => [.bool (!rowB (nth ps 0).S (nth (nth ps 1).A 0).I)], fun _ => []⟩
theorem k_areRows1 : FnOk Tryd.prog 93 c_areRows1 := by
  refine fn_mk [0, 1, 3] [.tmp 3] (env_cons (cs := []) k_isRow (env_nil (tyTab_ok []))) mixed Tryd.func93 rfl (by decide) rfl (by decide) rfl ?_
  intro ps hT hpre W hW
  simp only [c_areRows1, TyA, Ty, Tys] at hT hpre
  obtain ⟨_, _, rfl, ⟨l, rfl, hl⟩, _, _, rfl, ⟨_, rfl, _, _, rfl, ⟨w, rfl, hw⟩, rfl⟩, rfl⟩ := hT
  simp only [nth_zero, nth_succ, pv_S, pv_I, pv_A] at hpre
  refine hW.vc [] _ _ ?_
  simp [-List.getD_eq_getElem?_getD, c_areRows1, c_isRow]
  exact hpre

def c_IndexFunc_areRows1 : FSpec := ⟨[(.rd, .list .str), (.rd, .fn 93 [.box [.int .i64]])], [.int .i64], true, fun ps => wOk (nth (nth (nth ps 1).A 0).A 0).I, fun ps => [.int .i64 (idxGo (fun e => !rowB e.S (nth (nth (nth ps 1).A 0).A 0).I) 0 (nth ps 0).L)], fun _ => []⟩
theorem k_IndexFunc_areRows1 : FnOk Tryd.prog 83 c_IndexFunc_areRows1 := by
  refine fn_mk [0, 1, 4, 5, 7, 8] [.tmp 4] (env_cons (cs := []) k_areRows1 (env_nil (tyTab_ok []))) mixed Tryd.func83 rfl (by decide) rfl (by decide) rfl ?_
  intro ps hT hpre W hW
  simp only [c_IndexFunc_areRows1, TyA, Ty, Tys] at hT hpre
  obtain ⟨_, _, rfl, ⟨es, rfl, he, hes⟩, _, _, rfl, ⟨_, rfl, _, _, rfl, ⟨_, rfl, _, _, rfl, ⟨w, rfl, hw⟩, rfl⟩, rfl⟩, rfl⟩ := hT
  simp only [nth_zero, nth_succ, pv_S, pv_I, pv_A] at hpre
  refine hW.vc [] _ _ ?_
  simp [-List.getD_eq_getElem?_getD, c_IndexFunc_areRows1, c_areRows1]
  intro h1
  refine hW.loopS _ _ _ [.sl 8 .dp (.int .i64)] (fun ys => ∃ i : Nat, ys = [.int .i64 i] ∧ i ≤ es.length ∧ idxGo (fun e => !rowB e.S w) 0 es = idxGo (fun e => !rowB e.S w) i (es.drop i)) (fun ys => es.length - (nth ys 0).I.toNat) ?_ ?_
  · simp [-List.getD_eq_getElem?_getD, c_IndexFunc_areRows1, c_areRows1]
    exact ⟨0, rfl, by simp, by simp⟩
  · rintro ys ⟨i, rfl, h2, h3⟩
    refine hW.vc [] _ _ ?_
    simp [-List.getD_eq_getElem?_getD, c_IndexFunc_areRows1, c_areRows1]
    refine ⟨fun h4 => ⟨h4, fun _ => ⟨hpre, fun h5 => ?_, fun h5 => ?_⟩⟩, fun h4 => ?_⟩
    · rw [h3, drop_nth h4]; simp [idxGo, h5]
    · rw [wrap64 (by omega)]
      refine ⟨⟨i + 1, by omega, by omega, ?_⟩, by omega⟩
      rw [h3, drop_nth h4]; simp [idxGo, h5]
    · rw [h3, List.drop_eq_nil_of_le h4]; rfl

def c_ContainsFunc_areRows1 : FSpec := ⟨[(.rd, .list .str), (.rd, .fn 93 [.box [.int .i64]])], [.bool], true, fun ps => wOk (nth (nth (nth ps 1).A 0).A 0).I, fun ps => [.bool ((nth ps 0).L.any (fun e => !rowB e.S (nth (nth (nth ps 1).A 0).A 0).I))], fun _ => []⟩
theorem k_ContainsFunc_areRows1 : FnOk Tryd.prog 92 c_ContainsFunc_areRows1 := by
  refine fn_mk [0, 1, 4] [.tmp 4] (env_cons (cs := [93]) k_IndexFunc_areRows1 (env_nil (tyTab_ok []))) mixed Tryd.func92 rfl (by decide) rfl (by decide) rfl ?_
  intro ps hT hpre W hW
  simp only [c_ContainsFunc_areRows1, TyA, Ty, Tys] at hT hpre
  obtain ⟨_, _, rfl, ⟨es, rfl, he, hes⟩, _, _, rfl, ⟨_, rfl, _, _, rfl, ⟨_, rfl, _, _, rfl, ⟨w, rfl, hw⟩, rfl⟩, rfl⟩, rfl⟩ := hT
  simp only [nth_zero, nth_succ, pv_S, pv_I, pv_A] at hpre
  refine hW.vc [] _ _ ?_
  simp [-List.getD_eq_getElem?_getD, c_ContainsFunc_areRows1, c_IndexFunc_areRows1]
  exact ⟨hpre, idxGo_any _ _ _⟩

def c_areRows : FSpec := ⟨[(.rd, .list .str), (.rd, .int .i64), (.rd, .int .i64)], [.bool], true, fun ps => wOk (nth ps 1).I, fun ps => [.bool (rowsB (nth ps 0).L (nth ps 1).I (nth ps 2).I)], fun _ => []⟩
theorem k_areRows : FnOk Tryd.prog 79 c_areRows := by
  refine fn_mk [0, 1, 2, 4, 6] [.tmp 6] (env_cons (cs := [93]) k_ContainsFunc_areRows1 (env_nil (tyTab_ok []))) mixed Tryd.func79 rfl (by decide) rfl (by decide) rfl ?_
  intro ps hT hpre W hW
  simp only [c_areRows, TyA, Ty, Tys] at hT hpre
  obtain ⟨_, _, rfl, ⟨es, rfl, he, hes⟩, _, _, rfl, ⟨w, rfl, hw⟩, _, _, rfl, ⟨h, rfl, hh⟩, rfl⟩ := hT
  simp only [nth_zero, nth_succ, pv_S, pv_I, pv_A] at hpre
  refine hW.vc [] _ _ ?_
  simp [-List.getD_eq_getElem?_getD, c_areRows, c_ContainsFunc_areRows1]
  refine fun _ => ⟨fun _ => hpre, ?_⟩
  simp only [rowsB, List.not_any_eq_all_not, Bool.not_not]

theorem rowsB_len {es : List PV} {w h : Int} (hl : (es.length : Int) ≠ h) : rowsB es w h = false := by simp [rowsB, hl]

def c_l11Rows : FSpec := ⟨[(.rd, .int .i64), (.rd, .int .i64), (.rd, .list .str)], [.bool], true, fun ps => wOk (nth ps 0).I, fun ps => [.bool (rowsB (nth ps 2).L (nth ps 0).I (nth ps 1).I)], fun _ => []⟩
theorem k_l11Rows : FnOk Tryd.prog 55 c_l11Rows := by
  refine fn_mk [0, 1, 2, 6, 7] [.tmp 6] (env_cons (cs := []) k_l11Row (env_nil (tyTab_ok []))) mixed Tryd.func55 rfl (by decide) rfl (by decide) rfl ?_
  intro ps hT hpre W hW
  simp only [c_l11Rows, TyA, Ty, Tys] at hT hpre
  obtain ⟨_, _, rfl, ⟨w, rfl, hw⟩, _, _, rfl, ⟨h, rfl, hh⟩, _, _, rfl, ⟨es, rfl, he, hes⟩, rfl⟩ := hT
  simp only [nth_zero, nth_succ, pv_S, pv_I, pv_A] at hpre
  refine hW.vc [] _ _ ?_
  simp [-List.getD_eq_getElem?_getD, c_l11Rows, c_l11Row]
  refine fun h1 => ⟨fun h2 => rowsB_len h2, fun h2 => ?_⟩
  refine hW.loopS _ _ _ [.sl 7 .dp (.int .i64)] (fun ys => ∃ i : Nat, ys = [.int .i64 i] ∧ i ≤ es.length ∧ rowsB es w h = (es.drop i).all fun e => rowB e.S w) (fun ys => es.length - (nth ys 0).I.toNat) ?_ ?_
  · simp [-List.getD_eq_getElem?_getD, c_l11Rows, c_l11Row]
    exact ⟨0, rfl, by simp, by simp [rowsB, h2]⟩
  · rintro ys ⟨i, rfl, h3, h4⟩
    refine hW.vc [] _ _ ?_
    simp [-List.getD_eq_getElem?_getD, c_l11Rows, c_l11Row]
    refine ⟨fun h5 => ⟨by omega, fun _ => ⟨hpre, fun h6 => ?_, fun h6 => ?_⟩⟩, fun h5 => ?_⟩
    · rw [h4, drop_nth (by omega)]; simp [h6]
    · rw [wrap64 (by omega)]
      refine ⟨⟨i + 1, by omega, by omega, ?_⟩, by omega⟩
      rw [h4, drop_nth (by omega)]; simp [h6]
    · rw [h4, List.drop_eq_nil_of_le (by omega)]; rfl

def mirB (m : List PV) : Bool := if (nth m 0).I = -1 then decide ((nth m 1).I = 0) && decide ((nth m 2).I = 0) && decide ((nth m 3).L.length = 0) else inB (nth m 0).I 0 60 && sizeB (nth m 1).I (nth m 2).I && rowsB (nth m 3).L (nth m 1).I (nth m 2).I

theorem size_wOk {w h : Int} (hs : sizeB w h = true) : wOk w := by
  simp [sizeB, inB] at hs; unfold wOk; omega
theorem mir_fin {n w h : Int} {es : List PV} : (n = -1 → (w = 0 → h = 0 → es.length ≤ 140737488355328) → (decide (w = 0) && decide (h = 0) && (es.length : Int) == 0) = mirB [PV.int .i64 n, PV.int .i64 w, PV.int .i64 h, PV.list es]) ∧
    (¬n = -1 → (inB n 0 60 = true → sizeB w h = true → wOk w) ∧ (inB n 0 60 && sizeB w h && rowsB es w h) = mirB [PV.int .i64 n, PV.int .i64 w, PV.int .i64 h, PV.list es]) := by
  refine ⟨fun h1 _ => ?_, fun h1 => ⟨fun _ h2 => size_wOk h2, ?_⟩⟩
  · simp only [mirB, nth_zero, nth_succ, pv_I, pv_L, h1, if_true]
    congr 1
    rw [Bool.eq_iff_iff]; simp
  · simp [mirB, nth_zero, nth_succ, pv_I, pv_L, h1]

def c_isNumber : FSpec := ⟨[(.rd, .int .i64)], [.bool], true, fun _ => True, fun ps => [.bool (inB (nth ps 0).I 0 60)], fun _ => []⟩
theorem k_isNumber : FnOk Tryd.prog 77 c_isNumber := by
  refine fn_mk [0, 2] [.tmp 2] (env_cons (cs := []) k_within (env_nil (tyTab_ok []))) mixed Tryd.func77 rfl (by decide) rfl (by decide) rfl ?_
  intro ps hT hpre W hW
  simp only [c_isNumber, TyA, Ty, Tys] at hT hpre
  obtain ⟨_, _, rfl, ⟨a, rfl, ha⟩, rfl⟩ := hT
  refine hW.vc [] _ _ ?_
  simp [-List.getD_eq_getElem?_getD, c_isNumber, c_within]

def c_isMirror : FSpec := ⟨[(.rd, .agg [.int .i64, .int .i64, .int .i64, .list .str])], [.bool], true, fun _ => True, fun ps => [.bool (mirB (nth ps 0).A)], fun _ => []⟩
theorem k_isMirror : FnOk Tryd.prog 57 c_isMirror := by
  refine fn_mk [0, 1, 2] [.tmp 2] (env_cons (cs := []) k_areRows (env_cons (cs := []) k_isSize (env_cons (cs := []) k_isNumber (env_nil (tyTab_ok []))))) mixed Tryd.func57 rfl (by decide) rfl (by decide) rfl ?_
  intro ps hT hpre W hW
  simp only [c_isMirror, TyA, Ty, Tys] at hT hpre
  obtain ⟨_, _, rfl, ⟨_, rfl, _, _, rfl, ⟨n, rfl, hn⟩, _, _, rfl, ⟨w, rfl, hw⟩, _, _, rfl, ⟨h, rfl, hh⟩, _, _, rfl, ⟨es, rfl, he, hes⟩, rfl⟩, rfl⟩ := hT
  refine hW.vc [] _ _ ?_
  simp [-List.getD_eq_getElem?_getD, c_isMirror, c_isNumber, c_isSize, c_areRows]
  exact mir_fin

def c_MirrorOK : FSpec := c_isMirror
def c_sMirrorOK : FSpec := c_isMirror
theorem k_sMirrorOK : FnOk Tryd.prog 32 c_sMirrorOK := by
  refine fn_mk [0, 1, 2] [.tmp 2] (env_cons (cs := []) k_l11Rows (env_cons (cs := []) k_l04Size (env_cons (cs := []) k_l01In (env_nil (tyTab_ok []))))) mixed Tryd.func32 rfl (by decide) rfl (by decide) rfl ?_
  intro ps hT hpre W hW
  simp only [c_sMirrorOK, TyA, Ty, Tys] at hT hpre
  simp only [c_isMirror, TyA, Ty, Tys] at hT
  obtain ⟨_, _, rfl, ⟨_, rfl, _, _, rfl, ⟨n, rfl, hn⟩, _, _, rfl, ⟨w, rfl, hw⟩, _, _, rfl, ⟨h, rfl, hh⟩, _, _, rfl, ⟨es, rfl, he, hes⟩, rfl⟩, rfl⟩ := hT
  refine hW.vc [] _ _ ?_
  simp [-List.getD_eq_getElem?_getD, c_sMirrorOK, c_l01In, c_l04Size, c_l11Rows, c_isMirror, c_within, c_isSize]
  exact mir_fin

end Go.Proofs.YtolgjekokdimoaaDoor
end

section
namespace Go.Proofs.YtolgjekokdimoaaDoor
set_option maxRecDepth 100000
set_option linter.unusedSimpArgs false

theorem szGo_le : ∀ {es : List PV} {l : Int}, 0 ≤ l → szGo l es ≤ l ∧ (-1 ≤ szGo l es)
  | [], l, h => ⟨Int.le_refl _, by simp [szGo]; omega⟩
  | e :: es, l, h => by
    simp only [szGo]
    split
    · exact ⟨by omega, by omega⟩
    · have := szGo_le (es := es) (l := l - e.S.length) (by omega)
      omega
theorem szStr_le {es : List PV} {l : Int} (h : 0 ≤ l) : szStr es l ≤ l ∧ -1 ≤ szStr es l ∧ (0 ≤ szStr es l → (es.length : Int) ≤ l) := by
  unfold szStr
  split
  · omega
  · have := szGo_le (es := es) (l := l - es.length) (by omega)
    omega

theorem eqL_refl {f : PV → PV → Bool} (hf : ∀ x, f x x = true) : ∀ {es : List PV}, eqL f es es = true
  | [] => rfl
  | e :: es => by simp [eqL, hf, eqL_refl hf (es := es)]

def c_szMirror : FSpec := ⟨[(.rd, .agg [.int .i64, .int .i64, .int .i64, .list .str]), (.rd, .int .i64)], [.int .i64], true, fun ps => 0 ≤ (nth ps 1).I, fun ps => [.int .i64 (szStr (nth (nth ps 0).A 3).L (nth ps 1).I)], fun _ => []⟩
theorem k_szMirror : FnOk Tryd.prog 31 c_szMirror := by
  refine fn_mk [0, 1, 2, 4] [.tmp 4] (env_cons (cs := []) k_szStringS (env_nil (tyTab_ok []))) mixed Tryd.func31 rfl (by decide) rfl (by decide) rfl ?_
  intro ps hT hpre W hW
  simp only [c_szMirror, TyA, Ty, Tys] at hT hpre
  obtain ⟨_, _, rfl, ⟨_, rfl, _, _, rfl, ⟨n, rfl, hn⟩, _, _, rfl, ⟨w, rfl, hw⟩, _, _, rfl, ⟨h, rfl, hh⟩, _, _, rfl, ⟨es, rfl, he, hes⟩, rfl⟩, _, _, rfl, ⟨l, rfl, hl⟩, rfl⟩ := hT
  simp only [nth_zero, nth_succ, pv_I] at hpre
  have h1 := szStr_le (es := es) hpre
  refine hW.vc [] _ _ ?_
  simp [-List.getD_eq_getElem?_getD, c_szMirror, c_szStringS]
  refine ⟨hpre, fun h2 => by omega⟩

def c_toMirror : FSpec := ⟨[(.rd, .agg [.int .i64, .int .i64, .int .i64, .list .str])], [.agg [.int .i64, .int .i64, .int .i64, .list .str]], true, fun ps => (nth (nth ps 0).A 3).L.length ≤ 1048576, fun ps => [nth ps 0], fun _ => []⟩
theorem k_toMirror : FnOk Tryd.prog 33 c_toMirror := by
  refine fn_mk [0, 1, 2, 3] [.cell 2 27] (env_cons (cs := []) k_toStringS (env_nil (tyTab_ok []))) mixed Tryd.func33 rfl (by decide) rfl (by decide) rfl ?_
  intro ps hT hpre W hW
  simp only [c_toMirror, TyA, Ty, Tys] at hT hpre
  obtain ⟨_, _, rfl, ⟨_, rfl, _, _, rfl, ⟨n, rfl, hn⟩, _, _, rfl, ⟨w, rfl, hw⟩, _, _, rfl, ⟨h, rfl, hh⟩, _, _, rfl, ⟨es, rfl, he, hes⟩, rfl⟩, rfl⟩ := hT
  simp only [nth_zero, nth_succ, pv_A, pv_L] at hpre
  refine hW.vc [] _ _ ?_
  simp [-List.getD_eq_getElem?_getD, c_toMirror, c_toStringS]
  exact hpre

def eqMir (a b : List PV) : Bool := (nth a 0).I == (nth b 0).I && (nth a 1).I == (nth b 1).I && (nth a 2).I == (nth b 2).I && eqL (fun x y => x.S == y.S) (nth a 3).L (nth b 3).L
def c_eqMirror : FSpec := ⟨[(.rd, .agg [.int .i64, .int .i64, .int .i64, .list .str]), (.rd, .agg [.int .i64, .int .i64, .int .i64, .list .str])], [.bool], true, fun _ => True, fun ps => [.bool (eqMir (nth ps 0).A (nth ps 1).A)], fun _ => []⟩
theorem k_eqMirror : FnOk Tryd.prog 28 c_eqMirror := by
  refine fn_mk [0, 1, 2, 3, 4] [.tmp 4] (env_cons (cs := []) k_eqStringS (env_nil (tyTab_ok []))) mixed Tryd.func28 rfl (by decide) rfl (by decide) rfl ?_
  intro ps hT hpre W hW
  simp only [c_eqMirror, TyA, Ty, Tys] at hT hpre
  obtain ⟨_, _, rfl, ⟨_, rfl, _, _, rfl, ⟨n, rfl, hn⟩, _, _, rfl, ⟨w, rfl, hw⟩, _, _, rfl, ⟨h, rfl, hh⟩, _, _, rfl, ⟨es, rfl, he, hes⟩, rfl⟩, _, _, rfl, ⟨_, rfl, _, _, rfl, ⟨n', rfl, hn'⟩, _, _, rfl, ⟨w', rfl, hw'⟩, _, _, rfl, ⟨h', rfl, hh'⟩, _, _, rfl, ⟨es', rfl, he', hes'⟩, rfl⟩, rfl⟩ := hT
  refine hW.vc [] _ _ ?_
  simp [-List.getD_eq_getElem?_getD, c_eqMirror, c_eqStringS]
  simp only [eqMir, nth_zero, nth_succ, pv_I, pv_L]
  refine ⟨fun h1 => by simp [h1], fun h1 => ⟨fun h2 => by simp [h2], fun h2 => ⟨fun h3 => by simp [h3], fun h3 => ⟨fun h4 => by simp [h4], fun h4 => by simp [h1, h2, h3, h4]⟩⟩⟩⟩

def c_exMirrorOK : FSpec := ⟨[(.rd, .agg [.int .i64, .int .i64, .int .i64, .list .str])], [.bool], true, fun _ => True, fun _ => [.bool true], fun _ => []⟩
end Go.Proofs.YtolgjekokdimoaaDoor
end

section
namespace Go.Proofs.YtolgjekokdimoaaDoor
set_option maxRecDepth 100000
set_option linter.unusedSimpArgs false

/-- What is left behind some sizes. -/
def szG (f : PV → Int) (l : Int) : List PV → Int
  | [] => l
  | e :: es => if l - f e < 0 then -1 else szG f (l - f e) es
theorem szG_le {f : PV → Int} (hf : ∀ e, 0 ≤ f e) : ∀ {es : List PV} {l : Int}, 0 ≤ l → szG f l es ≤ l ∧ -1 ≤ szG f l es
  | [], l, h => ⟨Int.le_refl _, by simp [szG]; omega⟩
  | e :: es, l, h => by
    have := hf e
    simp only [szG]
    split
    · exact ⟨by omega, by omega⟩
    · have := szG_le hf (es := es) (l := l - f e) (by omega)
      omega
def szGs (f : PV → Int) (es : List PV) (l : Int) : Int := if l - es.length < 0 then -1 else szG f (l - es.length) es
theorem szGs_le {f : PV → Int} (hf : ∀ e, 0 ≤ f e) {es : List PV} {l : Int} (h : 0 ≤ l) : szGs f es l ≤ l ∧ -1 ≤ szGs f es l ∧ (0 ≤ szGs f es l → (es.length : Int) ≤ l) := by
  unfold szGs
  split
  · omega
  · have := szG_le hf (es := es) (l := l - es.length) (by omega)
    omega

def szR1 (l n : Int) : Int := if l - n < 0 then -1 else l - n
def rowLen (e : PV) : Int := (nth e.A 1).S.length
theorem rowLen_nn (e : PV) : 0 ≤ rowLen e := by unfold rowLen; omega

def c_szRow : FSpec := ⟨[(.rd, .agg [.int .i64, .str]), (.rd, .int .i64)], [.int .i64], true, fun ps => 0 ≤ (nth ps 1).I, fun ps => [.int .i64 (szR1 (nth ps 1).I (nth (nth ps 0).A 1).S.length)], fun _ => []⟩
def c_szRowS : FSpec := ⟨[(.rd, .list (.agg [.int .i64, .str])), (.rd, .int .i64)], [.int .i64], true, fun ps => 0 ≤ (nth ps 1).I, fun ps => [.int .i64 (szGs rowLen (nth ps 0).L (nth ps 1).I)], fun _ => []⟩
def c_szView : FSpec := ⟨[(.rd, .agg [.int .i64, .int .i64, .bool, .int .i64, .int .i64, .list (.agg [.int .i64, .str])]), (.rd, .int .i64)], [.int .i64], true, fun ps => 0 ≤ (nth ps 1).I, fun ps => [.int .i64 (szGs rowLen (nth (nth ps 0).A 5).L (nth ps 1).I)], fun _ => []⟩
def c_toRow : FSpec := ⟨[(.rd, .agg [.int .i64, .str])], [.agg [.int .i64, .str]], true, fun _ => True, fun ps => [nth ps 0], fun _ => []⟩
theorem row_eta {e : PV} (h : ∃ qs, e = .agg qs ∧ ∃ p r, qs = p :: r ∧ (∃ n, p = .int .i64 n ∧ inR .i64 n) ∧ ∃ p r', r = p :: r' ∧ (∃ l, p = .str l ∧ l.length ≤ LIM) ∧ r' = []) : PV.agg [.int .i64 (nth e.A 0).I, .str (nth e.A 1).S] = e := by
  obtain ⟨_, rfl, _, _, rfl, ⟨n, rfl, _⟩, _, _, rfl, ⟨l, rfl, _⟩, rfl⟩ := h
  rfl

def c_toRowS : FSpec := ⟨[(.rd, .list (.agg [.int .i64, .str]))], [.list (.agg [.int .i64, .str])], true, fun ps => (nth ps 0).L.length ≤ 1048576, fun ps => [.list (nth ps 0).L], fun _ => []⟩
def c_toView : FSpec := ⟨[(.rd, .agg [.int .i64, .int .i64, .bool, .int .i64, .int .i64, .list (.agg [.int .i64, .str])])], [.agg [.int .i64, .int .i64, .bool, .int .i64, .int .i64, .list (.agg [.int .i64, .str])]], true, fun ps => (nth (nth ps 0).A 5).L.length ≤ 1048576, fun ps => [nth ps 0], fun _ => []⟩
def eqRow1 (a b : List PV) : Bool := (nth a 0).I == (nth b 0).I && (nth a 1).S == (nth b 1).S
def eqRow2 (a b : PV) : Bool := eqRow1 a.A b.A
theorem eqRow2_refl (a : PV) : eqRow2 a a = true := by simp [eqRow2, eqRow1]
def c_eqRow : FSpec := ⟨[(.rd, .agg [.int .i64, .str]), (.rd, .agg [.int .i64, .str])], [.bool], true, fun _ => True, fun ps => [.bool (eqRow1 (nth ps 0).A (nth ps 1).A)], fun _ => []⟩
def c_eqRowS : FSpec := ⟨[(.rd, .list (.agg [.int .i64, .str])), (.rd, .list (.agg [.int .i64, .str]))], [.bool], true, fun _ => True, fun ps => [.bool (eqL eqRow2 (nth ps 0).L (nth ps 1).L)], fun _ => []⟩
def eqVw (a b : List PV) : Bool := (nth a 0).I == (nth b 0).I && (nth a 1).I == (nth b 1).I && (nth a 2).B == (nth b 2).B && (nth a 3).I == (nth b 3).I && (nth a 4).I == (nth b 4).I && eqL eqRow2 (nth a 5).L (nth b 5).L
def c_eqView : FSpec := ⟨[(.rd, .agg [.int .i64, .int .i64, .bool, .int .i64, .int .i64, .list (.agg [.int .i64, .str])]), (.rd, .agg [.int .i64, .int .i64, .bool, .int .i64, .int .i64, .list (.agg [.int .i64, .str])])], [.bool], true, fun _ => True, fun ps => [.bool (eqVw (nth ps 0).A (nth ps 1).A)], fun _ => []⟩
/-- Rows that rise, each of all its cells. -/
def upB (w h : Int) (p : Int) : List PV → Bool
  | [] => true
  | e :: es => inB (nth e.A 0).I 0 (h - 1) && decide (p < (nth e.A 0).I) && rowB (nth e.A 1).S w && upB w h (nth e.A 0).I es
def leB (a b : Int) : Bool := decide (a ≤ b)
def selB (c a b : Bool) : Bool := (c && a) || (!c && b)
def viewB (v : List PV) : Bool :=
  inB (nth v 0).I 0 60 && sizeB (nth v 3).I (nth v 4).I && leB (nth v 5).L.length (nth v 4).I && upB (nth v 3).I (nth v 4).I (-1) (nth v 5).L &&
    selB (nth v 2).B ((nth v 1).I == 0 && ((nth v 5).L.length : Int) == (nth v 4).I) (inB (nth v 1).I 0 ((nth v 0).I - 1))
/-- The row ahead of place i. -/
def pvY (es : List PV) (i : Nat) : Int := if i = 0 then -1 else (nth (nth es (i - 1)).A 0).I

theorem view_no {n f w h : Int} {u : Bool} {es : List PV} (h2 : (inB n 0 60 = false ∨ sizeB w h = false) ∨ h < es.length) : viewB [.int .i64 n, .int .i64 f, .bool u, .int .i64 w, .int .i64 h, .list es] = false := by
  simp only [viewB, nth_zero, nth_succ, pv_I, pv_L]
  rcases h2 with (h2 | h2) | h2
  · simp [h2]
  · simp [h2]
  · have : ¬ (es.length : Int) ≤ h := by omega
    simp [this, leB]
theorem view_eq {n f w h : Int} {u : Bool} {es : List PV} (h2 : inB n 0 60 = true) (h3 : sizeB w h = true) (h4 : (es.length : Int) ≤ h) : (2 ≤ w ∧ w ≤ 24 ∧ 2 ≤ h ∧ h ≤ 10) ∧
    viewB [.int .i64 n, .int .i64 f, .bool u, .int .i64 w, .int .i64 h, .list es] = (upB w h (-1) es && selB u (f == 0 && (es.length : Int) == h) (inB f 0 (n - 1))) := by
  refine ⟨by simp [sizeB, inB] at h3; omega, ?_⟩
  simp [viewB, nth_zero, nth_succ, pv_I, pv_L, pv_B, h2, h3, h4, leB]
theorem pvY_succ (es : List PV) (i : Nat) : pvY es (i + 1) = (nth (nth es i).A 0).I := by simp [pvY]
theorem pvY_pos {es : List PV} {i : Nat} (h : 0 < i) : pvY es i = (nth (nth es (i - 1)).A 0).I := by rw [pvY, if_neg (by omega)]
theorem pvY_lt {es : List PV} {i : Nat} {y h : Int} (h1 : inB y 0 h = true) (h2 : 0 < i → (nth (nth es (i - 1)).A 0).I < y) : pvY es i < y := by
  by_cases h0 : 0 < i
  · rw [pvY_pos h0]; exact h2 h0
  · have : pvY es i = -1 := by rw [pvY, if_pos (by omega)]
    rw [this]
    simp [inB] at h1; omega

def c_isView : FSpec := ⟨[(.rd, .agg [.int .i64, .int .i64, .bool, .int .i64, .int .i64, .list (.agg [.int .i64, .str])])], [.bool], true, fun _ => True, fun ps => [.bool (viewB (nth ps 0).A)], fun _ => []⟩
def c_iViewOK : FSpec := c_isView
end Go.Proofs.YtolgjekokdimoaaDoor
end

section
namespace Go.Proofs.YtolgjekokdimoaaDoor
set_option maxRecDepth 100000
set_option linter.unusedSimpArgs false

def c_sViewOK : FSpec := c_isView
theorem eqRows_refl (es : List PV) : eqL eqRow2 es es = true := eqL_refl eqRow2_refl
theorem eqVw_refl (v : List PV) : eqVw v v = true := by simp [eqVw, eqRows_refl]

def c_exViewOK : FSpec := ⟨[(.rd, .agg [.int .i64, .int .i64, .bool, .int .i64, .int .i64, .list (.agg [.int .i64, .str])])], [.bool], true, fun _ => True, fun _ => [.bool true], fun _ => []⟩
def fullGo (i : Nat) : List PV → List PV
  | [] => []
  | e :: es => .agg [.int .i64 i, .str e.S] :: fullGo (i + 1) es
theorem fullGo_len : ∀ (es : List PV) (i : Nat), (fullGo i es).length = es.length
  | [], _ => rfl
  | e :: es, i => by simp [fullGo, fullGo_len es]
theorem fullGo_snoc (x : PV) : ∀ (es : List PV) (i : Nat), fullGo i (es ++ [x]) = fullGo i es ++ [.agg [.int .i64 (i + es.length : Nat), .str x.S]]
  | [], i => by simp [fullGo]
  | e :: es, i => by simp [fullGo, fullGo_snoc x es]; omega

def c_fullView : FSpec := ⟨[(.rd, .int .i64), (.rd, .int .i64), (.rd, .int .i64), (.rd, .list .str)], [.agg [.int .i64, .int .i64, .bool, .int .i64, .int .i64, .list (.agg [.int .i64, .str])]], true, fun ps => (nth ps 3).L.length ≤ 1048576, fun ps => [.agg [.int .i64 (nth ps 0).I, .int .i64 0, .bool true, .int .i64 (nth ps 1).I, .int .i64 (nth ps 2).I, .list (fullGo 0 (nth ps 3).L)]], fun _ => []⟩
def c_l11Full : FSpec := { c_fullView with pre := fun ps => (nth ps 3).L.length ≤ 1048576 ∧ ((nth ps 3).L.length : Int) = (nth ps 2).I }
/-- A view. -/
structure VW where
  n : Int
  f : Int
  u : Bool
  w : Int
  h : Int
  r : List PV
def VW.pv (v : VW) : PV := .agg [.int .i64 v.n, .int .i64 v.f, .bool v.u, .int .i64 v.w, .int .i64 v.h, .list v.r]
def VW.no : VW := ⟨0, 0, false, 0, 0, []⟩
def fullOf (n w h : Int) (es : List PV) : VW × Int :=
  if 4096 < (es.length : Int) then (VW.no, 2) else if inB n 0 60 = false ∨ sizeB w h = false then (VW.no, 4) else if rowsB es w h = false then (VW.no, 1) else (⟨n, 0, true, w, h, fullGo 0 es⟩, 0)
theorem rowsB_len' {es : List PV} {w h : Int} (hl : rowsB es w h = true) : (es.length : Int) = h := by simp [rowsB] at hl; exact hl.1
theorem not_or_ff {a b : Bool} (ha : a = true) (hb : b = true) : ¬ (a = false ∨ b = false) := by subst ha; subst hb; simp

def c_iFullView : FSpec := ⟨[(.rd, .int .i64), (.rd, .int .i64), (.rd, .int .i64), (.rd, .list .str)], [.agg [.int .i64, .int .i64, .bool, .int .i64, .int .i64, .list (.agg [.int .i64, .str])], .int .i64], true, fun _ => True,
  fun ps => [(fullOf (nth ps 0).I (nth ps 1).I (nth ps 2).I (nth ps 3).L).1.pv, .int .i64 (fullOf (nth ps 0).I (nth ps 1).I (nth ps 2).I (nth ps 3).L).2], fun _ => []⟩
def c_sFullView : FSpec := c_iFullView
end Go.Proofs.YtolgjekokdimoaaDoor
end

