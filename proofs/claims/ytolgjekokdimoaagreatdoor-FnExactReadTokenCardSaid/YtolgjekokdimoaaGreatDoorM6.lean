/-
  Part 6 of the proof of FnExactReadToken: a verification-condition generator over the program and the contracts of its functions, in the order of their use.
  Conditions: none.
-/
import Derived.Test.YtolgjekokdimoaaGreatDoorM5
import Derived.Test.YtolgjekokdimoaaGreatDoorChecked
set_option linter.unusedVariables false
set_option linter.unusedSimpArgs false
set_option linter.unusedSectionVars false

section
namespace Go.Proofs.YtolgjekokdimoaaGreatDoor
variable [LaidG]
set_option maxRecDepth 100000

/-- int64 -/
noncomputable def T2 : TI := ⟨false, [.int .i64], 0, [], 8, .int .i64, false⟩
theorem T2_ok : TIok Tryz.prog 2 T2 := tiok_mk (i := Tryz.t2) Tryz.underlying2 Tryz.type2 rfl rfl rfl rfl rfl rfl (by kernel_rfl) (by decide) (by decide) (by decide) rfl (fun h => by cases h)
theorem T2_sz : T2.sz = 1 := rfl
theorem T2_pty : T2.pty = .int .i64 := rfl
/-- int -/
noncomputable def T3 : TI := ⟨false, [.int .i64], 0, [], 8, .int .i64, false⟩
theorem T3_ok : TIok Tryz.prog 3 T3 := tiok_mk (i := Tryz.t3) Tryz.underlying3 Tryz.type3 rfl rfl rfl rfl rfl rfl (by kernel_rfl) (by decide) (by decide) (by decide) rfl (fun h => by cases h)
theorem T3_sz : T3.sz = 1 := rfl
theorem T3_pty : T3.pty = .int .i64 := rfl
/-- bool -/
noncomputable def T4 : TI := ⟨false, [.bool], 0, [], 1, .bool, false⟩
theorem T4_ok : TIok Tryz.prog 4 T4 := tiok_mk (i := Tryz.t4) Tryz.underlying4 Tryz.type4 rfl rfl rfl rfl rfl rfl (by kernel_rfl) (by decide) (by decide) (by decide) rfl (fun h => by cases h)
theorem T4_sz : T4.sz = 1 := rfl
theorem T4_pty : T4.pty = .bool := rfl
/-- uint8 -/
noncomputable def T5 : TI := ⟨false, [.int .u8], 0, [], 1, .int .u8, false⟩
theorem T5_ok : TIok Tryz.prog 5 T5 := tiok_mk (i := Tryz.t5) Tryz.underlying5 Tryz.type5 rfl rfl rfl rfl rfl rfl (by kernel_rfl) (by decide) (by decide) (by decide) rfl (fun h => by cases h)
theorem T5_sz : T5.sz = 1 := rfl
theorem T5_pty : T5.pty = .int .u8 := rfl
/-- abi.BoundsErrorCode -/
noncomputable def T6 : TI := ⟨false, [.int .u8], 0, [], 1, .int .u8, false⟩
theorem T6_ok : TIok Tryz.prog 6 T6 := tiok_mk (i := Tryz.t6) Tryz.underlying6 Tryz.type6 rfl rfl rfl rfl rfl rfl (by kernel_rfl) (by decide) (by decide) (by decide) rfl (fun h => by cases h)
theorem T6_sz : T6.sz = 1 := rfl
theorem T6_pty : T6.pty = .int .u8 := rfl
/-- a struct -/
noncomputable def T7 : TI := ⟨true, [.int .i64, .int .i64, .bool, .int .u8], 0, [(0, 2), (1, 3), (2, 4), (3, 6)], 24, .struct (match Tryz.t7.desc with | .struct fs => fs | _ => #[]), true⟩
theorem T7_ok : TIok Tryz.prog 7 T7 := tiok_mk (i := Tryz.t7) Tryz.underlying7 Tryz.type7 rfl rfl rfl rfl rfl rfl (by kernel_rfl) (by decide) (by decide) (by decide) rfl (fun _ => ⟨Tryz.stoodInHeld7, Tryz.eqGuardType7⟩)
theorem T7_sz : T7.sz = 4 := rfl
theorem T7_pty : T7.pty = .agg [.int .i64, .int .i64, .bool, .int .u8] := rfl
/-- runtime.boundsError -/
noncomputable def T8 : TI := ⟨true, [.int .i64, .int .i64, .bool, .int .u8], 0, [(0, 2), (1, 3), (2, 4), (3, 6)], 24, .struct (match Tryz.t7.desc with | .struct fs => fs | _ => #[]), true⟩
theorem T8_ok : TIok Tryz.prog 8 T8 := tiok_mk (i := Tryz.t8) Tryz.underlying8 Tryz.type8 rfl rfl rfl rfl rfl rfl (by kernel_rfl) (by decide) (by decide) (by decide) rfl (fun _ => ⟨Tryz.stoodInHeld8, Tryz.eqGuardType8⟩)
theorem T8_sz : T8.sz = 4 := rfl
theorem T8_pty : T8.pty = .agg [.int .i64, .int .i64, .bool, .int .u8] := rfl
/-- string -/
noncomputable def T9 : TI := ⟨false, [.str], 0, [], 16, .string, false⟩
theorem T9_ok : TIok Tryz.prog 9 T9 := tiok_mk (i := Tryz.t9) Tryz.underlying9 Tryz.type9 rfl rfl rfl rfl rfl rfl (by kernel_rfl) (by decide) (by decide) (by decide) rfl (fun h => by cases h)
theorem T9_sz : T9.sz = 1 := rfl
theorem T9_pty : T9.pty = .str := rfl
/-- runtime.errorString -/
noncomputable def T10 : TI := ⟨false, [.str], 0, [], 16, .string, false⟩
theorem T10_ok : TIok Tryz.prog 10 T10 := tiok_mk (i := Tryz.t10) Tryz.underlying10 Tryz.type10 rfl rfl rfl rfl rfl rfl (by kernel_rfl) (by decide) (by decide) (by decide) rfl (fun h => by cases h)
theorem T10_sz : T10.sz = 1 := rfl
theorem T10_pty : T10.pty = .str := rfl
/-- runtime.plainError -/
noncomputable def T11 : TI := ⟨false, [.str], 0, [], 16, .string, false⟩
theorem T11_ok : TIok Tryz.prog 11 T11 := tiok_mk (i := Tryz.t11) Tryz.underlying11 Tryz.type11 rfl rfl rfl rfl rfl rfl (by kernel_rfl) (by decide) (by decide) (by decide) rfl (fun h => by cases h)
theorem T11_sz : T11.sz = 1 := rfl
theorem T11_pty : T11.pty = .str := rfl
/-- uintptr -/
noncomputable def T12 : TI := ⟨false, [.int .u64], 0, [], 8, .int .u64, false⟩
theorem T12_ok : TIok Tryz.prog 12 T12 := tiok_mk (i := Tryz.t12) Tryz.underlying12 Tryz.type12 rfl rfl rfl rfl rfl rfl (by kernel_rfl) (by decide) (by decide) (by decide) rfl (fun h => by cases h)
theorem T12_sz : T12.sz = 1 := rfl
theorem T12_pty : T12.pty = .int .u64 := rfl
/-- a struct -/
noncomputable def T13 : TI := ⟨true, [.str, .int .u64], 0, [(0, 9), (1, 12)], 24, .struct (match Tryz.t13.desc with | .struct fs => fs | _ => #[]), false⟩
theorem T13_ok : TIok Tryz.prog 13 T13 := tiok_mk (i := Tryz.t13) Tryz.underlying13 Tryz.type13 rfl rfl rfl rfl rfl rfl (by kernel_rfl) (by decide) (by decide) (by decide) rfl (fun h => by cases h)
theorem T13_sz : T13.sz = 2 := rfl
theorem T13_pty : T13.pty = .agg [.str, .int .u64] := rfl
/-- runtime.errorAddressString -/
noncomputable def T14 : TI := ⟨true, [.str, .int .u64], 0, [(0, 9), (1, 12)], 24, .struct (match Tryz.t13.desc with | .struct fs => fs | _ => #[]), false⟩
theorem T14_ok : TIok Tryz.prog 14 T14 := tiok_mk (i := Tryz.t14) Tryz.underlying14 Tryz.type14 rfl rfl rfl rfl rfl rfl (by kernel_rfl) (by decide) (by decide) (by decide) rfl (fun h => by cases h)
theorem T14_sz : T14.sz = 2 := rfl
theorem T14_pty : T14.pty = .agg [.str, .int .u64] := rfl
/-- *runtime.TypeAssertionError -/
noncomputable def T15 : TI := ⟨false, [.opq], 0, [], 8, .pointer 241, false⟩
theorem T15_ok : TIok Tryz.prog 15 T15 := tiok_mk (i := Tryz.t15) Tryz.underlying15 Tryz.type15 rfl rfl rfl rfl rfl rfl (by kernel_rfl) (by decide) (by decide) (by decide) rfl (fun h => by cases h)
theorem T15_sz : T15.sz = 1 := rfl
theorem T15_pty : T15.pty = .opq := rfl
/-- *runtime.PanicNilError -/
noncomputable def T16 : TI := ⟨false, [.opq], 0, [], 8, .pointer 244, false⟩
theorem T16_ok : TIok Tryz.prog 16 T16 := tiok_mk (i := Tryz.t16) Tryz.underlying16 Tryz.type16 rfl rfl rfl rfl rfl rfl (by kernel_rfl) (by decide) (by decide) (by decide) rfl (fun h => by cases h)
theorem T16_sz : T16.sz = 1 := rfl
theorem T16_pty : T16.pty = .opq := rfl
/-- *abi.Type -/
noncomputable def T17 : TI := ⟨false, [.opq], 0, [], 8, .pointer 251, false⟩
theorem T17_ok : TIok Tryz.prog 17 T17 := tiok_mk (i := Tryz.t17) Tryz.underlying17 Tryz.type17 rfl rfl rfl rfl rfl rfl (by kernel_rfl) (by decide) (by decide) (by decide) rfl (fun h => by cases h)
theorem T17_sz : T17.sz = 1 := rfl
theorem T17_pty : T17.pty = .opq := rfl
/-- a struct -/
noncomputable def T18 : TI := ⟨true, [.opq], 0, [(0, 17)], 8, .struct (match Tryz.t18.desc with | .struct fs => fs | _ => #[]), false⟩
theorem T18_ok : TIok Tryz.prog 18 T18 := tiok_mk (i := Tryz.t18) Tryz.underlying18 Tryz.type18 rfl rfl rfl rfl rfl rfl (by kernel_rfl) (by decide) (by decide) (by decide) rfl (fun h => by cases h)
theorem T18_sz : T18.sz = 1 := rfl
theorem T18_pty : T18.pty = .agg [.opq] := rfl
/-- maps.unhashableTypeError -/
noncomputable def T19 : TI := ⟨true, [.opq], 0, [(0, 17)], 8, .struct (match Tryz.t18.desc with | .struct fs => fs | _ => #[]), false⟩
theorem T19_ok : TIok Tryz.prog 19 T19 := tiok_mk (i := Tryz.t19) Tryz.underlying19 Tryz.type19 rfl rfl rfl rfl rfl rfl (by kernel_rfl) (by decide) (by decide) (by decide) rfl (fun h => by cases h)
theorem T19_sz : T19.sz = 1 := rfl
theorem T19_pty : T19.pty = .agg [.opq] := rfl
/-- int32 -/
noncomputable def T21 : TI := ⟨false, [.int .i32], 0, [], 4, .int .i32, false⟩
theorem T21_ok : TIok Tryz.prog 21 T21 := tiok_mk (i := Tryz.t21) Tryz.underlying21 Tryz.type21 rfl rfl rfl rfl rfl rfl (by kernel_rfl) (by decide) (by decide) (by decide) rfl (fun h => by cases h)
theorem T21_sz : T21.sz = 1 := rfl
theorem T21_pty : T21.pty = .int .i32 := rfl
/-- []string -/
noncomputable def T22 : TI := ⟨false, [.list (.str)], 9, [], 24, .slice 9, false⟩
theorem T22_ok : TIok Tryz.prog 22 T22 := tiok_mk (i := Tryz.t22) Tryz.underlying22 Tryz.type22 rfl rfl rfl rfl rfl rfl (by kernel_rfl) (by decide) (by decide) (by decide) rfl (fun h => by cases h)
theorem T22_sz : T22.sz = 1 := rfl
theorem T22_pty : T22.pty = .list (.str) := rfl
/-- a struct -/
noncomputable def T23 : TI := ⟨true, [.int .i64, .int .i64, .int .i64, .list (.str)], 0, [(0, 3), (1, 3), (2, 3), (3, 22)], 48, .struct (match Tryz.t23.desc with | .struct fs => fs | _ => #[]), false⟩
theorem T23_ok : TIok Tryz.prog 23 T23 := tiok_mk (i := Tryz.t23) Tryz.underlying23 Tryz.type23 rfl rfl rfl rfl rfl rfl (by kernel_rfl) (by decide) (by decide) (by decide) rfl (fun h => by cases h)
theorem T23_sz : T23.sz = 4 := rfl
theorem T23_pty : T23.pty = .agg [.int .i64, .int .i64, .int .i64, .list (.str)] := rfl
/-- laws.Mirror -/
noncomputable def T24 : TI := ⟨true, [.int .i64, .int .i64, .int .i64, .list (.str)], 0, [(0, 3), (1, 3), (2, 3), (3, 22)], 48, .struct (match Tryz.t23.desc with | .struct fs => fs | _ => #[]), false⟩
theorem T24_ok : TIok Tryz.prog 24 T24 := tiok_mk (i := Tryz.t24) Tryz.underlying24 Tryz.type24 rfl rfl rfl rfl rfl rfl (by kernel_rfl) (by decide) (by decide) (by decide) rfl (fun h => by cases h)
theorem T24_sz : T24.sz = 4 := rfl
theorem T24_pty : T24.pty = .agg [.int .i64, .int .i64, .int .i64, .list (.str)] := rfl
/-- a struct -/
noncomputable def T25 : TI := ⟨true, [.int .i64, .str, .str, .int .i64, .int .i64, .int .i64, .list (.str)], 0, [(0, 3), (1, 9), (2, 9), (3, 24)], 88, .struct (match Tryz.t25.desc with | .struct fs => fs | _ => #[]), false⟩
theorem T25_ok : TIok Tryz.prog 25 T25 := tiok_mk (i := Tryz.t25) Tryz.underlying25 Tryz.type25 rfl rfl rfl rfl rfl rfl (by kernel_rfl) (by decide) (by decide) (by decide) rfl (fun h => by cases h)
theorem T25_sz : T25.sz = 7 := rfl
theorem T25_pty : T25.pty = .agg [.int .i64, .str, .str, .int .i64, .int .i64, .int .i64, .list (.str)] := rfl
/-- laws.Client -/
noncomputable def T26 : TI := ⟨true, [.int .i64, .str, .str, .int .i64, .int .i64, .int .i64, .list (.str)], 0, [(0, 3), (1, 9), (2, 9), (3, 24)], 88, .struct (match Tryz.t25.desc with | .struct fs => fs | _ => #[]), false⟩
theorem T26_ok : TIok Tryz.prog 26 T26 := tiok_mk (i := Tryz.t26) Tryz.underlying26 Tryz.type26 rfl rfl rfl rfl rfl rfl (by kernel_rfl) (by decide) (by decide) (by decide) rfl (fun h => by cases h)
theorem T26_sz : T26.sz = 7 := rfl
theorem T26_pty : T26.pty = .agg [.int .i64, .str, .str, .int .i64, .int .i64, .int .i64, .list (.str)] := rfl
/-- []laws.Row -/
noncomputable def T27 : TI := ⟨false, [.list (.agg [.int .i64, .str])], 98, [], 24, .slice 98, false⟩
theorem T27_ok : TIok Tryz.prog 27 T27 := tiok_mk (i := Tryz.t27) Tryz.underlying27 Tryz.type27 rfl rfl rfl rfl rfl rfl (by kernel_rfl) (by decide) (by decide) (by decide) rfl (fun h => by cases h)
theorem T27_sz : T27.sz = 1 := rfl
theorem T27_pty : T27.pty = .list (.agg [.int .i64, .str]) := rfl
/-- a struct -/
noncomputable def T28 : TI := ⟨true, [.int .i64, .int .i64, .bool, .int .i64, .int .i64, .list (.agg [.int .i64, .str])], 0, [(0, 3), (1, 3), (2, 4), (3, 3), (4, 3), (5, 27)], 64, .struct (match Tryz.t28.desc with | .struct fs => fs | _ => #[]), false⟩
theorem T28_ok : TIok Tryz.prog 28 T28 := tiok_mk (i := Tryz.t28) Tryz.underlying28 Tryz.type28 rfl rfl rfl rfl rfl rfl (by kernel_rfl) (by decide) (by decide) (by decide) rfl (fun h => by cases h)
theorem T28_sz : T28.sz = 6 := rfl
theorem T28_pty : T28.pty = .agg [.int .i64, .int .i64, .bool, .int .i64, .int .i64, .list (.agg [.int .i64, .str])] := rfl
/-- laws.View -/
noncomputable def T29 : TI := ⟨true, [.int .i64, .int .i64, .bool, .int .i64, .int .i64, .list (.agg [.int .i64, .str])], 0, [(0, 3), (1, 3), (2, 4), (3, 3), (4, 3), (5, 27)], 64, .struct (match Tryz.t28.desc with | .struct fs => fs | _ => #[]), false⟩
theorem T29_ok : TIok Tryz.prog 29 T29 := tiok_mk (i := Tryz.t29) Tryz.underlying29 Tryz.type29 rfl rfl rfl rfl rfl rfl (by kernel_rfl) (by decide) (by decide) (by decide) rfl (fun h => by cases h)
theorem T29_sz : T29.sz = 6 := rfl
theorem T29_pty : T29.pty = .agg [.int .i64, .int .i64, .bool, .int .i64, .int .i64, .list (.agg [.int .i64, .str])] := rfl
/-- impl.Mirror -/
noncomputable def T32 : TI := ⟨true, [.int .i64, .int .i64, .int .i64, .list (.str)], 0, [(0, 3), (1, 3), (2, 3), (3, 22)], 48, .struct (match Tryz.t23.desc with | .struct fs => fs | _ => #[]), false⟩
theorem T32_ok : TIok Tryz.prog 32 T32 := tiok_mk (i := Tryz.t32) Tryz.underlying32 Tryz.type32 rfl rfl rfl rfl rfl rfl (by kernel_rfl) (by decide) (by decide) (by decide) rfl (fun h => by cases h)
theorem T32_sz : T32.sz = 4 := rfl
theorem T32_pty : T32.pty = .agg [.int .i64, .int .i64, .int .i64, .list (.str)] := rfl
/-- a struct -/
noncomputable def T33 : TI := ⟨true, [.int .i64, .str, .str, .int .i64, .int .i64, .int .i64, .list (.str)], 0, [(0, 3), (1, 9), (2, 9), (3, 32)], 88, .struct (match Tryz.t33.desc with | .struct fs => fs | _ => #[]), false⟩
theorem T33_ok : TIok Tryz.prog 33 T33 := tiok_mk (i := Tryz.t33) Tryz.underlying33 Tryz.type33 rfl rfl rfl rfl rfl rfl (by kernel_rfl) (by decide) (by decide) (by decide) rfl (fun h => by cases h)
theorem T33_sz : T33.sz = 7 := rfl
theorem T33_pty : T33.pty = .agg [.int .i64, .str, .str, .int .i64, .int .i64, .int .i64, .list (.str)] := rfl
/-- impl.Client -/
noncomputable def T34 : TI := ⟨true, [.int .i64, .str, .str, .int .i64, .int .i64, .int .i64, .list (.str)], 0, [(0, 3), (1, 9), (2, 9), (3, 32)], 88, .struct (match Tryz.t33.desc with | .struct fs => fs | _ => #[]), false⟩
theorem T34_ok : TIok Tryz.prog 34 T34 := tiok_mk (i := Tryz.t34) Tryz.underlying34 Tryz.type34 rfl rfl rfl rfl rfl rfl (by kernel_rfl) (by decide) (by decide) (by decide) rfl (fun h => by cases h)
theorem T34_sz : T34.sz = 7 := rfl
theorem T34_pty : T34.pty = .agg [.int .i64, .str, .str, .int .i64, .int .i64, .int .i64, .list (.str)] := rfl
/-- []impl.Row -/
noncomputable def T38 : TI := ⟨false, [.list (.agg [.int .i64, .str])], 94, [], 24, .slice 94, false⟩
theorem T38_ok : TIok Tryz.prog 38 T38 := tiok_mk (i := Tryz.t38) Tryz.underlying38 Tryz.type38 rfl rfl rfl rfl rfl rfl (by kernel_rfl) (by decide) (by decide) (by decide) rfl (fun h => by cases h)
theorem T38_sz : T38.sz = 1 := rfl
theorem T38_pty : T38.pty = .list (.agg [.int .i64, .str]) := rfl
/-- a struct -/
noncomputable def T39 : TI := ⟨true, [.int .i64, .int .i64, .bool, .int .i64, .int .i64, .list (.agg [.int .i64, .str])], 0, [(0, 3), (1, 3), (2, 4), (3, 3), (4, 3), (5, 38)], 64, .struct (match Tryz.t39.desc with | .struct fs => fs | _ => #[]), false⟩
theorem T39_ok : TIok Tryz.prog 39 T39 := tiok_mk (i := Tryz.t39) Tryz.underlying39 Tryz.type39 rfl rfl rfl rfl rfl rfl (by kernel_rfl) (by decide) (by decide) (by decide) rfl (fun h => by cases h)
theorem T39_sz : T39.sz = 6 := rfl
theorem T39_pty : T39.pty = .agg [.int .i64, .int .i64, .bool, .int .i64, .int .i64, .list (.agg [.int .i64, .str])] := rfl
/-- impl.View -/
noncomputable def T40 : TI := ⟨true, [.int .i64, .int .i64, .bool, .int .i64, .int .i64, .list (.agg [.int .i64, .str])], 0, [(0, 3), (1, 3), (2, 4), (3, 3), (4, 3), (5, 38)], 64, .struct (match Tryz.t39.desc with | .struct fs => fs | _ => #[]), false⟩
theorem T40_ok : TIok Tryz.prog 40 T40 := tiok_mk (i := Tryz.t40) Tryz.underlying40 Tryz.type40 rfl rfl rfl rfl rfl rfl (by kernel_rfl) (by decide) (by decide) (by decide) rfl (fun h => by cases h)
theorem T40_sz : T40.sz = 6 := rfl
theorem T40_pty : T40.pty = .agg [.int .i64, .int .i64, .bool, .int .i64, .int .i64, .list (.agg [.int .i64, .str])] := rfl
/-- []uint8 -/
noncomputable def T50 : TI := ⟨false, [.list (.int .u8)], 5, [], 24, .slice 5, false⟩
theorem T50_ok : TIok Tryz.prog 50 T50 := tiok_mk (i := Tryz.t50) Tryz.underlying50 Tryz.type50 rfl rfl rfl rfl rfl rfl (by kernel_rfl) (by decide) (by decide) (by decide) rfl (fun h => by cases h)
theorem T50_sz : T50.sz = 1 := rfl
theorem T50_pty : T50.pty = .list (.int .u8) := rfl
/-- *spec.l00Src -/
noncomputable def T78 : TI := ⟨false, [.opq], 0, [], 8, .pointer 113, false⟩
theorem T78_ok : TIok Tryz.prog 78 T78 := tiok_mk (i := Tryz.t78) Tryz.underlying78 Tryz.type78 rfl rfl rfl rfl rfl rfl (by kernel_rfl) (by decide) (by decide) (by decide) rfl (fun h => by cases h)
theorem T78_sz : T78.sz = 1 := rfl
theorem T78_pty : T78.pty = .opq := rfl
/-- a struct -/
noncomputable def T93 : TI := ⟨true, [.int .i64, .str], 0, [(0, 3), (1, 9)], 24, .struct (match Tryz.t93.desc with | .struct fs => fs | _ => #[]), true⟩
theorem T93_ok : TIok Tryz.prog 93 T93 := tiok_mk (i := Tryz.t93) Tryz.underlying93 Tryz.type93 rfl rfl rfl rfl rfl rfl (by kernel_rfl) (by decide) (by decide) (by decide) rfl (fun _ => ⟨Tryz.stoodInHeld93, Tryz.eqGuardType93⟩)
theorem T93_sz : T93.sz = 2 := rfl
theorem T93_pty : T93.pty = .agg [.int .i64, .str] := rfl
/-- impl.Row -/
noncomputable def T94 : TI := ⟨true, [.int .i64, .str], 0, [(0, 3), (1, 9)], 24, .struct (match Tryz.t93.desc with | .struct fs => fs | _ => #[]), true⟩
theorem T94_ok : TIok Tryz.prog 94 T94 := tiok_mk (i := Tryz.t94) Tryz.underlying94 Tryz.type94 rfl rfl rfl rfl rfl rfl (by kernel_rfl) (by decide) (by decide) (by decide) rfl (fun _ => ⟨Tryz.stoodInHeld94, Tryz.eqGuardType94⟩)
theorem T94_sz : T94.sz = 2 := rfl
theorem T94_pty : T94.pty = .agg [.int .i64, .str] := rfl
/-- laws.Row -/
noncomputable def T98 : TI := ⟨true, [.int .i64, .str], 0, [(0, 3), (1, 9)], 24, .struct (match Tryz.t93.desc with | .struct fs => fs | _ => #[]), true⟩
theorem T98_ok : TIok Tryz.prog 98 T98 := tiok_mk (i := Tryz.t98) Tryz.underlying98 Tryz.type98 rfl rfl rfl rfl rfl rfl (by kernel_rfl) (by decide) (by decide) (by decide) rfl (fun _ => ⟨Tryz.stoodInHeld98, Tryz.eqGuardType98⟩)
theorem T98_sz : T98.sz = 2 := rfl
theorem T98_pty : T98.pty = .agg [.int .i64, .str] := rfl
/-- []int -/
noncomputable def T103 : TI := ⟨false, [.list (.int .i64)], 3, [], 24, .slice 3, false⟩
theorem T103_ok : TIok Tryz.prog 103 T103 := tiok_mk (i := Tryz.t103) Tryz.underlying103 Tryz.type103 rfl rfl rfl rfl rfl rfl (by kernel_rfl) (by decide) (by decide) (by decide) rfl (fun h => by cases h)
theorem T103_sz : T103.sz = 1 := rfl
theorem T103_pty : T103.pty = .list (.int .i64) := rfl
/-- a struct -/
noncomputable def T112 : TI := ⟨true, [.list (.int .u8), .int .i64, .int .i64], 0, [(0, 50), (1, 3), (2, 3)], 40, .struct (match Tryz.t112.desc with | .struct fs => fs | _ => #[]), false⟩
theorem T112_ok : TIok Tryz.prog 112 T112 := tiok_mk (i := Tryz.t112) Tryz.underlying112 Tryz.type112 rfl rfl rfl rfl rfl rfl (by kernel_rfl) (by decide) (by decide) (by decide) rfl (fun h => by cases h)
theorem T112_sz : T112.sz = 3 := rfl
theorem T112_pty : T112.pty = .agg [.list (.int .u8), .int .i64, .int .i64] := rfl
/-- spec.l00Src -/
noncomputable def T113 : TI := ⟨true, [.list (.int .u8), .int .i64, .int .i64], 0, [(0, 50), (1, 3), (2, 3)], 40, .struct (match Tryz.t112.desc with | .struct fs => fs | _ => #[]), false⟩
theorem T113_ok : TIok Tryz.prog 113 T113 := tiok_mk (i := Tryz.t113) Tryz.underlying113 Tryz.type113 rfl rfl rfl rfl rfl rfl (by kernel_rfl) (by decide) (by decide) (by decide) rfl (fun h => by cases h)
theorem T113_sz : T113.sz = 3 := rfl
theorem T113_pty : T113.pty = .agg [.list (.int .u8), .int .i64, .int .i64] := rfl
/-- []impl.Cell -/
noncomputable def T116 : TI := ⟨false, [.list (.agg [.int .i64, .int .i64])], 137, [], 24, .slice 137, false⟩
theorem T116_ok : TIok Tryz.prog 116 T116 := tiok_mk (i := Tryz.t116) Tryz.underlying116 Tryz.type116 rfl rfl rfl rfl rfl rfl (by kernel_rfl) (by decide) (by decide) (by decide) rfl (fun h => by cases h)
theorem T116_sz : T116.sz = 1 := rfl
theorem T116_pty : T116.pty = .list (.agg [.int .i64, .int .i64]) := rfl
/-- a struct -/
noncomputable def T117 : TI := ⟨true, [.int .i64, .int .i64, .int .i64, .int .i64, .int .i64, .int .i64, .int .i64, .int .i64, .int .i64, .str, .list (.agg [.int .i64, .int .i64]), .list (.str)], 0, [(0, 3), (1, 3), (2, 3), (3, 3), (4, 3), (5, 3), (6, 3), (7, 3), (8, 3), (9, 9), (10, 116), (11, 22)], 136, .struct (match Tryz.t117.desc with | .struct fs => fs | _ => #[]), false⟩
theorem T117_ok : TIok Tryz.prog 117 T117 := tiok_mk (i := Tryz.t117) Tryz.underlying117 Tryz.type117 rfl rfl rfl rfl rfl rfl (by kernel_rfl) (by decide) (by decide) (by decide) rfl (fun h => by cases h)
theorem T117_sz : T117.sz = 12 := rfl
theorem T117_pty : T117.pty = .agg [.int .i64, .int .i64, .int .i64, .int .i64, .int .i64, .int .i64, .int .i64, .int .i64, .int .i64, .str, .list (.agg [.int .i64, .int .i64]), .list (.str)] := rfl
/-- impl.Screen -/
noncomputable def T118 : TI := ⟨true, [.int .i64, .int .i64, .int .i64, .int .i64, .int .i64, .int .i64, .int .i64, .int .i64, .int .i64, .str, .list (.agg [.int .i64, .int .i64]), .list (.str)], 0, [(0, 3), (1, 3), (2, 3), (3, 3), (4, 3), (5, 3), (6, 3), (7, 3), (8, 3), (9, 9), (10, 116), (11, 22)], 136, .struct (match Tryz.t117.desc with | .struct fs => fs | _ => #[]), false⟩
theorem T118_ok : TIok Tryz.prog 118 T118 := tiok_mk (i := Tryz.t118) Tryz.underlying118 Tryz.type118 rfl rfl rfl rfl rfl rfl (by kernel_rfl) (by decide) (by decide) (by decide) rfl (fun h => by cases h)
theorem T118_sz : T118.sz = 12 := rfl
theorem T118_pty : T118.pty = .agg [.int .i64, .int .i64, .int .i64, .int .i64, .int .i64, .int .i64, .int .i64, .int .i64, .int .i64, .str, .list (.agg [.int .i64, .int .i64]), .list (.str)] := rfl
/-- a struct -/
noncomputable def T120 : TI := ⟨true, [.int .i64, .list (.int .i64), .bool, .str, .str], 0, [(0, 3), (1, 103), (2, 4), (3, 9), (4, 9)], 72, .struct (match Tryz.t120.desc with | .struct fs => fs | _ => #[]), false⟩
theorem T120_ok : TIok Tryz.prog 120 T120 := tiok_mk (i := Tryz.t120) Tryz.underlying120 Tryz.type120 rfl rfl rfl rfl rfl rfl (by kernel_rfl) (by decide) (by decide) (by decide) rfl (fun h => by cases h)
theorem T120_sz : T120.sz = 5 := rfl
theorem T120_pty : T120.pty = .agg [.int .i64, .list (.int .i64), .bool, .str, .str] := rfl
/-- impl.Parser -/
noncomputable def T121 : TI := ⟨true, [.int .i64, .list (.int .i64), .bool, .str, .str], 0, [(0, 3), (1, 103), (2, 4), (3, 9), (4, 9)], 72, .struct (match Tryz.t120.desc with | .struct fs => fs | _ => #[]), false⟩
theorem T121_ok : TIok Tryz.prog 121 T121 := tiok_mk (i := Tryz.t121) Tryz.underlying121 Tryz.type121 rfl rfl rfl rfl rfl rfl (by kernel_rfl) (by decide) (by decide) (by decide) rfl (fun h => by cases h)
theorem T121_sz : T121.sz = 5 := rfl
theorem T121_pty : T121.pty = .agg [.int .i64, .list (.int .i64), .bool, .str, .str] := rfl
/-- a struct -/
noncomputable def T136 : TI := ⟨true, [.int .i64, .int .i64], 0, [(0, 3), (1, 3)], 16, .struct (match Tryz.t136.desc with | .struct fs => fs | _ => #[]), true⟩
theorem T136_ok : TIok Tryz.prog 136 T136 := tiok_mk (i := Tryz.t136) Tryz.underlying136 Tryz.type136 rfl rfl rfl rfl rfl rfl (by kernel_rfl) (by decide) (by decide) (by decide) rfl (fun _ => ⟨Tryz.stoodInHeld136, Tryz.eqGuardType136⟩)
theorem T136_sz : T136.sz = 2 := rfl
theorem T136_pty : T136.pty = .agg [.int .i64, .int .i64] := rfl
/-- impl.Cell -/
noncomputable def T137 : TI := ⟨true, [.int .i64, .int .i64], 0, [(0, 3), (1, 3)], 16, .struct (match Tryz.t136.desc with | .struct fs => fs | _ => #[]), true⟩
theorem T137_ok : TIok Tryz.prog 137 T137 := tiok_mk (i := Tryz.t137) Tryz.underlying137 Tryz.type137 rfl rfl rfl rfl rfl rfl (by kernel_rfl) (by decide) (by decide) (by decide) rfl (fun _ => ⟨Tryz.stoodInHeld137, Tryz.eqGuardType137⟩)
theorem T137_sz : T137.sz = 2 := rfl
theorem T137_pty : T137.pty = .agg [.int .i64, .int .i64] := rfl
/-- uint -/
noncomputable def T142 : TI := ⟨false, [.int .u64], 0, [], 8, .int .u64, false⟩
theorem T142_ok : TIok Tryz.prog 142 T142 := tiok_mk (i := Tryz.t142) Tryz.underlying142 Tryz.type142 rfl rfl rfl rfl rfl rfl (by kernel_rfl) (by decide) (by decide) (by decide) rfl (fun h => by cases h)
theorem T142_sz : T142.sz = 1 := rfl
theorem T142_pty : T142.pty = .int .u64 := rfl
/-- []impl.Action -/
noncomputable def T144 : TI := ⟨false, [.list (.agg [.int .i64, .int .i64, .bool, .list (.int .i64), .str])], 153, [], 24, .slice 153, false⟩
theorem T144_ok : TIok Tryz.prog 144 T144 := tiok_mk (i := Tryz.t144) Tryz.underlying144 Tryz.type144 rfl rfl rfl rfl rfl rfl (by kernel_rfl) (by decide) (by decide) (by decide) rfl (fun h => by cases h)
theorem T144_sz : T144.sz = 1 := rfl
theorem T144_pty : T144.pty = .list (.agg [.int .i64, .int .i64, .bool, .list (.int .i64), .str]) := rfl
/-- *spec.l04Run -/
noncomputable def T147 : TI := ⟨false, [.opq], 0, [], 8, .pointer 150, false⟩
theorem T147_ok : TIok Tryz.prog 147 T147 := tiok_mk (i := Tryz.t147) Tryz.underlying147 Tryz.type147 rfl rfl rfl rfl rfl rfl (by kernel_rfl) (by decide) (by decide) (by decide) rfl (fun h => by cases h)
theorem T147_sz : T147.sz = 1 := rfl
theorem T147_pty : T147.pty = .opq := rfl
/-- a struct -/
noncomputable def T149 : TI := ⟨true, [.int .i64, .int .i64, .int .i64, .int .i64, .int .i64, .int .i64, .int .i64, .int .i64, .int .i64, .str, .list (.agg [.int .i64, .int .i64]), .list (.str)], 0, [(0, 118)], 136, .struct (match Tryz.t149.desc with | .struct fs => fs | _ => #[]), false⟩
theorem T149_ok : TIok Tryz.prog 149 T149 := tiok_mk (i := Tryz.t149) Tryz.underlying149 Tryz.type149 rfl rfl rfl rfl rfl rfl (by kernel_rfl) (by decide) (by decide) (by decide) rfl (fun h => by cases h)
theorem T149_sz : T149.sz = 12 := rfl
theorem T149_pty : T149.pty = .agg [.int .i64, .int .i64, .int .i64, .int .i64, .int .i64, .int .i64, .int .i64, .int .i64, .int .i64, .str, .list (.agg [.int .i64, .int .i64]), .list (.str)] := rfl
/-- spec.l04Run -/
noncomputable def T150 : TI := ⟨true, [.int .i64, .int .i64, .int .i64, .int .i64, .int .i64, .int .i64, .int .i64, .int .i64, .int .i64, .str, .list (.agg [.int .i64, .int .i64]), .list (.str)], 0, [(0, 118)], 136, .struct (match Tryz.t149.desc with | .struct fs => fs | _ => #[]), false⟩
theorem T150_ok : TIok Tryz.prog 150 T150 := tiok_mk (i := Tryz.t150) Tryz.underlying150 Tryz.type150 rfl rfl rfl rfl rfl rfl (by kernel_rfl) (by decide) (by decide) (by decide) rfl (fun h => by cases h)
theorem T150_sz : T150.sz = 12 := rfl
theorem T150_pty : T150.pty = .agg [.int .i64, .int .i64, .int .i64, .int .i64, .int .i64, .int .i64, .int .i64, .int .i64, .int .i64, .str, .list (.agg [.int .i64, .int .i64]), .list (.str)] := rfl
/-- a struct -/
noncomputable def T152 : TI := ⟨true, [.int .i64, .int .i64, .bool, .list (.int .i64), .str], 0, [(0, 3), (1, 3), (2, 4), (3, 103), (4, 9)], 64, .struct (match Tryz.t152.desc with | .struct fs => fs | _ => #[]), false⟩
theorem T152_ok : TIok Tryz.prog 152 T152 := tiok_mk (i := Tryz.t152) Tryz.underlying152 Tryz.type152 rfl rfl rfl rfl rfl rfl (by kernel_rfl) (by decide) (by decide) (by decide) rfl (fun h => by cases h)
theorem T152_sz : T152.sz = 5 := rfl
theorem T152_pty : T152.pty = .agg [.int .i64, .int .i64, .bool, .list (.int .i64), .str] := rfl
/-- impl.Action -/
noncomputable def T153 : TI := ⟨true, [.int .i64, .int .i64, .bool, .list (.int .i64), .str], 0, [(0, 3), (1, 3), (2, 4), (3, 103), (4, 9)], 64, .struct (match Tryz.t152.desc with | .struct fs => fs | _ => #[]), false⟩
theorem T153_ok : TIok Tryz.prog 153 T153 := tiok_mk (i := Tryz.t153) Tryz.underlying153 Tryz.type153 rfl rfl rfl rfl rfl rfl (by kernel_rfl) (by decide) (by decide) (by decide) rfl (fun h => by cases h)
theorem T153_sz : T153.sz = 5 := rfl
theorem T153_pty : T153.pty = .agg [.int .i64, .int .i64, .bool, .list (.int .i64), .str] := rfl
/-- *strings.asciiSet -/
noncomputable def T164 : TI := ⟨false, [.opq], 0, [], 8, .pointer 160, false⟩
theorem T164_ok : TIok Tryz.prog 164 T164 := tiok_mk (i := Tryz.t164) Tryz.underlying164 Tryz.type164 rfl rfl rfl rfl rfl rfl (by kernel_rfl) (by decide) (by decide) (by decide) rfl (fun h => by cases h)
theorem T164_sz : T164.sz = 1 := rfl
theorem T164_pty : T164.pty = .opq := rfl
/-- *uint8 -/
noncomputable def T165 : TI := ⟨false, [.opq], 0, [], 8, .pointer 5, false⟩
theorem T165_ok : TIok Tryz.prog 165 T165 := tiok_mk (i := Tryz.t165) Tryz.underlying165 Tryz.type165 rfl rfl rfl rfl rfl rfl (by kernel_rfl) (by decide) (by decide) (by decide) rfl (fun h => by cases h)
theorem T165_sz : T165.sz = 1 := rfl
theorem T165_pty : T165.pty = .opq := rfl
/-- uint32 -/
noncomputable def T171 : TI := ⟨false, [.int .u32], 0, [], 4, .int .u32, false⟩
theorem T171_ok : TIok Tryz.prog 171 T171 := tiok_mk (i := Tryz.t171) Tryz.underlying171 Tryz.type171 rfl rfl rfl rfl rfl rfl (by kernel_rfl) (by decide) (by decide) (by decide) rfl (fun h => by cases h)
theorem T171_sz : T171.sz = 1 := rfl
theorem T171_pty : T171.pty = .int .u32 := rfl
/-- [8]uint32 -/
noncomputable def T172 : TI := ⟨true, [.int .u32, .int .u32, .int .u32, .int .u32, .int .u32, .int .u32, .int .u32, .int .u32], 0, [], 32, .array 8 171, false⟩
theorem T172_ok : TIok Tryz.prog 172 T172 := tiok_mk (i := Tryz.t172) Tryz.underlying172 Tryz.type172 rfl rfl rfl rfl rfl rfl (by kernel_rfl) (by decide) (by decide) (by decide) rfl (fun h => by cases h)
theorem T172_sz : T172.sz = 8 := rfl
theorem T172_pty : T172.pty = .agg [.int .u32, .int .u32, .int .u32, .int .u32, .int .u32, .int .u32, .int .u32, .int .u32] := rfl
/-- *[8]uint32 -/
noncomputable def T176 : TI := ⟨false, [.opq], 0, [], 8, .pointer 172, false⟩
theorem T176_ok : TIok Tryz.prog 176 T176 := tiok_mk (i := Tryz.t176) Tryz.underlying176 Tryz.type176 rfl rfl rfl rfl rfl rfl (by kernel_rfl) (by decide) (by decide) (by decide) rfl (fun h => by cases h)
theorem T176_sz : T176.sz = 1 := rfl
theorem T176_pty : T176.pty = .opq := rfl
/-- *spec.l03Run -/
noncomputable def T178 : TI := ⟨false, [.opq], 0, [], 8, .pointer 181, false⟩
theorem T178_ok : TIok Tryz.prog 178 T178 := tiok_mk (i := Tryz.t178) Tryz.underlying178 Tryz.type178 rfl rfl rfl rfl rfl rfl (by kernel_rfl) (by decide) (by decide) (by decide) rfl (fun h => by cases h)
theorem T178_sz : T178.sz = 1 := rfl
theorem T178_pty : T178.pty = .opq := rfl
/-- a struct -/
noncomputable def T180 : TI := ⟨true, [.int .i64, .list (.int .i64), .bool, .str, .str, .list (.agg [.int .i64, .int .i64, .bool, .list (.int .i64), .str])], 0, [(0, 121), (5, 144)], 96, .struct (match Tryz.t180.desc with | .struct fs => fs | _ => #[]), false⟩
theorem T180_ok : TIok Tryz.prog 180 T180 := tiok_mk (i := Tryz.t180) Tryz.underlying180 Tryz.type180 rfl rfl rfl rfl rfl rfl (by kernel_rfl) (by decide) (by decide) (by decide) rfl (fun h => by cases h)
theorem T180_sz : T180.sz = 6 := rfl
theorem T180_pty : T180.pty = .agg [.int .i64, .list (.int .i64), .bool, .str, .str, .list (.agg [.int .i64, .int .i64, .bool, .list (.int .i64), .str])] := rfl
/-- spec.l03Run -/
noncomputable def T181 : TI := ⟨true, [.int .i64, .list (.int .i64), .bool, .str, .str, .list (.agg [.int .i64, .int .i64, .bool, .list (.int .i64), .str])], 0, [(0, 121), (5, 144)], 96, .struct (match Tryz.t180.desc with | .struct fs => fs | _ => #[]), false⟩
theorem T181_ok : TIok Tryz.prog 181 T181 := tiok_mk (i := Tryz.t181) Tryz.underlying181 Tryz.type181 rfl rfl rfl rfl rfl rfl (by kernel_rfl) (by decide) (by decide) (by decide) rfl (fun h => by cases h)
theorem T181_sz : T181.sz = 6 := rfl
theorem T181_pty : T181.pty = .agg [.int .i64, .list (.int .i64), .bool, .str, .str, .list (.agg [.int .i64, .int .i64, .bool, .list (.int .i64), .str])] := rfl
/-- []uint32 -/
noncomputable def T188 : TI := ⟨false, [.list (.int .u32)], 171, [], 24, .slice 171, false⟩
theorem T188_ok : TIok Tryz.prog 188 T188 := tiok_mk (i := Tryz.t188) Tryz.underlying188 Tryz.type188 rfl rfl rfl rfl rfl rfl (by kernel_rfl) (by decide) (by decide) (by decide) rfl (fun h => by cases h)
theorem T188_sz : T188.sz = 1 := rfl
theorem T188_pty : T188.pty = .list (.int .u32) := rfl
/-- strconv.Error -/
noncomputable def T192 : TI := ⟨false, [.int .i64], 0, [], 8, .int .i64, false⟩
theorem T192_ok : TIok Tryz.prog 192 T192 := tiok_mk (i := Tryz.t192) Tryz.underlying192 Tryz.type192 rfl rfl rfl rfl rfl rfl (by kernel_rfl) (by decide) (by decide) (by decide) rfl (fun h => by cases h)
theorem T192_sz : T192.sz = 1 := rfl
theorem T192_pty : T192.pty = .int .i64 := rfl
/-- *strconv.NumError -/
noncomputable def T195 : TI := ⟨false, [.opq], 0, [], 8, .pointer 217, false⟩
theorem T195_ok : TIok Tryz.prog 195 T195 := tiok_mk (i := Tryz.t195) Tryz.underlying195 Tryz.type195 rfl rfl rfl rfl rfl rfl (by kernel_rfl) (by decide) (by decide) (by decide) rfl (fun h => by cases h)
theorem T195_sz : T195.sz = 1 := rfl
theorem T195_pty : T195.pty = .opq := rfl
/-- [64]uint32 -/
noncomputable def T200 : TI := ⟨true, [.int .u32, .int .u32, .int .u32, .int .u32, .int .u32, .int .u32, .int .u32, .int .u32, .int .u32, .int .u32, .int .u32, .int .u32, .int .u32, .int .u32, .int .u32, .int .u32, .int .u32, .int .u32, .int .u32, .int .u32, .int .u32, .int .u32, .int .u32, .int .u32, .int .u32, .int .u32, .int .u32, .int .u32, .int .u32, .int .u32, .int .u32, .int .u32, .int .u32, .int .u32, .int .u32, .int .u32, .int .u32, .int .u32, .int .u32, .int .u32, .int .u32, .int .u32, .int .u32, .int .u32, .int .u32, .int .u32, .int .u32, .int .u32, .int .u32, .int .u32, .int .u32, .int .u32, .int .u32, .int .u32, .int .u32, .int .u32, .int .u32, .int .u32, .int .u32, .int .u32, .int .u32, .int .u32, .int .u32, .int .u32], 0, [], 256, .array 64 171, false⟩
theorem T200_ok : TIok Tryz.prog 200 T200 := tiok_mk (i := Tryz.t200) Tryz.underlying200 Tryz.type200 rfl rfl rfl rfl rfl rfl (by kernel_rfl) (by decide) (by decide) (by decide) rfl (fun h => by cases h)
theorem T200_sz : T200.sz = 64 := rfl
theorem T200_pty : T200.pty = .agg [.int .u32, .int .u32, .int .u32, .int .u32, .int .u32, .int .u32, .int .u32, .int .u32, .int .u32, .int .u32, .int .u32, .int .u32, .int .u32, .int .u32, .int .u32, .int .u32, .int .u32, .int .u32, .int .u32, .int .u32, .int .u32, .int .u32, .int .u32, .int .u32, .int .u32, .int .u32, .int .u32, .int .u32, .int .u32, .int .u32, .int .u32, .int .u32, .int .u32, .int .u32, .int .u32, .int .u32, .int .u32, .int .u32, .int .u32, .int .u32, .int .u32, .int .u32, .int .u32, .int .u32, .int .u32, .int .u32, .int .u32, .int .u32, .int .u32, .int .u32, .int .u32, .int .u32, .int .u32, .int .u32, .int .u32, .int .u32, .int .u32, .int .u32, .int .u32, .int .u32, .int .u32, .int .u32, .int .u32, .int .u32] := rfl
/-- [24]uint8 -/
noncomputable def T202 : TI := ⟨true, [.int .u8, .int .u8, .int .u8, .int .u8, .int .u8, .int .u8, .int .u8, .int .u8, .int .u8, .int .u8, .int .u8, .int .u8, .int .u8, .int .u8, .int .u8, .int .u8, .int .u8, .int .u8, .int .u8, .int .u8, .int .u8, .int .u8, .int .u8, .int .u8], 0, [], 24, .array 24 5, false⟩
theorem T202_ok : TIok Tryz.prog 202 T202 := tiok_mk (i := Tryz.t202) Tryz.underlying202 Tryz.type202 rfl rfl rfl rfl rfl rfl (by kernel_rfl) (by decide) (by decide) (by decide) rfl (fun h => by cases h)
theorem T202_sz : T202.sz = 24 := rfl
theorem T202_pty : T202.pty = .agg [.int .u8, .int .u8, .int .u8, .int .u8, .int .u8, .int .u8, .int .u8, .int .u8, .int .u8, .int .u8, .int .u8, .int .u8, .int .u8, .int .u8, .int .u8, .int .u8, .int .u8, .int .u8, .int .u8, .int .u8, .int .u8, .int .u8, .int .u8, .int .u8] := rfl
/-- uint64 -/
noncomputable def T203 : TI := ⟨false, [.int .u64], 0, [], 8, .int .u64, false⟩
theorem T203_ok : TIok Tryz.prog 203 T203 := tiok_mk (i := Tryz.t203) Tryz.underlying203 Tryz.type203 rfl rfl rfl rfl rfl rfl (by kernel_rfl) (by decide) (by decide) (by decide) rfl (fun h => by cases h)
theorem T203_sz : T203.sz = 1 := rfl
theorem T203_pty : T203.pty = .int .u64 := rfl
/-- *impl.Screen -/
noncomputable def T208 : TI := ⟨false, [.opq], 0, [], 8, .pointer 118, false⟩
theorem T208_ok : TIok Tryz.prog 208 T208 := tiok_mk (i := Tryz.t208) Tryz.underlying208 Tryz.type208 rfl rfl rfl rfl rfl rfl (by kernel_rfl) (by decide) (by decide) (by decide) rfl (fun h => by cases h)
theorem T208_sz : T208.sz = 1 := rfl
theorem T208_pty : T208.pty = .opq := rfl
/-- [20]uint64 -/
noncomputable def T224 : TI := ⟨true, [.int .u64, .int .u64, .int .u64, .int .u64, .int .u64, .int .u64, .int .u64, .int .u64, .int .u64, .int .u64, .int .u64, .int .u64, .int .u64, .int .u64, .int .u64, .int .u64, .int .u64, .int .u64, .int .u64, .int .u64], 0, [], 160, .array 20 203, false⟩
theorem T224_ok : TIok Tryz.prog 224 T224 := tiok_mk (i := Tryz.t224) Tryz.underlying224 Tryz.type224 rfl rfl rfl rfl rfl rfl (by kernel_rfl) (by decide) (by decide) (by decide) rfl (fun h => by cases h)
theorem T224_sz : T224.sz = 20 := rfl
theorem T224_pty : T224.pty = .agg [.int .u64, .int .u64, .int .u64, .int .u64, .int .u64, .int .u64, .int .u64, .int .u64, .int .u64, .int .u64, .int .u64, .int .u64, .int .u64, .int .u64, .int .u64, .int .u64, .int .u64, .int .u64, .int .u64, .int .u64] := rfl
/-- a struct -/
noncomputable def T229 : TI := ⟨true, [.int .u8, .int .u8], 0, [(0, 5), (1, 5)], 2, .struct (match Tryz.t229.desc with | .struct fs => fs | _ => #[]), true⟩
theorem T229_ok : TIok Tryz.prog 229 T229 := tiok_mk (i := Tryz.t229) Tryz.underlying229 Tryz.type229 rfl rfl rfl rfl rfl rfl (by kernel_rfl) (by decide) (by decide) (by decide) rfl (fun _ => ⟨Tryz.stoodInHeld229, Tryz.eqGuardType229⟩)
theorem T229_sz : T229.sz = 2 := rfl
theorem T229_pty : T229.pty = .agg [.int .u8, .int .u8] := rfl
/-- utf8.acceptRange -/
noncomputable def T230 : TI := ⟨true, [.int .u8, .int .u8], 0, [(0, 5), (1, 5)], 2, .struct (match Tryz.t229.desc with | .struct fs => fs | _ => #[]), true⟩
theorem T230_ok : TIok Tryz.prog 230 T230 := tiok_mk (i := Tryz.t230) Tryz.underlying230 Tryz.type230 rfl rfl rfl rfl rfl rfl (by kernel_rfl) (by decide) (by decide) (by decide) rfl (fun _ => ⟨Tryz.stoodInHeld230, Tryz.eqGuardType230⟩)
theorem T230_sz : T230.sz = 2 := rfl
theorem T230_pty : T230.pty = .agg [.int .u8, .int .u8] := rfl
/-- [16]utf8.acceptRange -/
noncomputable def T231 : TI := ⟨true, [.int .u8, .int .u8, .int .u8, .int .u8, .int .u8, .int .u8, .int .u8, .int .u8, .int .u8, .int .u8, .int .u8, .int .u8, .int .u8, .int .u8, .int .u8, .int .u8, .int .u8, .int .u8, .int .u8, .int .u8, .int .u8, .int .u8, .int .u8, .int .u8, .int .u8, .int .u8, .int .u8, .int .u8, .int .u8, .int .u8, .int .u8, .int .u8], 0, [], 32, .array 16 230, false⟩
theorem T231_ok : TIok Tryz.prog 231 T231 := tiok_mk (i := Tryz.t231) Tryz.underlying231 Tryz.type231 rfl rfl rfl rfl rfl rfl (by kernel_rfl) (by decide) (by decide) (by decide) rfl (fun h => by cases h)
theorem T231_sz : T231.sz = 32 := rfl
theorem T231_pty : T231.pty = .agg [.int .u8, .int .u8, .int .u8, .int .u8, .int .u8, .int .u8, .int .u8, .int .u8, .int .u8, .int .u8, .int .u8, .int .u8, .int .u8, .int .u8, .int .u8, .int .u8, .int .u8, .int .u8, .int .u8, .int .u8, .int .u8, .int .u8, .int .u8, .int .u8, .int .u8, .int .u8, .int .u8, .int .u8, .int .u8, .int .u8, .int .u8, .int .u8] := rfl
/-- *errors.errorString -/
noncomputable def T234 : TI := ⟨false, [.opq], 0, [], 8, .pointer 236, false⟩
theorem T234_ok : TIok Tryz.prog 234 T234 := tiok_mk (i := Tryz.t234) Tryz.underlying234 Tryz.type234 rfl rfl rfl rfl rfl rfl (by kernel_rfl) (by decide) (by decide) (by decide) rfl (fun h => by cases h)
theorem T234_sz : T234.sz = 1 := rfl
theorem T234_pty : T234.pty = .opq := rfl
/-- a struct -/
noncomputable def T235 : TI := ⟨true, [.str], 0, [(0, 9)], 16, .struct (match Tryz.t235.desc with | .struct fs => fs | _ => #[]), true⟩
theorem T235_ok : TIok Tryz.prog 235 T235 := tiok_mk (i := Tryz.t235) Tryz.underlying235 Tryz.type235 rfl rfl rfl rfl rfl rfl (by kernel_rfl) (by decide) (by decide) (by decide) rfl (fun _ => ⟨Tryz.stoodInHeld235, Tryz.eqGuardType235⟩)
theorem T235_sz : T235.sz = 1 := rfl
theorem T235_pty : T235.pty = .agg [.str] := rfl
/-- errors.errorString -/
noncomputable def T236 : TI := ⟨true, [.str], 0, [(0, 9)], 16, .struct (match Tryz.t235.desc with | .struct fs => fs | _ => #[]), true⟩
theorem T236_ok : TIok Tryz.prog 236 T236 := tiok_mk (i := Tryz.t236) Tryz.underlying236 Tryz.type236 rfl rfl rfl rfl rfl rfl (by kernel_rfl) (by decide) (by decide) (by decide) rfl (fun _ => ⟨Tryz.stoodInHeld236, Tryz.eqGuardType236⟩)
theorem T236_sz : T236.sz = 1 := rfl
theorem T236_pty : T236.pty = .agg [.str] := rfl
/-- [32]uint8 -/
noncomputable def T238 : TI := ⟨true, [.int .u8, .int .u8, .int .u8, .int .u8, .int .u8, .int .u8, .int .u8, .int .u8, .int .u8, .int .u8, .int .u8, .int .u8, .int .u8, .int .u8, .int .u8, .int .u8, .int .u8, .int .u8, .int .u8, .int .u8, .int .u8, .int .u8, .int .u8, .int .u8, .int .u8, .int .u8, .int .u8, .int .u8, .int .u8, .int .u8, .int .u8, .int .u8], 0, [], 32, .array 32 5, false⟩
theorem T238_ok : TIok Tryz.prog 238 T238 := tiok_mk (i := Tryz.t238) Tryz.underlying238 Tryz.type238 rfl rfl rfl rfl rfl rfl (by kernel_rfl) (by decide) (by decide) (by decide) rfl (fun h => by cases h)
theorem T238_sz : T238.sz = 32 := rfl
theorem T238_pty : T238.pty = .agg [.int .u8, .int .u8, .int .u8, .int .u8, .int .u8, .int .u8, .int .u8, .int .u8, .int .u8, .int .u8, .int .u8, .int .u8, .int .u8, .int .u8, .int .u8, .int .u8, .int .u8, .int .u8, .int .u8, .int .u8, .int .u8, .int .u8, .int .u8, .int .u8, .int .u8, .int .u8, .int .u8, .int .u8, .int .u8, .int .u8, .int .u8, .int .u8] := rfl
/-- [64]uint8 -/
noncomputable def T239 : TI := ⟨true, [.int .u8, .int .u8, .int .u8, .int .u8, .int .u8, .int .u8, .int .u8, .int .u8, .int .u8, .int .u8, .int .u8, .int .u8, .int .u8, .int .u8, .int .u8, .int .u8, .int .u8, .int .u8, .int .u8, .int .u8, .int .u8, .int .u8, .int .u8, .int .u8, .int .u8, .int .u8, .int .u8, .int .u8, .int .u8, .int .u8, .int .u8, .int .u8, .int .u8, .int .u8, .int .u8, .int .u8, .int .u8, .int .u8, .int .u8, .int .u8, .int .u8, .int .u8, .int .u8, .int .u8, .int .u8, .int .u8, .int .u8, .int .u8, .int .u8, .int .u8, .int .u8, .int .u8, .int .u8, .int .u8, .int .u8, .int .u8, .int .u8, .int .u8, .int .u8, .int .u8, .int .u8, .int .u8, .int .u8, .int .u8], 0, [], 64, .array 64 5, false⟩
theorem T239_ok : TIok Tryz.prog 239 T239 := tiok_mk (i := Tryz.t239) Tryz.underlying239 Tryz.type239 rfl rfl rfl rfl rfl rfl (by kernel_rfl) (by decide) (by decide) (by decide) rfl (fun h => by cases h)
theorem T239_sz : T239.sz = 64 := rfl
theorem T239_pty : T239.pty = .agg [.int .u8, .int .u8, .int .u8, .int .u8, .int .u8, .int .u8, .int .u8, .int .u8, .int .u8, .int .u8, .int .u8, .int .u8, .int .u8, .int .u8, .int .u8, .int .u8, .int .u8, .int .u8, .int .u8, .int .u8, .int .u8, .int .u8, .int .u8, .int .u8, .int .u8, .int .u8, .int .u8, .int .u8, .int .u8, .int .u8, .int .u8, .int .u8, .int .u8, .int .u8, .int .u8, .int .u8, .int .u8, .int .u8, .int .u8, .int .u8, .int .u8, .int .u8, .int .u8, .int .u8, .int .u8, .int .u8, .int .u8, .int .u8, .int .u8, .int .u8, .int .u8, .int .u8, .int .u8, .int .u8, .int .u8, .int .u8, .int .u8, .int .u8, .int .u8, .int .u8, .int .u8, .int .u8, .int .u8, .int .u8] := rfl
/-- a struct -/
noncomputable def T240 : TI := ⟨true, [.opq, .opq, .opq, .str], 0, [(0, 17), (1, 17), (2, 17), (3, 9)], 40, .struct (match Tryz.t240.desc with | .struct fs => fs | _ => #[]), false⟩
theorem T240_ok : TIok Tryz.prog 240 T240 := tiok_mk (i := Tryz.t240) Tryz.underlying240 Tryz.type240 rfl rfl rfl rfl rfl rfl (by kernel_rfl) (by decide) (by decide) (by decide) rfl (fun h => by cases h)
theorem T240_sz : T240.sz = 4 := rfl
theorem T240_pty : T240.pty = .agg [.opq, .opq, .opq, .str] := rfl
/-- runtime.TypeAssertionError -/
noncomputable def T241 : TI := ⟨true, [.opq, .opq, .opq, .str], 0, [(0, 17), (1, 17), (2, 17), (3, 9)], 40, .struct (match Tryz.t240.desc with | .struct fs => fs | _ => #[]), false⟩
theorem T241_ok : TIok Tryz.prog 241 T241 := tiok_mk (i := Tryz.t241) Tryz.underlying241 Tryz.type241 rfl rfl rfl rfl rfl rfl (by kernel_rfl) (by decide) (by decide) (by decide) rfl (fun h => by cases h)
theorem T241_sz : T241.sz = 4 := rfl
theorem T241_pty : T241.pty = .agg [.opq, .opq, .opq, .str] := rfl
/-- abi.TFlag -/
noncomputable def T245 : TI := ⟨false, [.int .u8], 0, [], 1, .int .u8, false⟩
theorem T245_ok : TIok Tryz.prog 245 T245 := tiok_mk (i := Tryz.t245) Tryz.underlying245 Tryz.type245 rfl rfl rfl rfl rfl rfl (by kernel_rfl) (by decide) (by decide) (by decide) rfl (fun h => by cases h)
theorem T245_sz : T245.sz = 1 := rfl
theorem T245_pty : T245.pty = .int .u8 := rfl
/-- abi.Kind -/
noncomputable def T246 : TI := ⟨false, [.int .u8], 0, [], 1, .int .u8, false⟩
theorem T246_ok : TIok Tryz.prog 246 T246 := tiok_mk (i := Tryz.t246) Tryz.underlying246 Tryz.type246 rfl rfl rfl rfl rfl rfl (by kernel_rfl) (by decide) (by decide) (by decide) rfl (fun h => by cases h)
theorem T246_sz : T246.sz = 1 := rfl
theorem T246_pty : T246.pty = .int .u8 := rfl
/-- abi.NameOff -/
noncomputable def T248 : TI := ⟨false, [.int .i32], 0, [], 4, .int .i32, false⟩
theorem T248_ok : TIok Tryz.prog 248 T248 := tiok_mk (i := Tryz.t248) Tryz.underlying248 Tryz.type248 rfl rfl rfl rfl rfl rfl (by kernel_rfl) (by decide) (by decide) (by decide) rfl (fun h => by cases h)
theorem T248_sz : T248.sz = 1 := rfl
theorem T248_pty : T248.pty = .int .i32 := rfl
/-- abi.TypeOff -/
noncomputable def T249 : TI := ⟨false, [.int .i32], 0, [], 4, .int .i32, false⟩
theorem T249_ok : TIok Tryz.prog 249 T249 := tiok_mk (i := Tryz.t249) Tryz.underlying249 Tryz.type249 rfl rfl rfl rfl rfl rfl (by kernel_rfl) (by decide) (by decide) (by decide) rfl (fun h => by cases h)
theorem T249_sz : T249.sz = 1 := rfl
theorem T249_pty : T249.pty = .int .i32 := rfl
noncomputable def tyTab : List (Nat × TI) := [(2, T2), (3, T3), (4, T4), (5, T5), (6, T6), (7, T7), (8, T8), (9, T9), (10, T10), (11, T11), (12, T12), (13, T13), (14, T14), (15, T15), (16, T16), (17, T17), (18, T18), (19, T19), (21, T21), (22, T22), (23, T23), (24, T24), (25, T25), (26, T26), (27, T27), (28, T28), (29, T29), (32, T32), (33, T33), (34, T34), (38, T38), (39, T39), (40, T40), (50, T50), (78, T78), (93, T93), (94, T94), (98, T98), (103, T103), (112, T112), (113, T113), (116, T116), (117, T117), (118, T118), (120, T120), (121, T121), (136, T136), (137, T137), (142, T142), (144, T144), (147, T147), (149, T149), (150, T150), (152, T152), (153, T153), (164, T164), (165, T165), (171, T171), (172, T172), (176, T176), (178, T178), (180, T180), (181, T181), (188, T188), (192, T192), (195, T195), (200, T200), (202, T202), (203, T203), (208, T208), (224, T224), (229, T229), (230, T230), (231, T231), (234, T234), (235, T235), (236, T236), (238, T238), (239, T239), (240, T240), (241, T241), (245, T245), (246, T246), (248, T248), (249, T249)]
theorem ty2 : lk tyTab 2 = some T2 := rfl
theorem ty3 : lk tyTab 3 = some T3 := rfl
theorem ty4 : lk tyTab 4 = some T4 := rfl
theorem ty5 : lk tyTab 5 = some T5 := rfl
theorem ty6 : lk tyTab 6 = some T6 := rfl
theorem ty7 : lk tyTab 7 = some T7 := rfl
theorem ty8 : lk tyTab 8 = some T8 := rfl
theorem ty9 : lk tyTab 9 = some T9 := rfl
theorem ty10 : lk tyTab 10 = some T10 := rfl
theorem ty11 : lk tyTab 11 = some T11 := rfl
theorem ty12 : lk tyTab 12 = some T12 := rfl
theorem ty13 : lk tyTab 13 = some T13 := rfl
theorem ty14 : lk tyTab 14 = some T14 := rfl
theorem ty15 : lk tyTab 15 = some T15 := rfl
theorem ty16 : lk tyTab 16 = some T16 := rfl
theorem ty17 : lk tyTab 17 = some T17 := rfl
theorem ty18 : lk tyTab 18 = some T18 := rfl
theorem ty19 : lk tyTab 19 = some T19 := rfl
theorem ty21 : lk tyTab 21 = some T21 := rfl
theorem ty22 : lk tyTab 22 = some T22 := rfl
theorem ty23 : lk tyTab 23 = some T23 := rfl
theorem ty24 : lk tyTab 24 = some T24 := rfl
theorem ty25 : lk tyTab 25 = some T25 := rfl
theorem ty26 : lk tyTab 26 = some T26 := rfl
theorem ty27 : lk tyTab 27 = some T27 := rfl
theorem ty28 : lk tyTab 28 = some T28 := rfl
theorem ty29 : lk tyTab 29 = some T29 := rfl
theorem ty32 : lk tyTab 32 = some T32 := rfl
theorem ty33 : lk tyTab 33 = some T33 := rfl
theorem ty34 : lk tyTab 34 = some T34 := rfl
theorem ty38 : lk tyTab 38 = some T38 := rfl
theorem ty39 : lk tyTab 39 = some T39 := rfl
theorem ty40 : lk tyTab 40 = some T40 := rfl
theorem ty50 : lk tyTab 50 = some T50 := rfl
theorem ty78 : lk tyTab 78 = some T78 := rfl
theorem ty93 : lk tyTab 93 = some T93 := rfl
theorem ty94 : lk tyTab 94 = some T94 := rfl
theorem ty98 : lk tyTab 98 = some T98 := rfl
theorem ty103 : lk tyTab 103 = some T103 := rfl
theorem ty112 : lk tyTab 112 = some T112 := rfl
theorem ty113 : lk tyTab 113 = some T113 := rfl
theorem ty116 : lk tyTab 116 = some T116 := rfl
theorem ty117 : lk tyTab 117 = some T117 := rfl
theorem ty118 : lk tyTab 118 = some T118 := rfl
theorem ty120 : lk tyTab 120 = some T120 := rfl
theorem ty121 : lk tyTab 121 = some T121 := rfl
theorem ty136 : lk tyTab 136 = some T136 := rfl
theorem ty137 : lk tyTab 137 = some T137 := rfl
theorem ty142 : lk tyTab 142 = some T142 := rfl
theorem ty144 : lk tyTab 144 = some T144 := rfl
theorem ty147 : lk tyTab 147 = some T147 := rfl
theorem ty149 : lk tyTab 149 = some T149 := rfl
theorem ty150 : lk tyTab 150 = some T150 := rfl
theorem ty152 : lk tyTab 152 = some T152 := rfl
theorem ty153 : lk tyTab 153 = some T153 := rfl
theorem ty164 : lk tyTab 164 = some T164 := rfl
theorem ty165 : lk tyTab 165 = some T165 := rfl
theorem ty171 : lk tyTab 171 = some T171 := rfl
theorem ty172 : lk tyTab 172 = some T172 := rfl
theorem ty176 : lk tyTab 176 = some T176 := rfl
theorem ty178 : lk tyTab 178 = some T178 := rfl
theorem ty180 : lk tyTab 180 = some T180 := rfl
theorem ty181 : lk tyTab 181 = some T181 := rfl
theorem ty188 : lk tyTab 188 = some T188 := rfl
theorem ty192 : lk tyTab 192 = some T192 := rfl
theorem ty195 : lk tyTab 195 = some T195 := rfl
theorem ty200 : lk tyTab 200 = some T200 := rfl
theorem ty202 : lk tyTab 202 = some T202 := rfl
theorem ty203 : lk tyTab 203 = some T203 := rfl
theorem ty208 : lk tyTab 208 = some T208 := rfl
theorem ty224 : lk tyTab 224 = some T224 := rfl
theorem ty229 : lk tyTab 229 = some T229 := rfl
theorem ty230 : lk tyTab 230 = some T230 := rfl
theorem ty231 : lk tyTab 231 = some T231 := rfl
theorem ty234 : lk tyTab 234 = some T234 := rfl
theorem ty235 : lk tyTab 235 = some T235 := rfl
theorem ty236 : lk tyTab 236 = some T236 := rfl
theorem ty238 : lk tyTab 238 = some T238 := rfl
theorem ty239 : lk tyTab 239 = some T239 := rfl
theorem ty240 : lk tyTab 240 = some T240 := rfl
theorem ty241 : lk tyTab 241 = some T241 := rfl
theorem ty245 : lk tyTab 245 = some T245 := rfl
theorem ty246 : lk tyTab 246 = some T246 := rfl
theorem ty248 : lk tyTab 248 = some T248 := rfl
theorem ty249 : lk tyTab 249 = some T249 := rfl
theorem tyTab_ok (fns : List ((Nat × List Nat) × FSpec)) : EnvTy Tryz.prog ⟨tyTab, fns⟩ := by
  have key : ∀ l : List (Nat × TI), (∀ p ∈ l, TIok Tryz.prog p.1 p.2) → ∀ t ti, lk l t = some ti → TIok Tryz.prog t ti := by
    intro l
    induction l with
    | nil => intro _ t ti h; cases h
    | cons p l ih =>
      intro hl t ti h
      obtain ⟨i, x⟩ := p
      simp only [lk] at h
      split at h
      · rename_i e; subst e; cases h; exact hl (i, ti) (by simp)
      · exact ih (fun p hp => hl p (by simp [hp])) t ti h
  refine key tyTab ?_
  simp only [tyTab, List.mem_cons, List.not_mem_nil, or_false, forall_eq_or_imp, forall_eq]
  exact ⟨T2_ok, T3_ok, T4_ok, T5_ok, T6_ok, T7_ok, T8_ok, T9_ok, T10_ok, T11_ok, T12_ok, T13_ok, T14_ok, T15_ok, T16_ok, T17_ok, T18_ok, T19_ok, T21_ok, T22_ok, T23_ok, T24_ok, T25_ok, T26_ok, T27_ok, T28_ok, T29_ok, T32_ok, T33_ok, T34_ok, T38_ok, T39_ok, T40_ok, T50_ok, T78_ok, T93_ok, T94_ok, T98_ok, T103_ok, T112_ok, T113_ok, T116_ok, T117_ok, T118_ok, T120_ok, T121_ok, T136_ok, T137_ok, T142_ok, T144_ok, T147_ok, T149_ok, T150_ok, T152_ok, T153_ok, T164_ok, T165_ok, T171_ok, T172_ok, T176_ok, T178_ok, T180_ok, T181_ok, T188_ok, T192_ok, T195_ok, T200_ok, T202_ok, T203_ok, T208_ok, T224_ok, T229_ok, T230_ok, T231_ok, T234_ok, T235_ok, T236_ok, T238_ok, T239_ok, T240_ok, T241_ok, T245_ok, T246_ok, T248_ok, T249_ok⟩
theorem mixed : Tryz.prog.follows .mixedOrders = true := by kernel_rfl
theorem gt0 : lk GT 0 = some (.int .u32, G0) := rfl
theorem G0_len : G0.length = 8 := rfl
attribute [simp] gt0 G0_len
theorem gt1 : lk GT 1 = some (.int .u32, G1) := rfl
theorem G1_len : G1.length = 64 := rfl
attribute [simp] gt1 G1_len
theorem gt5 : lk GT 5 = some (.int .u64, G5) := rfl
theorem G5_len : G5.length = 20 := rfl
attribute [simp] gt5 G5_len
attribute [simp] nth_fold nth_zero nth_succ pv_I pv_B pv_S pv_L pv_A pv_at lv_int lv_bool lv_str lv_list lv_agg PTy.leaves PTy.wd inR TI.sz TI.pty lk set1 memB anyB kill strike stillH unpath still prom proms dpB dpAll ndB isNil shOk takeIn takeOk St.slot ofConst1 ofConsts ofConst St.ev SV.cells SV.ofCells SV.leafB leafAll fixL zeroSV zeroSVs zeroLf zeroLfs zeroPV resL resLs resB resBs resT resTs resEs introL noP elP introV introVs packV binI eqSVs shpV binS imp evs closes findFn slsOf slsAll argLs argsLs pathOf rdHs1 rdHsL rdHs rdsHs rdOk lendOk backL backs ownersOf allRd soleMt firstP callRd callPt callOw callOwn callRes idxs oprs fillSV partsOk convRes viewE viewA pathE pathA sliceRes evO etaL storeEl loadEl flatL flatLs flatB leafD leafDs dataB ownO sameO isStruct aggOk leafAt srcOf joinB joinOk appRes copyTo copyRes builtinRes loadHy eqCs lvsOf opRes0 svInts repT leafB arrRes opRes nilRes guardOf csz ksz unwd dstOk putS vcK vwCall skipR stepD vcD growP rdCall convP slcB rn entV entVs entR entO entH hlts domH entA entL ent itVal hsV hsVs itSlots itBoxes dropL hsL hsA onlyR gcH gcA itReach itLay itSt mr mrs itRho itOk introB introBs introR introX introT introTs lkAll numb resMs retOk mtTy bxCs mtSls mtHs finFr finOf SV.lt SV.lts IntKind.min IntKind.max IntKind.signed IntKind.bits LIM
attribute [simp] ty2 T2_sz T2_pty T2 ty3 T3_sz T3_pty T3 ty4 T4_sz T4_pty T4 ty5 T5_sz T5_pty T5 ty6 T6_sz T6_pty T6 ty7 T7_sz T7_pty T7 ty8 T8_sz T8_pty T8 ty9 T9_sz T9_pty T9 ty10 T10_sz T10_pty T10 ty11 T11_sz T11_pty T11 ty12 T12_sz T12_pty T12 ty13 T13_sz T13_pty T13 ty14 T14_sz T14_pty T14 ty15 T15_sz T15_pty T15 ty16 T16_sz T16_pty T16 ty17 T17_sz T17_pty T17 ty18 T18_sz T18_pty T18 ty19 T19_sz T19_pty T19 ty21 T21_sz T21_pty T21 ty22 T22_sz T22_pty T22 ty23 T23_sz T23_pty T23 ty24 T24_sz T24_pty T24 ty25 T25_sz T25_pty T25 ty26 T26_sz T26_pty T26 ty27 T27_sz T27_pty T27 ty28 T28_sz T28_pty T28 ty29 T29_sz T29_pty T29 ty32 T32_sz T32_pty T32 ty33 T33_sz T33_pty T33 ty34 T34_sz T34_pty T34 ty38 T38_sz T38_pty T38 ty39 T39_sz T39_pty T39 ty40 T40_sz T40_pty T40 ty50 T50_sz T50_pty T50 ty78 T78_sz T78_pty T78 ty93 T93_sz T93_pty T93 ty94 T94_sz T94_pty T94 ty98 T98_sz T98_pty T98 ty103 T103_sz T103_pty T103 ty112 T112_sz T112_pty T112 ty113 T113_sz T113_pty T113 ty116 T116_sz T116_pty T116 ty117 T117_sz T117_pty T117 ty118 T118_sz T118_pty T118 ty120 T120_sz T120_pty T120 ty121 T121_sz T121_pty T121 ty136 T136_sz T136_pty T136 ty137 T137_sz T137_pty T137 ty142 T142_sz T142_pty T142 ty144 T144_sz T144_pty T144 ty147 T147_sz T147_pty T147 ty149 T149_sz T149_pty T149 ty150 T150_sz T150_pty T150 ty152 T152_sz T152_pty T152 ty153 T153_sz T153_pty T153 ty164 T164_sz T164_pty T164 ty165 T165_sz T165_pty T165 ty171 T171_sz T171_pty T171 ty172 T172_sz T172_pty T172 ty176 T176_sz T176_pty T176 ty178 T178_sz T178_pty T178 ty180 T180_sz T180_pty T180 ty181 T181_sz T181_pty T181 ty188 T188_sz T188_pty T188 ty192 T192_sz T192_pty T192 ty195 T195_sz T195_pty T195 ty200 T200_sz T200_pty T200 ty202 T202_sz T202_pty T202 ty203 T203_sz T203_pty T203 ty208 T208_sz T208_pty T208 ty224 T224_sz T224_pty T224 ty229 T229_sz T229_pty T229 ty230 T230_sz T230_pty T230 ty231 T231_sz T231_pty T231 ty234 T234_sz T234_pty T234 ty235 T235_sz T235_pty T235 ty236 T236_sz T236_pty T236 ty238 T238_sz T238_pty T238 ty239 T239_sz T239_pty T239 ty240 T240_sz T240_pty T240 ty241 T241_sz T241_pty T241 ty245 T245_sz T245_pty T245 ty246 T246_sz T246_pty T246 ty248 T248_sz T248_pty T248 ty249 T249_sz T249_pty T249

end Go.Proofs.YtolgjekokdimoaaGreatDoor
end

section
namespace Go.Proofs.YtolgjekokdimoaaGreatDoor
variable [LaidG]
set_option maxRecDepth 100000
set_option linter.unusedSimpArgs false

def inB (n lo hi : Int) : Bool := decide (n ≥ lo) && decide (n ≤ hi)

def c_within : FSpec := ⟨[(.rd, .int .i64), (.rd, .int .i64), (.rd, .int .i64)], [.bool], true, fun _ => True, fun ps => [.bool (inB (nth ps 0).I (nth ps 1).I (nth ps 2).I)], fun _ => []⟩
theorem k_within : FnOk Tryz.prog 68 c_within := by
  refine fn_mk [0, 1, 2, 6] [.tmp 6] (env_nil (tyTab_ok [])) mixed Tryz.func68 rfl (by decide) rfl (by decide) rfl ?_
  intro ps hT hpre W hW
  simp only [c_within, TyA, Ty, Tys] at hT hpre
  obtain ⟨_, _, rfl, ⟨a, rfl, ha⟩, _, _, rfl, ⟨b, rfl, hb⟩, _, _, rfl, ⟨c, rfl, hc⟩, rfl⟩ := hT
  refine hW.vc [] _ _ ?_
  simp [-List.getD_eq_getElem?_getD, c_within, inB]
  try rfl

def c_l01In : FSpec := c_within
theorem k_l01In : FnOk Tryz.prog 70 c_l01In := by
  refine fn_mk [0, 1, 2, 6] [.tmp 6] (env_nil (tyTab_ok [])) mixed Tryz.func70 rfl (by decide) rfl (by decide) rfl ?_
  intro ps hT hpre W hW
  simp only [c_l01In, TyA, Ty, Tys] at hT hpre
  simp only [c_within, TyA, Ty] at hT
  obtain ⟨_, _, rfl, ⟨a, rfl, ha⟩, _, _, rfl, ⟨b, rfl, hb⟩, _, _, rfl, ⟨c, rfl, hc⟩, rfl⟩ := hT
  refine hW.vc [] _ _ ?_
  simp [-List.getD_eq_getElem?_getD, c_l01In, c_within, c_within, inB]
  try rfl

def sizeB (w h : Int) : Bool := inB w 2 24 && inB h 2 10
def c_isSize : FSpec := ⟨[(.rd, .int .i64), (.rd, .int .i64)], [.bool], true, fun _ => True, fun ps => [.bool (sizeB (nth ps 0).I (nth ps 1).I)], fun _ => []⟩
theorem k_isSize : FnOk Tryz.prog 65 c_isSize := by
  refine fn_mk [0, 1, 4] [.tmp 4] (env_cons (cs := []) k_within (env_nil (tyTab_ok []))) mixed Tryz.func65 rfl (by decide) rfl (by decide) rfl ?_
  intro ps hT hpre W hW
  simp only [c_isSize, TyA, Ty, Tys] at hT hpre
  obtain ⟨_, _, rfl, ⟨a, rfl, ha⟩, _, _, rfl, ⟨b, rfl, hb⟩, rfl⟩ := hT
  refine hW.vc [] _ _ ?_
  simp [-List.getD_eq_getElem?_getD, c_isSize, c_within, sizeB]

def c_l04Size : FSpec := c_isSize
theorem k_l04Size : FnOk Tryz.prog 71 c_l04Size := by
  refine fn_mk [0, 1, 4] [.tmp 4] (env_cons (cs := []) k_l01In (env_nil (tyTab_ok []))) mixed Tryz.func71 rfl (by decide) rfl (by decide) rfl ?_
  intro ps hT hpre W hW
  simp only [c_l04Size, TyA, Ty, Tys] at hT hpre
  simp only [c_isSize, TyA, Ty] at hT
  obtain ⟨_, _, rfl, ⟨a, rfl, ha⟩, _, _, rfl, ⟨b, rfl, hb⟩, rfl⟩ := hT
  refine hW.vc [] _ _ ?_
  simp [-List.getD_eq_getElem?_getD, c_l04Size, c_l01In, c_isSize, c_within, c_within, c_isSize, sizeB]

end Go.Proofs.YtolgjekokdimoaaGreatDoor
end

section
namespace Go.Proofs.YtolgjekokdimoaaGreatDoor
variable [LaidG]
set_option maxRecDepth 100000
set_option linter.unusedSimpArgs false

/-- A word turned right. -/
def rotI (x by_ : Int) : Int := orI .u32 (shlI .u32 x (32 - by_)) (shrI .u32 x by_)
theorem orI_comm (k : IntKind) (a b : Int) : orI k a b = orI k b a := by unfold orI; rw [BitVec.or_comm]

def c_Rotate : FSpec := ⟨[(.rd, .int .u32), (.rd, .int .i64)], [.int .u32], true, fun ps => -32 < (nth ps 1).I ∧ (nth ps 1).I < 0, fun ps => [.int .u32 (rotI (nth ps 0).I (-(nth ps 1).I))], fun _ => []⟩
theorem k_Rotate : FnOk Tryz.prog 222 c_Rotate := by
  refine fn_mk [0, 1, 4, 5] [.tmp 4] (env_nil (tyTab_ok [])) mixed Tryz.func222 rfl (by decide) rfl (by decide) rfl ?_
  intro ps hT hpre W hW
  simp only [c_Rotate, TyA, Ty, Tys] at hT hpre
  obtain ⟨_, _, rfl, ⟨x, rfl, hx⟩, _, _, rfl, ⟨b, rfl, hb⟩, rfl⟩ := hT
  simp only [nth_zero, nth_succ, pv_I] at hpre
  obtain ⟨p1, p2⟩ := hpre
  have key : ∀ n : Fin 32, 0 < n.1 → andI .u64 (IntKind.u64.wrap (-(n.1 : Int))) 31 = 32 - n.1 := by decide
  have h1 := key ⟨(-b).toNat, by omega⟩ (by simp only; omega)
  simp only at h1
  have e : (((-b).toNat : Nat) : Int) = -b := by omega
  rw [e, Int.neg_neg] at h1
  refine hW.vc [] _ _ ?_
  simp [-List.getD_eq_getElem?_getD, c_Rotate]
  rw [h1, wrapU64 (by omega)]
  have e3 : (32 : Int) - (32 - -b) = -b := by omega
  rw [e3]
  exact ⟨by omega, by omega, rfl⟩

def c_turned : FSpec := ⟨[(.rd, .int .u32), (.rd, .int .i64)], [.int .u32], true, fun ps => 0 < (nth ps 1).I ∧ (nth ps 1).I < 32, fun ps => [.int .u32 (rotI (nth ps 0).I (nth ps 1).I)], fun _ => []⟩
theorem k_turned : FnOk Tryz.prog 189 c_turned := by
  refine fn_mk [0, 1, 4] [.tmp 4] (env_cons (cs := []) k_Rotate (env_nil (tyTab_ok []))) mixed Tryz.func189 rfl (by decide) rfl (by decide) rfl ?_
  intro ps hT hpre W hW
  simp only [c_turned, TyA, Ty, Tys] at hT hpre
  obtain ⟨_, _, rfl, ⟨x, rfl, hx⟩, _, _, rfl, ⟨b, rfl, hb⟩, rfl⟩ := hT
  simp only [nth_zero, nth_succ, pv_I] at hpre
  obtain ⟨p1, p2⟩ := hpre
  refine hW.vc [] _ _ ?_
  simp [-List.getD_eq_getElem?_getD, c_turned, c_Rotate]
  rw [wrap64 (by omega), Int.neg_neg]
  exact ⟨⟨by omega, by omega⟩, rfl⟩

def c_l01Turn : FSpec := ⟨[(.rd, .int .u32), (.rd, .int .u64)], [.int .u32], true, fun ps => 0 < (nth ps 1).I ∧ (nth ps 1).I < 32, fun ps => [.int .u32 (rotI (nth ps 0).I (nth ps 1).I)], fun _ => []⟩
theorem k_l01Turn : FnOk Tryz.prog 210 c_l01Turn := by
  refine fn_mk [0, 1, 4] [.tmp 4] (env_nil (tyTab_ok [])) mixed Tryz.func210 rfl (by decide) rfl (by decide) rfl ?_
  intro ps hT hpre W hW
  simp only [c_l01Turn, TyA, Ty, Tys] at hT hpre
  obtain ⟨_, _, rfl, ⟨x, rfl, hx⟩, _, _, rfl, ⟨b, rfl, hb⟩, rfl⟩ := hT
  simp only [nth_zero, nth_succ, pv_I] at hpre
  obtain ⟨p1, p2⟩ := hpre
  refine hW.vc [] _ _ ?_
  simp [-List.getD_eq_getElem?_getD, c_l01Turn]
  rw [wrapU64 (by omega)]
  exact ⟨by omega, by omega, by rw [rotI, orI_comm]⟩

end Go.Proofs.YtolgjekokdimoaaGreatDoor
end

section
namespace Go.Proofs.YtolgjekokdimoaaGreatDoor
variable [LaidG]
set_option maxRecDepth 100000
set_option linter.unusedSimpArgs false

def w32 (n : Int) : Int := IntKind.u32.wrap n
def notI (x : Int) : Int := xorI .u32 4294967295 x
def sgm (x a b c : Int) : Int := xorI .u32 (xorI .u32 (rotI x a) (rotI x b)) (rotI x c)
def sgs (x a b c : Int) : Int := xorI .u32 (xorI .u32 (rotI x a) (rotI x b)) (shrI .u32 x c)
def chI (e f g : Int) : Int := orI .u32 (andI .u32 e f) (andI .u32 (notI e) g)
def majI (a b c : Int) : Int := orI .u32 (orI .u32 (andI .u32 a b) (andI .u32 a c)) (andI .u32 b c)

/-- Words behind IntKind's numbers. -/
theorem bv_u32 (x : BitVec 32) : BitVec.ofInt 32 (IntKind.u32.wrap (x.toNat : Int)) = x := by
  have h : IntKind.u32.wrap (x.toNat : Int) = x.toNat := by
    have := x.isLt
    simp [IntKind.wrap, IntKind.signed, IntKind.bits]; omega
  rw [h]; simp
theorem xor32 (a b : Int) : xorI .u32 a b = IntKind.u32.wrap ((BitVec.ofInt 32 a ^^^ BitVec.ofInt 32 b).toNat : Int) := rfl
theorem or32 (a b : Int) : orI .u32 a b = IntKind.u32.wrap ((BitVec.ofInt 32 a ||| BitVec.ofInt 32 b).toNat : Int) := rfl
theorem and32 (a b : Int) : andI .u32 a b = IntKind.u32.wrap ((BitVec.ofInt 32 a &&& BitVec.ofInt 32 b).toNat : Int) := rfl
theorem ch_xor (e f g : Int) : xorI .u32 (andI .u32 e f) (andI .u32 (notI e) g) = chI e f g := by
  simp only [chI, notI, xor32, or32, and32, bv_u32]
  refine congrArg (fun x : BitVec 32 => IntKind.u32.wrap (x.toNat : Int)) ?_
  ext i hi
  simp only [BitVec.getElem_xor, BitVec.getElem_or, BitVec.getElem_and]
  have hm : (BitVec.ofInt 32 4294967295)[i] = true := by
    have : BitVec.ofInt 32 4294967295 = BitVec.allOnes 32 := by decide
    rw [this, BitVec.getElem_allOnes]
  rw [hm]
  cases (BitVec.ofInt 32 e)[i] <;> cases (BitVec.ofInt 32 f)[i] <;> cases (BitVec.ofInt 32 g)[i] <;> rfl
theorem maj_xor (a b c : Int) : xorI .u32 (xorI .u32 (andI .u32 a b) (andI .u32 a c)) (andI .u32 b c) = majI a b c := by
  simp only [majI, xor32, or32, and32, bv_u32]
  refine congrArg (fun x : BitVec 32 => IntKind.u32.wrap (x.toNat : Int)) ?_
  ext i hi
  simp only [BitVec.getElem_xor, BitVec.getElem_or, BitVec.getElem_and]
  cases (BitVec.ofInt 32 a)[i] <;> cases (BitVec.ofInt 32 b)[i] <;> cases (BitVec.ofInt 32 c)[i] <;> rfl

/-- The word at a place of a block of bytes. -/
def wrdI (f : Nat → Int) (j : Nat) : Int := orI .u32 (orI .u32 (orI .u32 (shlI .u32 (f (4 * j)) 24) (shlI .u32 (f (4 * j + 1)) 16)) (shlI .u32 (f (4 * j + 2)) 8)) (f (4 * j + 3))
def nxtI (l : List PV) (n : Nat) : Int := w32 (w32 (w32 ((nth l (n - 16)).I + sgs (nth l (n - 15)).I 7 18 3) + (nth l (n - 7)).I) + sgs (nth l (n - 2)).I 17 19 10)
/-- The first words. -/
def schP (f : Nat → Int) : Nat → List PV
  | 0 => []
  | n + 1 => schP f n ++ [.int .u32 (if n < 16 then wrdI f n else nxtI (schP f n) n)]
theorem schP_len (f : Nat → Int) : ∀ n, (schP f n).length = n
  | 0 => rfl
  | n + 1 => by rw [schP, List.length_append, schP_len f n]; rfl

/-- Eight words. -/
structure S8 where
  a : Int
  b : Int
  c : Int
  d : Int
  e : Int
  f : Int
  g : Int
  h : Int
def S8.p (s : S8) (k w : Int) : Int := w32 (w32 (w32 (w32 (s.h + sgm s.e 6 11 25) + chI s.e s.f s.g) + k) + w)
def S8.q (s : S8) : Int := w32 (sgm s.a 2 13 22 + majI s.a s.b s.c)
def S8.step (s : S8) (k w : Int) : S8 := ⟨w32 (s.p k w + s.q), s.a, s.b, s.c, w32 (s.d + s.p k w), s.e, s.f, s.g⟩
def S8.pv (s : S8) : List PV := [.int .u32 s.a, .int .u32 s.b, .int .u32 s.c, .int .u32 s.d, .int .u32 s.e, .int .u32 s.f, .int .u32 s.g, .int .u32 s.h]
def s8Of (v : List PV) : S8 := ⟨(nth v 0).I, (nth v 1).I, (nth v 2).I, (nth v 3).I, (nth v 4).I, (nth v 5).I, (nth v 6).I, (nth v 7).I⟩
def rnds (K W : List PV) (s : S8) : Nat → S8
  | 0 => s
  | n + 1 => (rnds K W s n).step (nth K n).I (nth W n).I
/-- The first of the sums of two rows. -/
def addP (v r : List PV) : Nat → List PV
  | 0 => []
  | n + 1 => addP v r n ++ [.int .u32 (w32 ((nth v n).I + (nth r n).I))]
theorem addP_len (v r : List PV) : ∀ n, (addP v r n).length = n
  | 0 => rfl
  | n + 1 => by rw [addP, List.length_append, addP_len v r n]; rfl
/-- The state behind a block. -/
def blkP (K : List PV) (v : List PV) (f : Nat → Int) : List PV := addP v (rnds K (schP f 64) (s8Of v) 64).pv 8
theorem blkP_len (K v : List PV) (f : Nat → Int) : (blkP K v f).length = 8 := addP_len _ _ 8

theorem set_at {l : List PV} {z x : PV} {i m : Nat} (hl : l.length = i) (hm : i < m) : (l ++ List.replicate (m - i) z).set i x = (l ++ [x]) ++ List.replicate (m - (i + 1)) z := by
  have e : m - i = (m - (i + 1)) + 1 := by omega
  rw [e, List.replicate_succ, List.set_append_right _ _ (by omega), hl, Nat.sub_self, List.set_cons_zero, List.append_assoc]
  rfl
theorem nth_left {l r : List PV} {i : Nat} (h : i < l.length) : nth (l ++ r) i = nth l i := by simp [nth, List.getElem?_append_left h]

theorem drop_set {a st : List PV} {x : PV} {i : Nat} (ha : a.length = i) (hi : i < st.length) : (a ++ st.drop i).set i x = (a ++ [x]) ++ st.drop (i + 1) := by
  rw [drop_nth hi, List.set_append_right _ _ (by omega), ha, Nat.sub_self, List.set_cons_zero, List.append_assoc]; rfl
theorem drop_at {a st : List PV} {i : Nat} (ha : a.length = i) (hi : i < st.length) : nth (a ++ st.drop i) i = nth st i := by
  rw [drop_nth hi, ← ha]; simp [nth]
theorem pv_getD (s : S8) : ∀ {i : Nat}, i < 8 → [s.a, s.b, s.c, s.d, s.e, s.f, s.g, s.h].getD i 0 = (nth s.pv i).I
  | 0, _ | 1, _ | 2, _ | 3, _ | 4, _ | 5, _ | 6, _ | 7, _ => rfl
  | n + 8, h => by omega

end Go.Proofs.YtolgjekokdimoaaGreatDoor
end

section
namespace Go.Proofs.YtolgjekokdimoaaGreatDoor
variable [LaidG]
variable [LaidN 0] [LaidN 1]
set_option maxRecDepth 100000
set_option linter.unusedSimpArgs false

def byteF (l : List UInt8) (k : Nat) : Int := ((l.getD k 0).toNat : Int)
theorem wB (x : UInt8) : IntKind.u32.wrap (x.toNat : Int) = x.toNat := by
  have := x.toNat_lt
  simp [IntKind.wrap, IntKind.signed, IntKind.bits]; omega
def c_hashBlock : FSpec := ⟨[(.bx, .abx (.int .u32)), (.rd, .str)], [], true, fun ps => (nth ps 0).L.length = 8 ∧ (nth ps 1).S.length = 64, fun _ => [], fun ps => [.list (blkP G1 (nth ps 0).L (byteF (nth ps 1).S))]⟩
set_option maxHeartbeats 4000000 in
theorem k_hashBlock : FnOk Tryz.prog 159 c_hashBlock := by
  refine fn_mk [0, 1, 4, 5, 6, 7, 8, 9, 10, 11, 12, 13, 14, 15, 16, 17, 18, 19, 20, 21, 127, 198, 199] [] (env_cons (cs := []) k_turned (env_nil (tyTab_ok []))) mixed Tryz.func159 rfl (by decide) rfl (by decide) rfl ?_
  intro ps hT hpre W hW
  simp only [c_hashBlock, TyA, Ty, Tys] at hT hpre
  obtain ⟨_, _, rfl, ⟨st, rfl, tst⟩, _, _, rfl, ⟨b, rfl, hb⟩, rfl⟩ := hT
  simp only [nth_zero, nth_succ, pv_L, pv_S] at hpre
  obtain ⟨p1, p2⟩ := hpre
  refine hW.vc [] _ _ ?_
  simp [-List.getD_eq_getElem?_getD, c_hashBlock, c_turned]
  refine hW.cutS [_, _] _ _ [.ax 4, .sl 21 .dp (.int .i64)] (fun ys => ys = [.list (schP (byteF b) 64), .int .i64 64]) ?_ ?_
  · refine hW.loopS _ _ _ [.ax 4, .sl 21 .dp (.int .i64)] (fun ys => ∃ i : Nat, ys = [.list (schP (byteF b) i ++ List.replicate (64 - i) (.int .u32 0)), .int .i64 i] ∧ i ≤ 64) (fun ys => 64 - (nth ys 1).I.toNat) ?_ ?_
    · simp [-List.getD_eq_getElem?_getD, c_hashBlock, c_turned]
      exact ⟨0, ⟨rfl, rfl⟩, by omega⟩
    · rintro ys ⟨i, rfl, g1⟩
      refine hW.vc [(5, [31], .take 0 <| .take 1 <| .take 2 <| .take 3 <| .take 4 <| .take 5 <| .take 6 <| .take 7 <| .take 8 <| .take 9 <| .take 10 <| .take 11 <| .take 12 <| .take 13 <| .take 14 <| .take 15 <| .take 16 <| .take 17 <| .take 18 <| .take 19 <| .take 20 <| .take 21 <| .take 22 <| .take 23 <| .take 24 <| .take 25 <| .take 26 <| .take 27 <| .take 28 <| .take 29 <| .take 30 <| .alt 31 (.done) .stop), (6, [], .take 0 <| .take 1 <| .take 2 <| .take 3 <| .take 4 <| .take 5 <| .take 6 <| .take 7 <| .alt 8 (.alt 9 (.done) .stop) .stop), (7, [29], .take 0 <| .take 1 <| .take 2 <| .take 3 <| .take 4 <| .take 5 <| .take 7 <| .take 10 <| .take 11 <| .take 14 <| .take 15 <| .take 16 <| .take 17 <| .take 19 <| .take 21 <| .take 24 <| .take 25 <| .alt 6 (.alt 8 (.take 9 <| .take 12 <| .take 13 <| .take 18 <| .alt 20 (.alt 22 (.take 23 <| .take 26 <| .take 27 <| .take 28 <| .alt 29 (.done) .stop) .stop) .stop) .stop) .stop), (9, [], .take 0 <| .take 1 <| .take 2 <| .take 3 <| .take 4 <| .take 5 <| .take 6 <| .take 7 <| .take 8 <| .take 9 <| .take 10 <| .take 11 <| .take 12 <| .take 13 <| .take 14 <| .take 15 <| .take 16 <| .take 17 <| .take 18 <| .take 19 <| .take 20 <| .take 21 <| .take 22 <| .take 23 <| .take 24 <| .take 25 <| .take 26 <| .take 27 <| .take 28 <| .take 29 <| .take 30 <| .take 31 <| .alt 32 (.alt 33 (.alt 34 (.alt 35 (.alt 36 (.alt 37 (.alt 38 (.alt 39 (.done) .stop) .stop) .stop) .stop) .stop) .stop) .stop) .stop), (13, [], .take 0 <| .take 1 <| .take 3 <| .take 6 <| .take 10 <| .take 11 <| .take 12 <| .take 13 <| .take 14 <| .take 15 <| .take 16 <| .take 17 <| .take 19 <| .take 20 <| .take 21 <| .take 23 <| .take 24 <| .take 25 <| .alt 2 (.alt 4 (.take 5 <| .alt 7 (.take 8 <| .take 9 <| .take 18 <| .take 22 <| .take 26 <| .alt 27 (.done) .stop) .stop) .stop) .stop), (20, [9], .take 0 <| .take 1 <| .take 2 <| .take 3 <| .take 4 <| .take 5 <| .take 6 <| .take 7 <| .take 8 <| .alt 9 (.done) .stop)] _ _ ?_
      simp [-List.getD_eq_getElem?_getD, c_hashBlock, c_turned]
      have hl := schP_len (byteF b) i
      have a0 : IntKind.i64.wrap (4 * (i : Int)) = ((4 * i : Nat) : Int) := by rw [wrap64 (by omega)]; omega
      have a1 : IntKind.i64.wrap (((4 * i : Nat) : Int) + 1) = ((4 * i + 1 : Nat) : Int) := by rw [wrap64 (by omega)]; omega
      have a2 : IntKind.i64.wrap (((4 * i : Nat) : Int) + 2) = ((4 * i + 2 : Nat) : Int) := by rw [wrap64 (by omega)]; omega
      have a3 : IntKind.i64.wrap (((4 * i : Nat) : Int) + 3) = ((4 * i + 3 : Nat) : Int) := by rw [wrap64 (by omega)]; omega
      rw [a0, a1, a2, a3]
      simp only [Int.toNat_natCast, wB]
      refine ⟨fun h64 => ⟨fun h16 => ?_, fun h16 => ?_⟩, fun h64 => ?_⟩
      · refine ⟨by decide +kernel, ⟨by omega, by omega⟩, ⟨by omega, by omega⟩, ⟨by omega, by omega⟩, ⟨by omega, by omega⟩, ⟨h64, by omega⟩, by omega, ⟨i + 1, ⟨?_, wrap64 (by omega)⟩, by omega⟩, by rw [wrap64 (by omega)]; omega⟩
        rw [set_at hl (by omega), schP, if_pos (by omega)]
        rfl
      · have c15 : IntKind.i64.wrap ((i : Int) - 15) = ((i - 15 : Nat) : Int) := by rw [wrap64 (by omega)]; omega
        have c2 : IntKind.i64.wrap ((i : Int) - 2) = ((i - 2 : Nat) : Int) := by rw [wrap64 (by omega)]; omega
        have c16 : IntKind.i64.wrap ((i : Int) - 16) = ((i - 16 : Nat) : Int) := by rw [wrap64 (by omega)]; omega
        have c7 : IntKind.i64.wrap ((i : Int) - 7) = ((i - 7 : Nat) : Int) := by rw [wrap64 (by omega)]; omega
        rw [c15, c2, c16, c7]
        simp only [Int.toNat_natCast]
        rw [nth_left (by omega : i - 15 < (schP (byteF b) i).length), nth_left (by omega : i - 2 < (schP (byteF b) i).length), nth_left (by omega : i - 16 < (schP (byteF b) i).length), nth_left (by omega : i - 7 < (schP (byteF b) i).length)]
        refine ⟨by decide +kernel, ⟨by omega, by omega, by omega⟩, by omega, fun _ => ⟨⟨by omega, by omega, by omega⟩, by omega, fun _ => ⟨by decide +kernel, ⟨by omega, by omega, by omega⟩, by omega, fun _ => ⟨⟨by omega, by omega, by omega⟩, by omega, fun _ => ⟨⟨h64, by omega⟩, by omega, ⟨i + 1, ⟨?_, wrap64 (by omega)⟩, by omega⟩, by rw [wrap64 (by omega)]; omega⟩⟩⟩⟩⟩
        rw [set_at hl (by omega), schP, if_neg (by omega)]
        rfl
      · have e : i = 64 := by omega
        subst e
        exact ⟨by simp, rfl⟩
  · rintro ys rfl
    refine hW.vc [(9, [], .take 0 <| .take 1 <| .take 2 <| .take 3 <| .take 4 <| .take 5 <| .take 6 <| .take 7 <| .take 8 <| .take 9 <| .take 10 <| .take 11 <| .take 12 <| .take 13 <| .take 14 <| .take 15 <| .take 16 <| .take 17 <| .take 18 <| .take 19 <| .take 20 <| .take 21 <| .take 22 <| .take 23 <| .take 24 <| .take 25 <| .take 26 <| .take 27 <| .take 28 <| .take 29 <| .take 30 <| .take 31 <| .alt 32 (.alt 33 (.alt 34 (.alt 35 (.alt 36 (.alt 37 (.alt 38 (.alt 39 (.done) .stop) .stop) .stop) .stop) .stop) .stop) .stop) .stop)] _ _ ?_
    simp [-List.getD_eq_getElem?_getD, c_hashBlock, c_turned]
    refine ⟨by decide +kernel, by omega, by omega, fun _ => ⟨by omega, by omega, fun _ => ⟨by omega, by omega, fun _ => ⟨by omega, by omega, fun _ => ⟨by omega, by omega, fun _ => ⟨by omega, by omega, fun _ => ⟨by omega, by omega, fun _ => ⟨by omega, by omega, fun _ => ?_⟩⟩⟩⟩⟩⟩⟩⟩
    obtain ⟨W64, hW64⟩ : ∃ L, L = schP (byteF b) 64 := ⟨_, rfl⟩
    have wl : W64.length = 64 := by rw [hW64, schP_len]
    obtain ⟨rs, hrs⟩ : ∃ rs : Nat → S8, rs = rnds G1 W64 (s8Of st) := ⟨_, rfl⟩
    have hr0 : rs 0 = s8Of st := by rw [hrs]; rfl
    have hrS : ∀ i, rs (i + 1) = (rs i).step (nth G1 i).I (nth W64 i).I := fun i => by rw [hrs]; rfl
    rw [← hW64]
    refine hW.cutS [_, _] _ _ [.sl 8 .dp (.int .u32), .sl 9 .dp (.int .u32), .sl 10 .dp (.int .u32), .sl 11 .dp (.int .u32), .sl 12 .dp (.int .u32), .sl 13 .dp (.int .u32), .sl 14 .dp (.int .u32), .sl 15 .dp (.int .u32), .sl 127 .dp (.int .i64)]
      (fun ys => ys = [.int .u32 (rs 64).a, .int .u32 (rs 64).b, .int .u32 (rs 64).c, .int .u32 (rs 64).d, .int .u32 (rs 64).e, .int .u32 (rs 64).f, .int .u32 (rs 64).g, .int .u32 (rs 64).h, .int .i64 64]) ?_ ?_
    · refine hW.loopS _ _ _ [.sl 8 .dp (.int .u32), .sl 9 .dp (.int .u32), .sl 10 .dp (.int .u32), .sl 11 .dp (.int .u32), .sl 12 .dp (.int .u32), .sl 13 .dp (.int .u32), .sl 14 .dp (.int .u32), .sl 15 .dp (.int .u32), .sl 127 .dp (.int .i64)]
        (fun ys => ∃ i : Nat, ys = [.int .u32 (rs i).a, .int .u32 (rs i).b, .int .u32 (rs i).c, .int .u32 (rs i).d, .int .u32 (rs i).e, .int .u32 (rs i).f, .int .u32 (rs i).g, .int .u32 (rs i).h, .int .i64 i] ∧ i ≤ 64) (fun ys => 64 - (nth ys 8).I.toNat) ?_ ?_
      · simp [-List.getD_eq_getElem?_getD, c_hashBlock, c_turned]
        refine ⟨0, ?_, by omega⟩
        rw [hr0]
        and_intros <;> rfl
      · rintro ys ⟨i, rfl, g1⟩
        refine hW.vc [(5, [31], .take 0 <| .take 1 <| .take 2 <| .take 3 <| .take 4 <| .take 5 <| .take 6 <| .take 7 <| .take 8 <| .take 9 <| .take 10 <| .take 11 <| .take 12 <| .take 13 <| .take 14 <| .take 15 <| .take 16 <| .take 17 <| .take 18 <| .take 19 <| .take 20 <| .take 21 <| .take 22 <| .take 23 <| .take 24 <| .take 25 <| .take 26 <| .take 27 <| .take 28 <| .take 29 <| .take 30 <| .alt 31 (.done) .stop), (6, [], .take 0 <| .take 1 <| .take 2 <| .take 3 <| .take 4 <| .take 5 <| .take 6 <| .take 7 <| .alt 8 (.alt 9 (.done) .stop) .stop), (7, [29], .take 0 <| .take 1 <| .take 2 <| .take 3 <| .take 4 <| .take 5 <| .take 7 <| .take 10 <| .take 11 <| .take 14 <| .take 15 <| .take 16 <| .take 17 <| .take 19 <| .take 21 <| .take 24 <| .take 25 <| .alt 6 (.alt 8 (.take 9 <| .take 12 <| .take 13 <| .take 18 <| .alt 20 (.alt 22 (.take 23 <| .take 26 <| .take 27 <| .take 28 <| .alt 29 (.done) .stop) .stop) .stop) .stop) .stop), (9, [], .take 0 <| .take 1 <| .take 2 <| .take 3 <| .take 4 <| .take 5 <| .take 6 <| .take 7 <| .take 8 <| .take 9 <| .take 10 <| .take 11 <| .take 12 <| .take 13 <| .take 14 <| .take 15 <| .take 16 <| .take 17 <| .take 18 <| .take 19 <| .take 20 <| .take 21 <| .take 22 <| .take 23 <| .take 24 <| .take 25 <| .take 26 <| .take 27 <| .take 28 <| .take 29 <| .take 30 <| .take 31 <| .alt 32 (.alt 33 (.alt 34 (.alt 35 (.alt 36 (.alt 37 (.alt 38 (.alt 39 (.done) .stop) .stop) .stop) .stop) .stop) .stop) .stop) .stop), (13, [], .take 0 <| .take 1 <| .take 3 <| .take 6 <| .take 10 <| .take 11 <| .take 12 <| .take 13 <| .take 14 <| .take 15 <| .take 16 <| .take 17 <| .take 19 <| .take 20 <| .take 21 <| .take 23 <| .take 24 <| .take 25 <| .alt 2 (.alt 4 (.take 5 <| .alt 7 (.take 8 <| .take 9 <| .take 18 <| .take 22 <| .take 26 <| .alt 27 (.done) .stop) .stop) .stop) .stop), (20, [9], .take 0 <| .take 1 <| .take 2 <| .take 3 <| .take 4 <| .take 5 <| .take 6 <| .take 7 <| .take 8 <| .alt 9 (.done) .stop)] _ _ ?_
        simp [-List.getD_eq_getElem?_getD, c_hashBlock, c_turned]
        refine ⟨fun h => ⟨by decide +kernel, h, by omega, fun _ _ => ⟨⟨h, by omega⟩, by omega, fun _ => ⟨⟨i + 1, ?_, by omega⟩, by rw [wrap64 (by omega)]; omega⟩⟩⟩, fun h => ?_⟩
        · rw [hrS]
          and_intros
          all_goals first | rfl | exact wrap64 (by omega)
        · have e : i = 64 := by omega
          subst e
          and_intros <;> rfl
    · rintro ys rfl
      refine hW.vc [(5, [31], .take 0 <| .take 1 <| .take 2 <| .take 3 <| .take 4 <| .take 5 <| .take 6 <| .take 7 <| .take 8 <| .take 9 <| .take 10 <| .take 11 <| .take 12 <| .take 13 <| .take 14 <| .take 15 <| .take 16 <| .take 17 <| .take 18 <| .take 19 <| .take 20 <| .take 21 <| .take 22 <| .take 23 <| .take 24 <| .take 25 <| .take 26 <| .take 27 <| .take 28 <| .take 29 <| .take 30 <| .alt 31 (.done) .stop), (6, [], .take 0 <| .take 1 <| .take 2 <| .take 3 <| .take 4 <| .take 5 <| .take 6 <| .take 7 <| .alt 8 (.alt 9 (.done) .stop) .stop), (7, [29], .take 0 <| .take 1 <| .take 2 <| .take 3 <| .take 4 <| .take 5 <| .take 7 <| .take 10 <| .take 11 <| .take 14 <| .take 15 <| .take 16 <| .take 17 <| .take 19 <| .take 21 <| .take 24 <| .take 25 <| .alt 6 (.alt 8 (.take 9 <| .take 12 <| .take 13 <| .take 18 <| .alt 20 (.alt 22 (.take 23 <| .take 26 <| .take 27 <| .take 28 <| .alt 29 (.done) .stop) .stop) .stop) .stop) .stop), (9, [], .take 0 <| .take 1 <| .take 2 <| .take 3 <| .take 4 <| .take 5 <| .take 6 <| .take 7 <| .take 8 <| .take 9 <| .take 10 <| .take 11 <| .take 12 <| .take 13 <| .take 14 <| .take 15 <| .take 16 <| .take 17 <| .take 18 <| .take 19 <| .take 20 <| .take 21 <| .take 22 <| .take 23 <| .take 24 <| .take 25 <| .take 26 <| .take 27 <| .take 28 <| .take 29 <| .take 30 <| .take 31 <| .alt 32 (.alt 33 (.alt 34 (.alt 35 (.alt 36 (.alt 37 (.alt 38 (.alt 39 (.done) .stop) .stop) .stop) .stop) .stop) .stop) .stop) .stop), (13, [], .take 0 <| .take 1 <| .take 3 <| .take 6 <| .take 10 <| .take 11 <| .take 12 <| .take 13 <| .take 14 <| .take 15 <| .take 16 <| .take 17 <| .take 19 <| .take 20 <| .take 21 <| .take 23 <| .take 24 <| .take 25 <| .alt 2 (.alt 4 (.take 5 <| .alt 7 (.take 8 <| .take 9 <| .take 18 <| .take 22 <| .take 26 <| .alt 27 (.done) .stop) .stop) .stop) .stop), (20, [9], .take 0 <| .take 1 <| .take 2 <| .take 3 <| .take 4 <| .take 5 <| .take 6 <| .take 7 <| .take 8 <| .alt 9 (.done) .stop)] _ _ ?_
      simp [-List.getD_eq_getElem?_getD, c_hashBlock, c_turned]
      refine ⟨by decide, hW.loopS _ _ _ [.ax 0, .sl 199 .dp (.int .i64)] (fun ys => ∃ i : Nat, ys = [.list (addP st (rs 64).pv i ++ st.drop i), .int .i64 i] ∧ i ≤ 8) (fun ys => 8 - (nth ys 1).I.toNat) ?_ ?_⟩
      · simp [-List.getD_eq_getElem?_getD, c_hashBlock, c_turned]
        exact ⟨0, ⟨rfl, rfl⟩, by omega⟩
      · rintro ys ⟨i, rfl, g1⟩
        refine hW.vc [(5, [31], .take 0 <| .take 1 <| .take 2 <| .take 3 <| .take 4 <| .take 5 <| .take 6 <| .take 7 <| .take 8 <| .take 9 <| .take 10 <| .take 11 <| .take 12 <| .take 13 <| .take 14 <| .take 15 <| .take 16 <| .take 17 <| .take 18 <| .take 19 <| .take 20 <| .take 21 <| .take 22 <| .take 23 <| .take 24 <| .take 25 <| .take 26 <| .take 27 <| .take 28 <| .take 29 <| .take 30 <| .alt 31 (.done) .stop), (6, [], .take 0 <| .take 1 <| .take 2 <| .take 3 <| .take 4 <| .take 5 <| .take 6 <| .take 7 <| .alt 8 (.alt 9 (.done) .stop) .stop), (7, [29], .take 0 <| .take 1 <| .take 2 <| .take 3 <| .take 4 <| .take 5 <| .take 7 <| .take 10 <| .take 11 <| .take 14 <| .take 15 <| .take 16 <| .take 17 <| .take 19 <| .take 21 <| .take 24 <| .take 25 <| .alt 6 (.alt 8 (.take 9 <| .take 12 <| .take 13 <| .take 18 <| .alt 20 (.alt 22 (.take 23 <| .take 26 <| .take 27 <| .take 28 <| .alt 29 (.done) .stop) .stop) .stop) .stop) .stop), (9, [], .take 0 <| .take 1 <| .take 2 <| .take 3 <| .take 4 <| .take 5 <| .take 6 <| .take 7 <| .take 8 <| .take 9 <| .take 10 <| .take 11 <| .take 12 <| .take 13 <| .take 14 <| .take 15 <| .take 16 <| .take 17 <| .take 18 <| .take 19 <| .take 20 <| .take 21 <| .take 22 <| .take 23 <| .take 24 <| .take 25 <| .take 26 <| .take 27 <| .take 28 <| .take 29 <| .take 30 <| .take 31 <| .alt 32 (.alt 33 (.alt 34 (.alt 35 (.alt 36 (.alt 37 (.alt 38 (.alt 39 (.done) .stop) .stop) .stop) .stop) .stop) .stop) .stop) .stop), (13, [], .take 0 <| .take 1 <| .take 3 <| .take 6 <| .take 10 <| .take 11 <| .take 12 <| .take 13 <| .take 14 <| .take 15 <| .take 16 <| .take 17 <| .take 19 <| .take 20 <| .take 21 <| .take 23 <| .take 24 <| .take 25 <| .alt 2 (.alt 4 (.take 5 <| .alt 7 (.take 8 <| .take 9 <| .take 18 <| .take 22 <| .take 26 <| .alt 27 (.done) .stop) .stop) .stop) .stop), (20, [9], .take 0 <| .take 1 <| .take 2 <| .take 3 <| .take 4 <| .take 5 <| .take 6 <| .take 7 <| .take 8 <| .alt 9 (.done) .stop)] _ _ ?_
        simp [-List.getD_eq_getElem?_getD, c_hashBlock, c_turned]
        have al := addP_len st (rs 64).pv i
        refine ⟨fun h => ?_, fun h => ?_⟩
        · have h8 : i < 8 := by omega
          rw [drop_at al (by omega), pv_getD (rs 64) h8, drop_set al (by omega)]
          exact ⟨h, by decide +kernel, ⟨h, by omega⟩, by omega, fun _ => ⟨⟨h, by omega⟩, by omega, ⟨i + 1, ⟨rfl, wrap64 (by omega)⟩, by omega⟩, by rw [wrap64 (by omega)]; omega⟩⟩
        · have e : i = 8 := by omega
          subst e
          rw [List.drop_eq_nil_of_le (by omega), List.append_nil, blkP, hrs, hW64]

end Go.Proofs.YtolgjekokdimoaaGreatDoor
end

section
namespace Go.Proofs.YtolgjekokdimoaaGreatDoor
variable [LaidG]
variable [LaidN 0] [LaidN 1]
set_option maxRecDepth 100000
set_option linter.unusedSimpArgs false

def byteP (bs : List PV) (k : Nat) : Int := (nth bs k).I
def c_l01Consts : FSpec := ⟨[], [.list (.int .u32)], true, fun _ => True, fun _ => [.list G1], fun _ => []⟩
theorem k_l01Consts : FnOk Tryz.prog 172 c_l01Consts := by
  refine fn_mk [0] [.tmp 0] (env_nil (tyTab_ok [])) mixed Tryz.func172 rfl (by decide) rfl (by decide) rfl ?_
  intro ps hT hpre W hW
  simp only [c_l01Consts, TyA, Ty, Tys] at hT hpre
  obtain rfl := hT
  refine hW.vc [] _ _ ?_
  simp [-List.getD_eq_getElem?_getD, c_l01Consts]
  exact ⟨by decide, rfl⟩

theorem pv_s8 : ∀ {st : List PV}, st.length = 8 → (∀ e ∈ st, ∃ n, e = PV.int .u32 n ∧ inR .u32 n) → (s8Of st).pv = st
  | [a, b, c, d, e, f, g, h], _, ht => by
    obtain ⟨_, rfl, _⟩ := ht a (by simp)
    obtain ⟨_, rfl, _⟩ := ht b (by simp)
    obtain ⟨_, rfl, _⟩ := ht c (by simp)
    obtain ⟨_, rfl, _⟩ := ht d (by simp)
    obtain ⟨_, rfl, _⟩ := ht e (by simp)
    obtain ⟨_, rfl, _⟩ := ht f (by simp)
    obtain ⟨_, rfl, _⟩ := ht g (by simp)
    obtain ⟨_, rfl, _⟩ := ht h (by simp)
    rfl
def c_l01Block : FSpec := ⟨[(.mt, .list (.int .u32)), (.rd, .list (.int .u8)), (.rd, .list (.int .u32))], [], true, fun ps => (nth ps 0).L.length = 8 ∧ (nth ps 1).L.length = 64 ∧ (nth ps 2).L = G1, fun _ => [], fun ps => [.list (blkP G1 (nth ps 0).L (byteP (nth ps 1).L))]⟩
set_option maxHeartbeats 4000000 in
theorem k_l01Block : FnOk Tryz.prog 173 c_l01Block := by
  refine fn_mk [0, 1, 2, 6, 7, 8, 9, 10, 11, 12, 13, 14, 15, 16, 17] [] (env_cons (cs := []) k_l01Turn (env_nil (tyTab_ok []))) mixed Tryz.func173 rfl (by decide) rfl (by decide) rfl ?_
  intro ps hT hpre W hW
  simp only [c_l01Block, TyA, Ty, Tys] at hT hpre
  obtain ⟨_, _, rfl, ⟨st, rfl, hst, tst⟩, _, _, rfl, ⟨b, rfl, hb, tb⟩, _, _, rfl, ⟨ks, rfl, hks, tks⟩, rfl⟩ := hT
  simp only [nth_zero, nth_succ, pv_L] at hpre
  obtain ⟨p1, p2, p3⟩ := hpre
  have pk : ks.length = 64 := by rw [p3, G1_len]
  have bB : ∀ k, k < 64 → 0 ≤ (nth b k).I ∧ (nth b k).I ≤ 255 := fun k hk => by
    obtain ⟨n, e, h⟩ := tb _ (nth_mem (by omega : k < b.length))
    rw [e, pv_I]
    simp [inR, IntKind.min, IntKind.max, IntKind.signed, IntKind.bits] at h
    omega
  have wI : ∀ k, k < 64 → IntKind.u32.wrap (nth b k).I = (nth b k).I := fun k hk => by
    have := bB k hk
    simp [IntKind.wrap, IntKind.signed, IntKind.bits]; omega
  refine hW.vc [] _ _ ?_
  simp [-List.reduceReplicate, -List.getD_eq_getElem?_getD, c_l01Block, c_l01Turn]
  refine hW.cutS [_, _] _ _ [.ar 6 (.int .u32), .sl 7 .dp (.int .i64)] (fun ys => ys = [.list (schP (byteP b) 16 ++ List.replicate 48 (.int .u32 0)), .int .i64 16]) ?_ ?_
  · refine hW.loopS _ _ _ [.ar 6 (.int .u32), .sl 7 .dp (.int .i64)] (fun ys => ∃ i : Nat, ys = [.list (schP (byteP b) i ++ List.replicate (64 - i) (.int .u32 0)), .int .i64 i] ∧ i ≤ 16) (fun ys => 64 - (nth ys 1).I.toNat) ?_ ?_
    · simp [-List.reduceReplicate, -List.getD_eq_getElem?_getD, c_l01Block, c_l01Turn]
      exact ⟨0, ⟨rfl, rfl⟩, by omega⟩
    · rintro ys ⟨i, rfl, g1⟩
      refine hW.vc [(4, [36], .take 0 <| .take 1 <| .take 2 <| .take 3 <| .take 4 <| .take 5 <| .take 6 <| .take 7 <| .take 8 <| .take 9 <| .take 10 <| .take 11 <| .take 12 <| .take 13 <| .take 14 <| .take 15 <| .take 16 <| .take 17 <| .take 18 <| .take 19 <| .take 20 <| .take 21 <| .take 22 <| .take 23 <| .take 24 <| .take 25 <| .take 26 <| .take 27 <| .take 28 <| .take 29 <| .take 30 <| .take 31 <| .take 32 <| .take 33 <| .take 34 <| .take 35 <| .alt 36 (.done) .stop), (10, [32], .take 0 <| .take 1 <| .take 2 <| .take 3 <| .take 4 <| .take 5 <| .take 6 <| .take 7 <| .take 9 <| .take 12 <| .take 13 <| .take 16 <| .take 17 <| .take 18 <| .take 19 <| .take 20 <| .take 22 <| .take 24 <| .take 27 <| .take 28 <| .alt 8 (.alt 10 (.take 11 <| .take 14 <| .take 15 <| .take 21 <| .alt 23 (.alt 25 (.take 26 <| .take 29 <| .take 30 <| .take 31 <| .alt 32 (.done) .stop) .stop) .stop) .stop) .stop), (17, [], .take 0 <| .take 1 <| .take 2 <| .take 3 <| .take 5 <| .take 8 <| .take 12 <| .take 13 <| .take 14 <| .take 15 <| .take 16 <| .take 17 <| .take 18 <| .take 19 <| .take 20 <| .take 21 <| .take 22 <| .take 23 <| .take 25 <| .take 26 <| .take 27 <| .take 28 <| .take 30 <| .take 31 <| .take 32 <| .take 33 <| .alt 4 (.alt 6 (.take 7 <| .alt 9 (.take 10 <| .take 11 <| .take 24 <| .take 29 <| .take 34 <| .alt 35 (.done) .stop) .stop) .stop) .stop), (18, [], .take 0 <| .take 2 <| .take 5 <| .take 8 <| .take 9 <| .take 10 <| .take 11 <| .take 12 <| .take 13 <| .take 14 <| .take 15 <| .take 16 <| .take 17 <| .take 18 <| .take 19 <| .take 20 <| .take 21 <| .take 22 <| .take 23 <| .take 24 <| .take 25 <| .take 26 <| .alt 1 (.alt 3 (.take 4 <| .alt 6 (.take 7 <| .take 27 <| .alt 28 (.done) .stop) .stop) .stop) .stop), (19, [], .take 0 <| .take 1 <| .take 2 <| .take 3 <| .take 4 <| .take 5 <| .take 6 <| .take 7 <| .take 8 <| .take 9 <| .take 10 <| .take 11 <| .take 12 <| .take 13 <| .take 14 <| .take 15 <| .take 16 <| .take 17 <| .take 18 <| .take 19 <| .take 20 <| .take 21 <| .take 22 <| .take 23 <| .take 24 <| .take 25 <| .alt 26 (.alt 27 (.done) .stop) .stop), (23, [10], .take 0 <| .take 1 <| .take 2 <| .take 3 <| .take 4 <| .take 5 <| .take 6 <| .take 7 <| .take 8 <| .take 9 <| .alt 10 (.done) .stop)] _ _ ?_
      simp [-List.reduceReplicate, -List.getD_eq_getElem?_getD, c_l01Block, c_l01Turn]
      have hl := schP_len (byteP b) i
      have a0 : IntKind.i64.wrap (4 * (i : Int)) = ((4 * i : Nat) : Int) := by rw [wrap64 (by omega)]; omega
      have a1 : IntKind.i64.wrap (((4 * i : Nat) : Int) + 1) = ((4 * i + 1 : Nat) : Int) := by rw [wrap64 (by omega)]; omega
      have a2 : IntKind.i64.wrap (((4 * i : Nat) : Int) + 2) = ((4 * i + 2 : Nat) : Int) := by rw [wrap64 (by omega)]; omega
      have a3 : IntKind.i64.wrap (((4 * i : Nat) : Int) + 3) = ((4 * i + 3 : Nat) : Int) := by rw [wrap64 (by omega)]; omega
      rw [a0, a1, a2, a3]
      simp only [Int.toNat_natCast]
      rw [wrap64 (n := (i : Int) + 1) (by omega)]
      refine ⟨fun h => ?_, fun h => ?_⟩
      · rw [wI (4 * i) (by omega), wI (4 * i + 1) (by omega), wI (4 * i + 2) (by omega), wI (4 * i + 3) (by omega)]
        repeat' (first | apply And.intro | intro _)
        all_goals first | omega | decide +kernel | exact ⟨i + 1, ⟨by rw [set_at hl (by omega), schP, if_pos (by omega)]; rfl, by omega⟩, by omega⟩
      · have e : i = 16 := by omega
        subst e
        exact ⟨rfl, rfl⟩
  · rintro ys rfl
    refine hW.vc [] _ _ ?_
    simp [-List.reduceReplicate, -List.getD_eq_getElem?_getD, c_l01Block, c_l01Turn]
    refine hW.cutS [_, _] _ _ [.ar 6 (.int .u32), .sl 8 .dp (.int .i64)] (fun ys => ys = [.list (schP (byteP b) 64), .int .i64 64]) ?_ ?_
    · refine hW.loopS _ _ _ [.ar 6 (.int .u32), .sl 8 .dp (.int .i64)] (fun ys => ∃ i : Nat, ys = [.list (schP (byteP b) i ++ List.replicate (64 - i) (.int .u32 0)), .int .i64 i] ∧ 16 ≤ i ∧ i ≤ 64) (fun ys => 64 - (nth ys 1).I.toNat) ?_ ?_
      · simp [-List.reduceReplicate, -List.getD_eq_getElem?_getD, c_l01Block, c_l01Turn]
        exact ⟨16, ⟨rfl, rfl⟩, by omega, by omega⟩
      · rintro ys ⟨i, rfl, g0, g1⟩
        refine hW.vc [(4, [36], .take 0 <| .take 1 <| .take 2 <| .take 3 <| .take 4 <| .take 5 <| .take 6 <| .take 7 <| .take 8 <| .take 9 <| .take 10 <| .take 11 <| .take 12 <| .take 13 <| .take 14 <| .take 15 <| .take 16 <| .take 17 <| .take 18 <| .take 19 <| .take 20 <| .take 21 <| .take 22 <| .take 23 <| .take 24 <| .take 25 <| .take 26 <| .take 27 <| .take 28 <| .take 29 <| .take 30 <| .take 31 <| .take 32 <| .take 33 <| .take 34 <| .take 35 <| .alt 36 (.done) .stop), (10, [32], .take 0 <| .take 1 <| .take 2 <| .take 3 <| .take 4 <| .take 5 <| .take 6 <| .take 7 <| .take 9 <| .take 12 <| .take 13 <| .take 16 <| .take 17 <| .take 18 <| .take 19 <| .take 20 <| .take 22 <| .take 24 <| .take 27 <| .take 28 <| .alt 8 (.alt 10 (.take 11 <| .take 14 <| .take 15 <| .take 21 <| .alt 23 (.alt 25 (.take 26 <| .take 29 <| .take 30 <| .take 31 <| .alt 32 (.done) .stop) .stop) .stop) .stop) .stop), (17, [], .take 0 <| .take 1 <| .take 2 <| .take 3 <| .take 5 <| .take 8 <| .take 12 <| .take 13 <| .take 14 <| .take 15 <| .take 16 <| .take 17 <| .take 18 <| .take 19 <| .take 20 <| .take 21 <| .take 22 <| .take 23 <| .take 25 <| .take 26 <| .take 27 <| .take 28 <| .take 30 <| .take 31 <| .take 32 <| .take 33 <| .alt 4 (.alt 6 (.take 7 <| .alt 9 (.take 10 <| .take 11 <| .take 24 <| .take 29 <| .take 34 <| .alt 35 (.done) .stop) .stop) .stop) .stop), (18, [], .take 0 <| .take 2 <| .take 5 <| .take 8 <| .take 9 <| .take 10 <| .take 11 <| .take 12 <| .take 13 <| .take 14 <| .take 15 <| .take 16 <| .take 17 <| .take 18 <| .take 19 <| .take 20 <| .take 21 <| .take 22 <| .take 23 <| .take 24 <| .take 25 <| .take 26 <| .alt 1 (.alt 3 (.take 4 <| .alt 6 (.take 7 <| .take 27 <| .alt 28 (.done) .stop) .stop) .stop) .stop), (19, [], .take 0 <| .take 1 <| .take 2 <| .take 3 <| .take 4 <| .take 5 <| .take 6 <| .take 7 <| .take 8 <| .take 9 <| .take 10 <| .take 11 <| .take 12 <| .take 13 <| .take 14 <| .take 15 <| .take 16 <| .take 17 <| .take 18 <| .take 19 <| .take 20 <| .take 21 <| .take 22 <| .take 23 <| .take 24 <| .take 25 <| .alt 26 (.alt 27 (.done) .stop) .stop), (23, [10], .take 0 <| .take 1 <| .take 2 <| .take 3 <| .take 4 <| .take 5 <| .take 6 <| .take 7 <| .take 8 <| .take 9 <| .alt 10 (.done) .stop)] _ _ ?_
        simp [-List.reduceReplicate, -List.getD_eq_getElem?_getD, c_l01Block, c_l01Turn]
        have hl := schP_len (byteP b) i
        have c15 : IntKind.i64.wrap ((i : Int) - 15) = ((i - 15 : Nat) : Int) := by rw [wrap64 (by omega)]; omega
        have c2 : IntKind.i64.wrap ((i : Int) - 2) = ((i - 2 : Nat) : Int) := by rw [wrap64 (by omega)]; omega
        have c16 : IntKind.i64.wrap ((i : Int) - 16) = ((i - 16 : Nat) : Int) := by rw [wrap64 (by omega)]; omega
        have c7 : IntKind.i64.wrap ((i : Int) - 7) = ((i - 7 : Nat) : Int) := by rw [wrap64 (by omega)]; omega
        rw [c15, c2, c16, c7]
        simp only [Int.toNat_natCast]
        rw [nth_left (by omega : i - 15 < (schP (byteP b) i).length), nth_left (by omega : i - 2 < (schP (byteP b) i).length), nth_left (by omega : i - 16 < (schP (byteP b) i).length), nth_left (by omega : i - 7 < (schP (byteP b) i).length)]
        rw [wrap64 (n := (i : Int) + 1) (by omega)]
        refine ⟨fun h => ?_, fun h => ?_⟩
        · repeat' (first | apply And.intro | intro _)
          all_goals first | omega | decide +kernel | exact ⟨i + 1, ⟨by rw [set_at hl (by omega), schP, if_neg (by omega)]; rfl, by omega⟩, by omega, by omega⟩
        · have e : i = 64 := by omega
          subst e
          exact ⟨by simp, rfl⟩
    · rintro ys rfl
      refine hW.vc [] _ _ ?_
      simp [-List.reduceReplicate, -List.getD_eq_getElem?_getD, c_l01Block, c_l01Turn]
      refine ⟨by omega, ?_⟩
      obtain ⟨W64, hW64⟩ : ∃ L, L = schP (byteP b) 64 := ⟨_, rfl⟩
      have wl : W64.length = 64 := by rw [hW64, schP_len]
      obtain ⟨rs, hrs⟩ : ∃ rs : Nat → S8, rs = rnds G1 W64 (s8Of st) := ⟨_, rfl⟩
      have hr0 : rs 0 = s8Of st := by rw [hrs]; rfl
      have hrS : ∀ i, rs (i + 1) = (rs i).step (nth G1 i).I (nth W64 i).I := fun i => by rw [hrs]; rfl
      rw [← hW64]
      refine hW.cutS [_, _] _ _ [.sl 11 .dp (.list (.int .u32)), .sl 12 .dp (.int .i64)] (fun ys => ys = [.list (rs 64).pv, .int .i64 64]) ?_ ?_
      · refine hW.loopS _ _ _ [.sl 11 .dp (.list (.int .u32)), .sl 12 .dp (.int .i64)] (fun ys => ∃ i : Nat, ys = [.list (rs i).pv, .int .i64 i] ∧ i ≤ 64) (fun ys => 64 - (nth ys 1).I.toNat) ?_ ?_
        · simp [-List.getD_eq_getElem?_getD, c_l01Block, c_l01Turn]
          exact ⟨0, ⟨by rw [hr0, pv_s8 p1 tst], rfl⟩, by omega⟩
        · rintro ys ⟨i, rfl, g1⟩
          refine hW.vc [(4, [36], .take 0 <| .take 1 <| .take 2 <| .take 3 <| .take 4 <| .take 5 <| .take 6 <| .take 7 <| .take 8 <| .take 9 <| .take 10 <| .take 11 <| .take 12 <| .take 13 <| .take 14 <| .take 15 <| .take 16 <| .take 17 <| .take 18 <| .take 19 <| .take 20 <| .take 21 <| .take 22 <| .take 23 <| .take 24 <| .take 25 <| .take 26 <| .take 27 <| .take 28 <| .take 29 <| .take 30 <| .take 31 <| .take 32 <| .take 33 <| .take 34 <| .take 35 <| .alt 36 (.done) .stop), (10, [32], .take 0 <| .take 1 <| .take 2 <| .take 3 <| .take 4 <| .take 5 <| .take 6 <| .take 7 <| .take 9 <| .take 12 <| .take 13 <| .take 16 <| .take 17 <| .take 18 <| .take 19 <| .take 20 <| .take 22 <| .take 24 <| .take 27 <| .take 28 <| .alt 8 (.alt 10 (.take 11 <| .take 14 <| .take 15 <| .take 21 <| .alt 23 (.alt 25 (.take 26 <| .take 29 <| .take 30 <| .take 31 <| .alt 32 (.done) .stop) .stop) .stop) .stop) .stop), (17, [], .take 0 <| .take 1 <| .take 2 <| .take 3 <| .take 5 <| .take 8 <| .take 12 <| .take 13 <| .take 14 <| .take 15 <| .take 16 <| .take 17 <| .take 18 <| .take 19 <| .take 20 <| .take 21 <| .take 22 <| .take 23 <| .take 25 <| .take 26 <| .take 27 <| .take 28 <| .take 30 <| .take 31 <| .take 32 <| .take 33 <| .alt 4 (.alt 6 (.take 7 <| .alt 9 (.take 10 <| .take 11 <| .take 24 <| .take 29 <| .take 34 <| .alt 35 (.done) .stop) .stop) .stop) .stop), (18, [], .take 0 <| .take 2 <| .take 5 <| .take 8 <| .take 9 <| .take 10 <| .take 11 <| .take 12 <| .take 13 <| .take 14 <| .take 15 <| .take 16 <| .take 17 <| .take 18 <| .take 19 <| .take 20 <| .take 21 <| .take 22 <| .take 23 <| .take 24 <| .take 25 <| .take 26 <| .alt 1 (.alt 3 (.take 4 <| .alt 6 (.take 7 <| .take 27 <| .alt 28 (.done) .stop) .stop) .stop) .stop), (19, [], .take 0 <| .take 1 <| .take 2 <| .take 3 <| .take 4 <| .take 5 <| .take 6 <| .take 7 <| .take 8 <| .take 9 <| .take 10 <| .take 11 <| .take 12 <| .take 13 <| .take 14 <| .take 15 <| .take 16 <| .take 17 <| .take 18 <| .take 19 <| .take 20 <| .take 21 <| .take 22 <| .take 23 <| .take 24 <| .take 25 <| .alt 26 (.alt 27 (.done) .stop) .stop), (23, [10], .take 0 <| .take 1 <| .take 2 <| .take 3 <| .take 4 <| .take 5 <| .take 6 <| .take 7 <| .take 8 <| .take 9 <| .alt 10 (.done) .stop)] _ _ ?_
          simp [-List.getD_eq_getElem?_getD, c_l01Block, c_l01Turn, S8.pv, p3]
          rw [wrap64 (n := (i : Int) + 1) (by omega)]
          refine ⟨fun h => ?_, fun h => ?_⟩
          · repeat' (first | apply And.intro | intro _)
            all_goals first | omega | decide +kernel | exact ⟨i + 1, ⟨by rw [hrS]; simp only [S8.step, S8.p, S8.q, ← ch_xor, ← maj_xor]; and_intros <;> first | rfl | trivial, by omega⟩, by omega⟩
          · have e : i = 64 := by omega
            subst e
            and_intros <;> rfl
      · rintro ys rfl
        refine hW.vc [(4, [36], .take 0 <| .take 1 <| .take 2 <| .take 3 <| .take 4 <| .take 5 <| .take 6 <| .take 7 <| .take 8 <| .take 9 <| .take 10 <| .take 11 <| .take 12 <| .take 13 <| .take 14 <| .take 15 <| .take 16 <| .take 17 <| .take 18 <| .take 19 <| .take 20 <| .take 21 <| .take 22 <| .take 23 <| .take 24 <| .take 25 <| .take 26 <| .take 27 <| .take 28 <| .take 29 <| .take 30 <| .take 31 <| .take 32 <| .take 33 <| .take 34 <| .take 35 <| .alt 36 (.done) .stop), (10, [32], .take 0 <| .take 1 <| .take 2 <| .take 3 <| .take 4 <| .take 5 <| .take 6 <| .take 7 <| .take 9 <| .take 12 <| .take 13 <| .take 16 <| .take 17 <| .take 18 <| .take 19 <| .take 20 <| .take 22 <| .take 24 <| .take 27 <| .take 28 <| .alt 8 (.alt 10 (.take 11 <| .take 14 <| .take 15 <| .take 21 <| .alt 23 (.alt 25 (.take 26 <| .take 29 <| .take 30 <| .take 31 <| .alt 32 (.done) .stop) .stop) .stop) .stop) .stop), (17, [], .take 0 <| .take 1 <| .take 2 <| .take 3 <| .take 5 <| .take 8 <| .take 12 <| .take 13 <| .take 14 <| .take 15 <| .take 16 <| .take 17 <| .take 18 <| .take 19 <| .take 20 <| .take 21 <| .take 22 <| .take 23 <| .take 25 <| .take 26 <| .take 27 <| .take 28 <| .take 30 <| .take 31 <| .take 32 <| .take 33 <| .alt 4 (.alt 6 (.take 7 <| .alt 9 (.take 10 <| .take 11 <| .take 24 <| .take 29 <| .take 34 <| .alt 35 (.done) .stop) .stop) .stop) .stop), (18, [], .take 0 <| .take 2 <| .take 5 <| .take 8 <| .take 9 <| .take 10 <| .take 11 <| .take 12 <| .take 13 <| .take 14 <| .take 15 <| .take 16 <| .take 17 <| .take 18 <| .take 19 <| .take 20 <| .take 21 <| .take 22 <| .take 23 <| .take 24 <| .take 25 <| .take 26 <| .alt 1 (.alt 3 (.take 4 <| .alt 6 (.take 7 <| .take 27 <| .alt 28 (.done) .stop) .stop) .stop) .stop), (19, [], .take 0 <| .take 1 <| .take 2 <| .take 3 <| .take 4 <| .take 5 <| .take 6 <| .take 7 <| .take 8 <| .take 9 <| .take 10 <| .take 11 <| .take 12 <| .take 13 <| .take 14 <| .take 15 <| .take 16 <| .take 17 <| .take 18 <| .take 19 <| .take 20 <| .take 21 <| .take 22 <| .take 23 <| .take 24 <| .take 25 <| .alt 26 (.alt 27 (.done) .stop) .stop), (23, [10], .take 0 <| .take 1 <| .take 2 <| .take 3 <| .take 4 <| .take 5 <| .take 6 <| .take 7 <| .take 8 <| .take 9 <| .alt 10 (.done) .stop)] _ _ ?_
        simp [-List.getD_eq_getElem?_getD, c_l01Block, c_l01Turn]
        refine hW.loopS _ _ _ [.ar 0 (.int .u32), .sl 17 .dp (.int .i64)] (fun ys => ∃ i : Nat, ys = [.list (addP st (rs 64).pv i ++ st.drop i), .int .i64 i] ∧ i ≤ 8) (fun ys => 8 - (nth ys 1).I.toNat) ?_ ?_
        · simp [-List.getD_eq_getElem?_getD, c_l01Block, c_l01Turn]
          exact ⟨0, ⟨rfl, rfl⟩, by omega⟩
        · rintro ys ⟨i, rfl, g1⟩
          refine hW.vc [(4, [36], .take 0 <| .take 1 <| .take 2 <| .take 3 <| .take 4 <| .take 5 <| .take 6 <| .take 7 <| .take 8 <| .take 9 <| .take 10 <| .take 11 <| .take 12 <| .take 13 <| .take 14 <| .take 15 <| .take 16 <| .take 17 <| .take 18 <| .take 19 <| .take 20 <| .take 21 <| .take 22 <| .take 23 <| .take 24 <| .take 25 <| .take 26 <| .take 27 <| .take 28 <| .take 29 <| .take 30 <| .take 31 <| .take 32 <| .take 33 <| .take 34 <| .take 35 <| .alt 36 (.done) .stop), (10, [32], .take 0 <| .take 1 <| .take 2 <| .take 3 <| .take 4 <| .take 5 <| .take 6 <| .take 7 <| .take 9 <| .take 12 <| .take 13 <| .take 16 <| .take 17 <| .take 18 <| .take 19 <| .take 20 <| .take 22 <| .take 24 <| .take 27 <| .take 28 <| .alt 8 (.alt 10 (.take 11 <| .take 14 <| .take 15 <| .take 21 <| .alt 23 (.alt 25 (.take 26 <| .take 29 <| .take 30 <| .take 31 <| .alt 32 (.done) .stop) .stop) .stop) .stop) .stop), (17, [], .take 0 <| .take 1 <| .take 2 <| .take 3 <| .take 5 <| .take 8 <| .take 12 <| .take 13 <| .take 14 <| .take 15 <| .take 16 <| .take 17 <| .take 18 <| .take 19 <| .take 20 <| .take 21 <| .take 22 <| .take 23 <| .take 25 <| .take 26 <| .take 27 <| .take 28 <| .take 30 <| .take 31 <| .take 32 <| .take 33 <| .alt 4 (.alt 6 (.take 7 <| .alt 9 (.take 10 <| .take 11 <| .take 24 <| .take 29 <| .take 34 <| .alt 35 (.done) .stop) .stop) .stop) .stop), (18, [], .take 0 <| .take 2 <| .take 5 <| .take 8 <| .take 9 <| .take 10 <| .take 11 <| .take 12 <| .take 13 <| .take 14 <| .take 15 <| .take 16 <| .take 17 <| .take 18 <| .take 19 <| .take 20 <| .take 21 <| .take 22 <| .take 23 <| .take 24 <| .take 25 <| .take 26 <| .alt 1 (.alt 3 (.take 4 <| .alt 6 (.take 7 <| .take 27 <| .alt 28 (.done) .stop) .stop) .stop) .stop), (19, [], .take 0 <| .take 1 <| .take 2 <| .take 3 <| .take 4 <| .take 5 <| .take 6 <| .take 7 <| .take 8 <| .take 9 <| .take 10 <| .take 11 <| .take 12 <| .take 13 <| .take 14 <| .take 15 <| .take 16 <| .take 17 <| .take 18 <| .take 19 <| .take 20 <| .take 21 <| .take 22 <| .take 23 <| .take 24 <| .take 25 <| .alt 26 (.alt 27 (.done) .stop) .stop), (23, [10], .take 0 <| .take 1 <| .take 2 <| .take 3 <| .take 4 <| .take 5 <| .take 6 <| .take 7 <| .take 8 <| .take 9 <| .alt 10 (.done) .stop)] _ _ ?_
          simp [-List.getD_eq_getElem?_getD, c_l01Block, c_l01Turn]
          rw [wrap64 (n := (i : Int) + 1) (by omega)]
          have al := addP_len st (rs 64).pv i
          have rl : (rs 64).pv.length = 8 := rfl
          refine ⟨fun h => ?_, fun h => ?_⟩
          · rw [drop_at al (by omega), drop_set al (by omega)]
            repeat' (first | apply And.intro | intro _)
            all_goals first | omega | decide +kernel | exact ⟨i + 1, ⟨rfl, by omega⟩, by omega⟩
          · have e : i = 8 := by omega
            subst e
            rw [List.drop_eq_nil_of_le (by omega), List.append_nil, blkP, hrs, hW64]

end Go.Proofs.YtolgjekokdimoaaGreatDoor
end

section
namespace Go.Proofs.YtolgjekokdimoaaGreatDoor
variable [LaidG]
set_option maxRecDepth 100000
set_option linter.unusedSimpArgs false

def szGo (l : Int) : List PV → Int
  | [] => l
  | e :: es => if l - e.S.length < 0 then -1 else szGo (l - e.S.length) es
def szStr (es : List PV) (l : Int) : Int := if l - es.length < 0 then -1 else szGo (l - es.length) es

def c_szStringS : FSpec := ⟨[(.rd, .list .str), (.rd, .int .i64)], [.int .i64], true, fun ps => 0 ≤ (nth ps 1).I, fun ps => [.int .i64 (szStr (nth ps 0).L (nth ps 1).I)], fun _ => []⟩
theorem k_szStringS : FnOk Tryz.prog 78 c_szStringS := by
  refine fn_mk [0, 1, 4, 5] [.tmp 4] (env_nil (tyTab_ok [])) mixed Tryz.func78 rfl (by decide) rfl (by decide) rfl ?_
  intro ps hT hpre W hW
  simp only [c_szStringS, TyA, Ty, Tys] at hT hpre
  obtain ⟨_, _, rfl, ⟨es, rfl, he, hes⟩, _, _, rfl, ⟨l, rfl, hl⟩, rfl⟩ := hT
  simp only [nth_zero, nth_succ, pv_I] at hpre
  refine hW.vc [] _ _ ?_
  simp [-List.getD_eq_getElem?_getD, c_szStringS]
  intro h1
  rw [inR64] at hl
  rw [wrap64 (by omega)]
  refine ⟨fun h => by simp [szStr, h], fun h => ?_⟩
  refine hW.loopS _ _ _ [.sl 1 .dp (.int .i64), .sl 5 .dp (.int .i64)] (fun ys => ∃ (x : Int) (i : Nat), ys = [.int .i64 x, .int .i64 i] ∧ 0 ≤ x ∧ x ≤ l ∧ i ≤ es.length ∧ szStr es l = szGo x (es.drop i)) (fun ys => es.length - (nth ys 1).I.toNat) ?_ ?_
  · simp [-List.getD_eq_getElem?_getD, c_szStringS]
    exact ⟨_, 0, ⟨rfl, rfl⟩, h, by omega, by simp, by simp [szStr, Int.not_lt.2 h]⟩
  · rintro ys ⟨x, i, rfl, h2, h3, h4, h5⟩
    refine hW.vc [] _ _ ?_
    simp [-List.getD_eq_getElem?_getD, c_szStringS]
    refine fun _ => ⟨fun h6 => ⟨h6, fun _ h7 => ?_⟩, fun h6 => ?_⟩
    · rw [drop_nth h6] at h5
      rw [wrap64 (by omega), wrap64 (by omega)]
      simp only [szGo] at h5
      refine ⟨fun h8 => by rw [h5, if_pos h8], fun h8 => ⟨⟨_, i + 1, ⟨rfl, by omega⟩, h8, by omega, by omega, ?_⟩, by omega⟩⟩
      rw [h5, if_neg (by omega)]
    · rw [List.drop_eq_nil_of_le h6] at h5
      exact h5.symm


theorem set_take {out es : List PV} {i : Nat} {x : PV} (h1 : out.take i = es.take i) (h2 : out.length = es.length) (h3 : i < es.length) (h4 : x = nth es i) : (out.set i x).take (i + 1) = es.take (i + 1) := by
  rw [take_nth h3, ← h1, take_nth (by simp; omega), List.take_set_of_le (Nat.le_refl _), nth_eq (by simp; omega), List.getElem_set_self, h4]

def c_toStringS : FSpec := ⟨[(.rd, .list .str)], [.list .str], true, fun ps => (nth ps 0).L.length ≤ 1048576, fun ps => [.list (nth ps 0).L], fun _ => []⟩
theorem k_toStringS : FnOk Tryz.prog 83 c_toStringS := by
  refine fn_mk [0, 2, 3, 4] [.tmp 2] (env_nil (tyTab_ok [])) mixed Tryz.func83 rfl (by decide) rfl (by decide) rfl ?_
  intro ps hT hpre W hW
  simp only [c_toStringS, TyA, Ty, Tys] at hT hpre
  obtain ⟨_, _, rfl, ⟨es, rfl, he, hes⟩, rfl⟩ := hT
  simp only [nth_zero, pv_L] at hpre
  refine hW.vc [] _ _ ?_
  simp [-List.getD_eq_getElem?_getD, c_toStringS]
  refine fun h1 => ⟨by omega, hW.loopS _ _ _ [.sl 3 .dp (.list .str), .sl 4 .dp (.int .i64)] (fun ys => ∃ (out : List PV) (i : Nat), ys = [.list out, .int .i64 i] ∧ i ≤ es.length ∧ out.length = es.length ∧ out.take i = es.take i) (fun ys => es.length - (nth ys 1).I.toNat) ?_ ?_⟩
  · simp [-List.getD_eq_getElem?_getD, c_toStringS]
    exact ⟨_, 0, ⟨rfl, rfl⟩, by simp, by simp, by simp⟩
  · rintro ys ⟨out, i, rfl, h2, h3, h4⟩
    refine hW.vc [] _ _ ?_
    simp [-List.getD_eq_getElem?_getD, c_toStringS]
    refine fun _ => ⟨fun h5 => ⟨h5, fun h6 => ⟨by omega, ?_⟩⟩, fun h5 => ?_⟩
    · obtain ⟨x, hx, _⟩ := hes _ (nth_mem h5)
      rw [wrap64 (by omega)]
      refine ⟨⟨_, i + 1, ⟨rfl, by omega⟩, by omega, by simp [h3], set_take h4 h3 h5 (by rw [hx, pv_S])⟩, by omega⟩
    · rw [List.take_of_length_le (by omega), List.take_of_length_le (by omega)] at h4
      exact h4

/-- Two rows are the same by their elements. -/
def eqL (f : PV → PV → Bool) : List PV → List PV → Bool
  | [], [] => true
  | a :: l, b :: m => f a b && eqL f l m
  | _, _ => false
theorem eqL_len {f : PV → PV → Bool} : ∀ {a b : List PV}, a.length ≠ b.length → eqL f a b = false
  | [], [], h => absurd rfl h
  | [], _ :: _, _ => rfl
  | _ :: _, [], _ => rfl
  | x :: a, y :: b, h => by simp only [eqL, eqL_len (a := a) (b := b) (by simpa using h), Bool.and_false]

def c_eqStringS : FSpec := ⟨[(.rd, .list .str), (.rd, .list .str)], [.bool], true, fun _ => True, fun ps => [.bool (eqL (fun x y => x.S == y.S) (nth ps 0).L (nth ps 1).L)], fun _ => []⟩
theorem k_eqStringS : FnOk Tryz.prog 89 c_eqStringS := by
  refine fn_mk [0, 1, 4, 5] [.tmp 4] (env_nil (tyTab_ok [])) mixed Tryz.func89 rfl (by decide) rfl (by decide) rfl ?_
  intro ps hT hpre W hW
  simp only [c_eqStringS, TyA, Ty, Tys] at hT hpre
  obtain ⟨_, _, rfl, ⟨es, rfl, he, hes⟩, _, _, rfl, ⟨es2, rfl, he2, hes2⟩, rfl⟩ := hT
  refine hW.vc [(6, [], .take 0 <| .take 1 <| .take 2 <| .take 3 <| .take 4 <| .take 5 <| .take 6 <| .take 7 <| .take 8 <| .done)] _ _ ?_
  simp [-List.getD_eq_getElem?_getD, c_eqStringS]
  refine fun h1 h2 => ⟨fun h3 => eqL_len (by omega), fun h3 => ?_⟩
  refine hW.loopS _ _ _ [.sl 5 .dp (.int .i64)] (fun ys => ∃ i : Nat, ys = [.int .i64 i] ∧ i ≤ es.length ∧ eqL (fun x y => x.S == y.S) es es2 = eqL (fun x y => x.S == y.S) (es.drop i) (es2.drop i)) (fun ys => es.length - (nth ys 0).I.toNat) ?_ ?_
  · simp [-List.getD_eq_getElem?_getD, c_eqStringS]
    exact ⟨0, rfl, by simp, by simp⟩
  · rintro ys ⟨i, rfl, h4, h5⟩
    refine hW.vc [(6, [], .take 0 <| .take 1 <| .take 2 <| .take 3 <| .take 4 <| .take 5 <| .take 6 <| .take 7 <| .take 8 <| .done)] _ _ ?_
    simp [-List.getD_eq_getElem?_getD, c_eqStringS]
    refine fun _ => ⟨fun h6 => ⟨by decide +kernel, h6, fun _ => ⟨by omega, fun _ => ?_⟩⟩, fun h6 => ?_⟩
    · rw [drop_nth h6, drop_nth (by omega : i < es2.length), eqL] at h5
      rw [wrap64 (by omega)]
      refine ⟨fun h7 => by rw [h5]; simp [h7], fun h7 => ⟨⟨i + 1, by omega, by omega, by rw [h5]; simp [h7]⟩, by omega⟩⟩
    · rw [h5, List.drop_eq_nil_of_le h6, List.drop_eq_nil_of_le (by omega)]; rfl

end Go.Proofs.YtolgjekokdimoaaGreatDoor
end

section
namespace Go.Proofs.YtolgjekokdimoaaGreatDoor
variable [LaidG]
set_option maxRecDepth 100000
set_option linter.unusedSimpArgs false

theorem wrapU8 {n : Int} (h : 0 ≤ n ∧ n ≤ 255) : IntKind.u8.wrap n = n := by
  simp [IntKind.wrap, IntKind.signed, IntKind.bits]; omega

def digs (n : Nat) : List UInt8 := if h : n = 0 then [] else digs (n / 10) ++ [UInt8.ofNat (48 + n % 10)]
termination_by n
decreasing_by omega
def mtext (k : Int) : List UInt8 := if k ≤ 0 then [109, 48] else 109 :: digs k.toNat

def c_markText : FSpec := ⟨[(.rd, .int .i64)], [.str], true, fun ps => (nth ps 0).I ≤ 1073741824, fun ps => [.str (mtext (nth ps 0).I)], fun _ => []⟩
theorem k_markText : FnOk Tryz.prog 92 c_markText := by
  refine fn_mk [0, 2, 3] [.tmp 2] (env_nil (tyTab_ok [])) mixed Tryz.func92 rfl (by decide) rfl (by decide) rfl ?_
  intro ps hT hpre W hW
  simp only [c_markText, TyA, Ty, Tys] at hT hpre
  obtain ⟨_, _, rfl, ⟨k, rfl, hk⟩, rfl⟩ := hT
  simp only [nth_zero, pv_I] at hpre
  rw [inR64] at hk
  refine hW.vc [] _ _ ?_
  simp [-List.getD_eq_getElem?_getD, c_markText]
  refine ⟨fun h => by rw [mtext, if_pos h], fun h => hW.loopS _ _ _ [.sl 3 .dp .str, .sl 0 .dp (.int .i64)] (fun ys => ∃ (out : List UInt8) (x : Int), ys = [.str out, .int .i64 x] ∧ 0 ≤ x ∧ x ≤ k ∧ out.length + x ≤ k ∧ digs k.toNat = digs x.toNat ++ out) (fun ys => (nth ys 1).I.toNat) ?_ ?_⟩
  · simp [-List.getD_eq_getElem?_getD, c_markText]
    exact ⟨_, _, ⟨rfl, rfl⟩, by omega, by omega, by simp, by simp⟩
  · rintro ys ⟨out, x, rfl, h2, h3, h4, h5⟩
    refine hW.vc [] _ _ ?_
    simp [-List.getD_eq_getElem?_getD, c_markText, pvBytes]
    obtain ⟨m, rfl⟩ := Int.eq_ofNat_of_zero_le h2
    have e1 : ((m : Int)).tmod 10 = ((m % 10 : Nat) : Int) := rfl
    have e2 : ((m : Int)).tdiv 10 = ((m / 10 : Nat) : Int) := rfl
    rw [e1, e2, wrap64 (n := 48 + ((m % 10 : Nat) : Int)) (by omega), wrap64 (n := ((m / 10 : Nat) : Int)) (by omega), wrapU8 (by omega)]
    refine ⟨fun h6 => ⟨by omega, ⟨_, _, ⟨rfl, rfl⟩, by omega, by omega, by simp only [List.length_cons]; omega, ?_⟩, by omega⟩, fun h6 => ⟨by omega, ?_⟩⟩
    · have h7 : m ≠ 0 := by omega
      have e3 : (48 + ((m % 10 : Nat) : Int)).toNat = 48 + m % 10 := by omega
      rw [h5, e3, Int.toNat_natCast, Int.toNat_natCast, digs, dif_neg h7, List.append_assoc]; rfl
    · have h7 : m = 0 := by omega
      subst h7
      rw [mtext, if_neg (by omega), h5]
      simp [digs]

def markS (k : Int) : Nat → List PV
  | 0 => []
  | n + 1 => .str (mtext k) :: markS (k + 1) n
theorem markS_len : ∀ (n : Nat) (k : Int), (markS k n).length = n
  | 0, _ => rfl
  | n + 1, k => by simp [markS, markS_len n]
theorem markS_snoc : ∀ (n : Nat) (k : Int), markS k (n + 1) = markS k n ++ [.str (mtext (k + n))]
  | 0, k => by simp [markS]
  | n + 1, k => by
    rw [markS, markS_snoc n (k + 1), markS, List.cons_append]
    simp only [List.cons.injEq, true_and, List.append_cancel_left_eq, and_true, PV.str.injEq]
    congr 1; omega

theorem nth_set {l : List PV} {i : Nat} {x : PV} (h : i < l.length) : nth (l.set i x) i = x := by simp [nth, h]
theorem mark_step {m es : List PV} {i : Nat} {x : PV} {m' : List PV} (h1 : m.length = i) (h2 : i < es.length) (h3 : m' = m ++ [x]) : (m ++ es.drop i).set i x = m' ++ es.drop (i + 1) := by
  subst h3
  rw [List.set_append_right _ _ (by omega), h1, Nat.sub_self, drop_nth h2, List.set_cons_zero, List.append_assoc, List.singleton_append]

def c_markStringS : FSpec := ⟨[(.mt, .list .str), (.rd, .int .i64)], [.int .i64], true, fun ps => 0 ≤ (nth ps 1).I ∧ (nth ps 1).I + (nth ps 0).L.length ≤ 1073741824, fun ps => [.int .i64 ((nth ps 1).I + (nth ps 0).L.length)], fun ps => [.list (markS (nth ps 1).I (nth ps 0).L.length)]⟩
theorem k_markStringS : FnOk Tryz.prog 91 c_markStringS := by
  refine fn_mk [0, 1, 4, 5] [.tmp 4] (env_cons (cs := []) k_markText (env_nil (tyTab_ok []))) mixed Tryz.func91 rfl (by decide) rfl (by decide) rfl ?_
  intro ps hT hpre W hW
  simp only [c_markStringS, TyA, Ty, Tys] at hT hpre
  obtain ⟨_, _, rfl, ⟨es, rfl, hes, tes⟩, _, _, rfl, ⟨k, rfl, hk⟩, rfl⟩ := hT
  simp only [nth_zero, nth_succ, pv_I, pv_L] at hpre
  refine hW.vc [] _ _ ?_
  simp [-List.getD_eq_getElem?_getD, c_markStringS, c_markText]
  refine hW.loopS _ _ _ [.ar 0 .str, .sl 1 .dp (.int .i64), .sl 5 .dp (.int .i64)] (fun ys => ∃ i : Nat, ys = [.list (markS k i ++ es.drop i), .int .i64 (k + i), .int .i64 i] ∧ i ≤ es.length) (fun ys => es.length - (nth ys 2).I.toNat) ?_ ?_
  · simp [-List.getD_eq_getElem?_getD, c_markStringS, c_markText]
    exact ⟨0, ⟨by simp [markS], by omega, rfl⟩, by omega⟩
  · rintro ys ⟨i, rfl, h2⟩
    refine hW.vc [] _ _ ?_
    simp [-List.getD_eq_getElem?_getD, c_markStringS, c_markText]
    rw [markS_len]
    refine fun _ => ⟨fun h3 => ⟨by omega, by omega, by omega, ⟨i + 1, ⟨?_, by rw [wrap64 (by omega)]; omega, by rw [wrap64 (by omega)]; omega⟩, by omega⟩, by rw [wrap64 (by omega)]; omega⟩, fun h3 => ?_⟩
    · exact mark_step (markS_len i k) (by omega) (markS_snoc i k)
    · have : i = es.length := by omega
      subst this
      simp

def heldGo (f : Int → PV → Bool) (d : Int) (k : Int) : List PV → Int
  | [] => k
  | e :: es => if f k e then heldGo f d (k + d) es else -1
theorem held_neg {f : Int → PV → Bool} {d : Int} (hd : 0 ≤ d) : ∀ {es : List PV} {k : Int}, 0 ≤ k → heldGo f d k es < 0 → heldGo f d k es = -1
  | [], k, hk, h => by simp only [heldGo] at h; omega
  | e :: es, k, hk, h => by
    simp only [heldGo] at h ⊢
    split
    · rename_i h1
      rw [if_pos h1] at h
      exact held_neg hd (by omega) h
    · rfl
def heldS1 (k : Int) (e : PV) : Bool := e.S == mtext k
theorem held_marked {f : Int → PV → Bool} {d : Int} {m : Int → Nat → List PV} (h0 : ∀ k, m k 0 = []) (h1 : ∀ k n, ∃ x, m k (n + 1) = x :: m (k + d) n ∧ f k x = true) : ∀ (n : Nat) (k : Int), heldGo f d k (m k n) = k + d * n
  | 0, k => by simp [h0, heldGo]
  | n + 1, k => by
    obtain ⟨x, h2, h3⟩ := h1 k n
    rw [h2, heldGo, if_pos h3, held_marked h0 h1 n, Int.natCast_add, Int.mul_add]; omega
theorem heldS_mark (n : Nat) (k : Int) : heldGo heldS1 1 k (markS k n) = k + n := by
  rw [held_marked (m := markS) (fun _ => rfl) (fun k n => ⟨_, rfl, by simp [heldS1, pv_S]⟩), Int.one_mul]

def c_heldStringS : FSpec := ⟨[(.rd, .list .str), (.rd, .int .i64)], [.int .i64], true, fun ps => 0 ≤ (nth ps 1).I ∧ (nth ps 1).I + (nth ps 0).L.length ≤ 1073741824, fun ps => [.int .i64 (heldGo heldS1 1 (nth ps 1).I (nth ps 0).L)], fun _ => []⟩
theorem k_heldStringS : FnOk Tryz.prog 93 c_heldStringS := by
  refine fn_mk [0, 1, 4, 5] [.tmp 4] (env_cons (cs := []) k_markText (env_nil (tyTab_ok []))) mixed Tryz.func93 rfl (by decide) rfl (by decide) rfl ?_
  intro ps hT hpre W hW
  simp only [c_heldStringS, TyA, Ty, Tys] at hT hpre
  obtain ⟨_, _, rfl, ⟨es, rfl, hes, tes⟩, _, _, rfl, ⟨k, rfl, hk⟩, rfl⟩ := hT
  simp only [nth_zero, nth_succ, pv_I, pv_L] at hpre
  refine hW.vc [(4, [], .take 0 <| .take 1 <| .take 2 <| .take 3 <| .take 4 <| .alt 5 (.take 6 <| .done) .stop)] _ _ ?_
  simp [-List.getD_eq_getElem?_getD, c_heldStringS, c_markText]
  refine hW.loopS _ _ _ [.sl 1 .dp (.int .i64), .sl 5 .dp (.int .i64)] (fun ys => ∃ i : Nat, ys = [.int .i64 (k + i), .int .i64 i] ∧ i ≤ es.length ∧ heldGo heldS1 1 k es = heldGo heldS1 1 (k + i) (es.drop i)) (fun ys => es.length - (nth ys 1).I.toNat) ?_ ?_
  · simp [-List.getD_eq_getElem?_getD, c_heldStringS, c_markText]
    exact ⟨0, ⟨by omega, rfl⟩, by omega, by simp⟩
  · rintro ys ⟨i, rfl, h2, h3⟩
    refine hW.vc [(4, [], .take 0 <| .take 1 <| .take 2 <| .take 3 <| .take 4 <| .alt 5 (.take 6 <| .done) .stop)] _ _ ?_
    simp [-List.getD_eq_getElem?_getD, c_heldStringS, c_markText]
    refine fun _ => ⟨fun h4 => ⟨by decide +kernel, h4, fun _ => ⟨by omega, fun h5 => ?_, fun h5 => ?_⟩⟩, fun h4 => ?_⟩
    · rw [h3, drop_nth h4, heldGo, if_neg (by simpa [heldS1] using h5)]
    · rw [wrap64 (by omega), wrap64 (by omega)]
      refine ⟨⟨i + 1, ⟨by omega, by omega⟩, by omega, ?_⟩, by omega⟩
      rw [h3, drop_nth h4, heldGo, if_pos (by simpa [heldS1] using h5), Int.natCast_add, ← Int.add_assoc]; rfl
    · rw [h3, List.drop_eq_nil_of_le h4]; rfl

/-- Rows marked. -/
def markR (k : Int) : Nat → List PV
  | 0 => []
  | n + 1 => .agg [.int .i64 k, .str (mtext (k + 1))] :: markR (k + 2) n
theorem markR_len : ∀ (n : Nat) (k : Int), (markR k n).length = n
  | 0, _ => rfl
  | n + 1, k => by simp [markR, markR_len n]
theorem markR_snoc : ∀ (n : Nat) (k : Int), markR k (n + 1) = markR k n ++ [.agg [.int .i64 (k + 2 * n), .str (mtext (k + 2 * n + 1))]]
  | 0, k => by simp [markR]
  | n + 1, k => by
    rw [markR, markR_snoc n (k + 2), markR, List.cons_append]
    have e : k + 2 + 2 * (n : Int) = k + 2 * ((n + 1 : Nat) : Int) := by omega
    rw [e]
def c_markRowS : FSpec := ⟨[(.mt, .list (.agg [.int .i64, .str])), (.rd, .int .i64)], [.int .i64], true, fun ps => 0 ≤ (nth ps 1).I ∧ (nth ps 1).I + 2 * (nth ps 0).L.length ≤ 1073741823, fun ps => [.int .i64 ((nth ps 1).I + 2 * (nth ps 0).L.length)], fun ps => [.list (markR (nth ps 1).I (nth ps 0).L.length)]⟩
theorem k_markRowS : FnOk Tryz.prog 51 c_markRowS := by
  refine fn_mk [0, 1, 4, 5] [.tmp 4] (env_cons (cs := []) k_markText (env_nil (tyTab_ok []))) mixed Tryz.func51 rfl (by decide) rfl (by decide) rfl ?_
  intro ps hT hpre W hW
  simp only [c_markRowS, TyA, Ty, Tys] at hT hpre
  obtain ⟨_, _, rfl, ⟨es, rfl, hes, tes⟩, _, _, rfl, ⟨k, rfl, hk⟩, rfl⟩ := hT
  simp only [nth_zero, nth_succ, pv_I, pv_L] at hpre
  refine hW.vc [] _ _ ?_
  simp [-List.getD_eq_getElem?_getD, c_markRowS, c_markText]
  refine hW.loopS _ _ _ [.ar 0 (.agg [.int .i64, .str]), .sl 1 .dp (.int .i64), .sl 5 .dp (.int .i64)] (fun ys => ∃ i : Nat, ys = [.list (markR k i ++ es.drop i), .int .i64 (k + 2 * i), .int .i64 i] ∧ i ≤ es.length) (fun ys => es.length - (nth ys 2).I.toNat) ?_ ?_
  · simp [-List.getD_eq_getElem?_getD, c_markRowS, c_markText]
    exact ⟨0, ⟨by simp [markR], by omega, rfl⟩, by omega⟩
  · rintro ys ⟨i, rfl, h2⟩
    refine hW.vc [] _ _ ?_
    simp [-List.getD_eq_getElem?_getD, c_markRowS, c_markText]
    rw [markR_len]
    have e1 : IntKind.i64.wrap (k + 2 * (i : Int) + 1) = k + 2 * i + 1 := wrap64 (by omega)
    rw [e1, wrap64 (n := k + 2 * (i : Int) + 1 + 1) (by omega), wrap64 (n := (i : Int) + 1) (by omega)]
    refine fun _ => ⟨fun h3 => ⟨by omega, by omega, by omega, by omega, by omega, ⟨i + 1, ⟨?_, by omega, by omega⟩, by omega⟩, by omega⟩, fun h3 => ?_⟩
    · rw [nth_set (by rw [List.length_append, markR_len, List.length_drop]; omega), pv_A, nth_zero]
      exact mark_step (markR_len i k) (by omega) (markR_snoc i k)
    · have : i = es.length := by omega
      subst this
      simp

def heldR1 (k : Int) (e : PV) : Bool := (nth e.A 0).I == k && (nth e.A 1).S == mtext (k + 1)
theorem heldR_mark (n : Nat) (k : Int) : heldGo heldR1 2 k (markR k n) = k + 2 * n := by
  rw [held_marked (m := markR) (fun _ => rfl) (fun k n => ⟨_, rfl, by simp [heldR1, pv_S, pv_I, pv_A, nth_zero, nth_succ]⟩)]

def c_heldRowS : FSpec := ⟨[(.rd, .list (.agg [.int .i64, .str])), (.rd, .int .i64)], [.int .i64], true, fun ps => 0 ≤ (nth ps 1).I ∧ (nth ps 1).I + 2 * (nth ps 0).L.length ≤ 1073741823, fun ps => [.int .i64 (heldGo heldR1 2 (nth ps 1).I (nth ps 0).L)], fun _ => []⟩
def c_markView : FSpec := ⟨[(.mt, .agg [.int .i64, .int .i64, .bool, .int .i64, .int .i64, .list (.agg [.int .i64, .str])]), (.rd, .int .i64)], [.int .i64], true, fun ps => 0 ≤ (nth ps 1).I ∧ (nth ps 1).I + 2 * (nth (nth ps 0).A 5).L.length ≤ 1073741823, fun ps => [.int .i64 ((nth ps 1).I + 2 * (nth (nth ps 0).A 5).L.length)],
  fun ps => [.agg [nth (nth ps 0).A 0, nth (nth ps 0).A 1, nth (nth ps 0).A 2, nth (nth ps 0).A 3, nth (nth ps 0).A 4, .list (markR (nth ps 1).I (nth (nth ps 0).A 5).L.length)]]⟩
theorem k_markView : FnOk Tryz.prog 16 c_markView := by
  refine fn_mk [0, 1, 2, 4] [.tmp 4] (env_cons (cs := []) k_markRowS (env_nil (tyTab_ok []))) mixed Tryz.func16 rfl (by decide) rfl (by decide) rfl ?_
  intro ps hT hpre W hW
  simp only [c_markView, TyA, Ty, Tys] at hT hpre
  obtain ⟨_, _, rfl, ⟨_, rfl, _, _, rfl, ⟨n, rfl, hn⟩, _, _, rfl, ⟨f, rfl, hf⟩, _, _, rfl, ⟨u, rfl⟩, _, _, rfl, ⟨w, rfl, hw⟩, _, _, rfl, ⟨h, rfl, hh⟩, _, _, rfl, ⟨es, rfl, hes, tes⟩, rfl⟩, _, _, rfl, ⟨k, rfl, hk⟩, rfl⟩ := hT
  simp only [nth_zero, nth_succ, pv_I, pv_L, pv_A] at hpre
  refine hW.vc [] _ _ ?_
  simp [-List.getD_eq_getElem?_getD, c_markView, c_markRowS]
  exact hpre
def c_heldView : FSpec := ⟨[(.rd, .agg [.int .i64, .int .i64, .bool, .int .i64, .int .i64, .list (.agg [.int .i64, .str])]), (.rd, .int .i64)], [.int .i64], true, fun ps => 0 ≤ (nth ps 1).I ∧ (nth ps 1).I + 2 * (nth (nth ps 0).A 5).L.length ≤ 1073741823, fun ps => [.int .i64 (heldGo heldR1 2 (nth ps 1).I (nth (nth ps 0).A 5).L)], fun _ => []⟩
def c_markMirror : FSpec := ⟨[(.mt, .agg [.int .i64, .int .i64, .int .i64, .list .str]), (.rd, .int .i64)], [.int .i64], true, fun ps => 0 ≤ (nth ps 1).I ∧ (nth ps 1).I + (nth (nth ps 0).A 3).L.length ≤ 1073741823, fun ps => [.int .i64 ((nth ps 1).I + (nth (nth ps 0).A 3).L.length)],
  fun ps => [.agg [nth (nth ps 0).A 0, nth (nth ps 0).A 1, nth (nth ps 0).A 2, .list (markS (nth ps 1).I (nth (nth ps 0).A 3).L.length)]]⟩
theorem k_markMirror : FnOk Tryz.prog 50 c_markMirror := by
  refine fn_mk [0, 1, 2, 4] [.tmp 4] (env_cons (cs := []) k_markStringS (env_nil (tyTab_ok []))) mixed Tryz.func50 rfl (by decide) rfl (by decide) rfl ?_
  intro ps hT hpre W hW
  simp only [c_markMirror, TyA, Ty, Tys] at hT hpre
  obtain ⟨_, _, rfl, ⟨_, rfl, _, _, rfl, ⟨n, rfl, hn⟩, _, _, rfl, ⟨w, rfl, hw⟩, _, _, rfl, ⟨h, rfl, hh⟩, _, _, rfl, ⟨es, rfl, hes, tes⟩, rfl⟩, _, _, rfl, ⟨k, rfl, hk⟩, rfl⟩ := hT
  simp only [nth_zero, nth_succ, pv_I, pv_L, pv_A] at hpre
  refine hW.vc [] _ _ ?_
  simp [-List.getD_eq_getElem?_getD, c_markMirror, c_markStringS]
  omega
def c_heldMirror : FSpec := ⟨[(.rd, .agg [.int .i64, .int .i64, .int .i64, .list .str]), (.rd, .int .i64)], [.int .i64], true, fun ps => 0 ≤ (nth ps 1).I ∧ (nth ps 1).I + (nth (nth ps 0).A 3).L.length ≤ 1073741823, fun ps => [.int .i64 (heldGo heldS1 1 (nth ps 1).I (nth (nth ps 0).A 3).L)], fun _ => []⟩
theorem k_heldMirror : FnOk Tryz.prog 52 c_heldMirror := by
  refine fn_mk [0, 1, 2, 4] [.tmp 4] (env_cons (cs := []) k_heldStringS (env_nil (tyTab_ok []))) mixed Tryz.func52 rfl (by decide) rfl (by decide) rfl ?_
  intro ps hT hpre W hW
  simp only [c_heldMirror, TyA, Ty, Tys] at hT hpre
  obtain ⟨_, _, rfl, ⟨_, rfl, _, _, rfl, ⟨n, rfl, hn⟩, _, _, rfl, ⟨w, rfl, hw⟩, _, _, rfl, ⟨h, rfl, hh⟩, _, _, rfl, ⟨es, rfl, hes, tes⟩, rfl⟩, _, _, rfl, ⟨k, rfl, hk⟩, rfl⟩ := hT
  simp only [nth_zero, nth_succ, pv_I, pv_L, pv_A] at hpre
  refine hW.vc [] _ _ ?_
  simp [-List.getD_eq_getElem?_getD, c_heldMirror, c_heldStringS]
  exact ⟨by omega, fun h1 => (held_neg (by omega) (by omega) h1).symm⟩

end Go.Proofs.YtolgjekokdimoaaGreatDoor
end

section
namespace Go.Proofs.YtolgjekokdimoaaGreatDoor
variable [LaidG]
set_option maxRecDepth 100000
set_option linter.unusedSimpArgs false

def numB (l : List UInt8) : Int := l.foldl (fun n b => n * 256 + b.toNat) 0
theorem numB_snoc (l : List UInt8) (b : UInt8) : numB (l ++ [b]) = numB l * 256 + b.toNat := by simp [numB]
theorem numB_take {l : List UInt8} {i : Nat} (h : i < l.length) : numB (l.take (i + 1)) = numB (l.take i) * 256 + (l.getD i 0).toNat := by
  rw [List.take_succ_eq_append_getElem h, numB_snoc]; simp [h]
theorem numB_bound : ∀ (n : Nat) (l : List UInt8), l.length = n → 0 ≤ numB l ∧ numB l < 256 ^ n
  | 0, l, h => by have := List.eq_nil_of_length_eq_zero h; subst this; simp [numB]
  | n + 1, l, h => by
    have h0 : l ≠ [] := by intro e; subst e; simp at h
    have h1 := List.dropLast_concat_getLast h0
    have h2 := numB_bound n l.dropLast (by simp [h])
    have h3 := (l.getLast h0).toNat_lt
    rw [← h1, numB_snoc, Int.pow_succ]
    omega
theorem numB_le {l : List UInt8} (h : l.length ≤ 7) (i : Nat) : 0 ≤ numB (l.take i) ∧ numB (l.take i) < 72057594037927936 := by
  have h1 := numB_bound (l.take i).length (l.take i) rfl
  refine ⟨h1.1, Int.lt_of_lt_of_le h1.2 ?_⟩
  have h2 : (l.take i).length ≤ 7 := by simp; omega
  have h3 : (256 : Int) ^ (l.take i).length ≤ 256 ^ 7 := by
    have := Nat.pow_le_pow_right (n := 256) (by decide) h2
    exact_mod_cast this
  exact Int.le_trans h3 (by decide)
theorem numB_le6 {l : List UInt8} (h : l.length ≤ 7) {i : Nat} (hi : i < l.length) : 0 ≤ numB (l.take i) ∧ numB (l.take i) < 281474976710656 := by
  have h1 := numB_bound (l.take i).length (l.take i) rfl
  refine ⟨h1.1, Int.lt_of_lt_of_le h1.2 ?_⟩
  have h2 : (l.take i).length ≤ 6 := by simp; omega
  have h3 : (256 : Int) ^ (l.take i).length ≤ 256 ^ 6 := by
    have := Nat.pow_le_pow_right (n := 256) (by decide) h2
    exact_mod_cast this
  exact Int.le_trans h3 (by decide)

theorem or_byte {m : Int} {b : UInt8} (h0 : 0 ≤ m) (h1 : m < 281474976710656) : orI .i64 (m * 256) b.toNat = m * 256 + b.toNat := by
  obtain ⟨k, rfl⟩ := Int.eq_ofNat_of_zero_le h0
  have hb := b.toNat_lt
  unfold orI
  have hw : IntKind.i64.bits = 64 := rfl
  rw [hw]
  have e1 : (BitVec.ofInt 64 ((k : Int) * 256)).toNat = k * 256 := by
    rw [show (k : Int) * 256 = ((k * 256 : Nat) : Int) by simp, BitVec.ofInt_natCast, BitVec.toNat_ofNat]
    exact Nat.mod_eq_of_lt (by omega)
  have e2 : (BitVec.ofInt 64 (b.toNat : Int)).toNat = b.toNat := by
    rw [BitVec.ofInt_natCast, BitVec.toNat_ofNat]
    exact Nat.mod_eq_of_lt (by omega)
  rw [BitVec.toNat_or, e1, e2]
  have e3 : k * 256 ||| b.toNat = k * 256 + b.toNat := by
    have := Nat.shiftLeft_add_eq_or_of_lt (i := 8) (b := b.toNat) (by omega) k
    rw [Nat.shiftLeft_eq] at this
    exact this.symm
  rw [e3]
  rw [wrap64 (by omega)]
  simp

theorem conv_byte (b : UInt8) : IntKind.i64.wrap (b.toNat : Int) = b.toNat := wrap64 (by have := b.toNat_lt; omega)

def c_l02Of : FSpec := ⟨[(.rd, .str)], [.int .i64], true, fun ps => (nth ps 0).S.length ≤ 7, fun ps => [.int .i64 (numB (nth ps 0).S)], fun _ => []⟩
theorem k_l02Of : FnOk Tryz.prog 118 c_l02Of := by
  refine fn_mk [0, 2, 3, 4] [.tmp 2] (env_nil (tyTab_ok [])) mixed Tryz.func118 rfl (by decide) rfl (by decide) rfl ?_
  intro ps hT hpre W hW
  simp only [c_l02Of, TyA, Ty, Tys] at hT hpre
  obtain ⟨_, _, rfl, ⟨l, rfl, hl⟩, rfl⟩ := hT
  simp only [nth_zero, pv_S] at hpre
  refine hW.vc [] _ _ ?_
  simp [-List.getD_eq_getElem?_getD, c_l02Of]
  refine hW.loopS _ _ _ [.sl 3 .dp (.int .i64), .sl 4 .dp (.int .i64)] (fun ys => ∃ i : Nat, ys = [.int .i64 (numB (l.take i)), .int .i64 i] ∧ i ≤ l.length) (fun ys => l.length - (nth ys 1).I.toNat) ?_ ?_
  · simp [-List.getD_eq_getElem?_getD, c_l02Of]
    exact ⟨0, ⟨by simp [numB], rfl⟩, by simp⟩
  · rintro ys ⟨i, rfl, h4⟩
    refine hW.vc [] _ _ ?_
    simp [-List.getD_eq_getElem?_getD, c_l02Of]
    refine fun _ => ⟨fun h6 => ⟨h6, ?_⟩, fun h6 => by rw [List.take_of_length_le h6]⟩
    have h7 := numB_le hpre i
    have h8 := numB_le6 hpre h6
    have h9 := (l.getD i 0).toNat_lt
    rw [conv_byte, wrap64 (n := numB (l.take i) * 256) (by omega), wrap64 (by omega), wrap64 (by omega)]
    exact ⟨⟨i + 1, ⟨(numB_take h6).symm, by omega⟩, by omega⟩, by omega⟩

def c_bigNumber : FSpec := c_l02Of
theorem k_bigNumber : FnOk Tryz.prog 115 c_bigNumber := by
  refine fn_mk [0, 2, 3, 4, 6, 7] [.tmp 2] (env_nil (tyTab_ok [])) mixed Tryz.func115 rfl (by decide) rfl (by decide) rfl ?_
  intro ps hT hpre W hW
  simp only [c_bigNumber, TyA, Ty, Tys] at hT hpre
  simp only [c_l02Of, TyA, Ty] at hT hpre
  obtain ⟨_, _, rfl, ⟨l, rfl, hl⟩, rfl⟩ := hT
  simp only [nth_zero, pv_S] at hpre
  refine hW.vc [] _ _ ?_
  simp [-List.getD_eq_getElem?_getD, c_bigNumber, c_l02Of, c_l02Of]
  intro h0
  refine hW.loopS _ _ _ [.sl 3 .dp (.int .i64), .sl 7 .dp (.int .i64)] (fun ys => ∃ i : Nat, ys = [.int .i64 (numB (l.take i)), .int .i64 i] ∧ i ≤ l.length) (fun ys => l.length - (nth ys 1).I.toNat) ?_ ?_
  · simp [-List.getD_eq_getElem?_getD, c_bigNumber, c_l02Of]
    exact ⟨0, ⟨by simp [numB], rfl⟩, by simp⟩
  · rintro ys ⟨i, rfl, h4⟩
    refine hW.vc [] _ _ ?_
    simp [-List.getD_eq_getElem?_getD, c_bigNumber, c_l02Of, c_l02Of]
    refine ⟨fun h6 => ⟨h6, ?_⟩, fun h6 => by rw [List.take_of_length_le h6]⟩
    have h7 := numB_le hpre i
    have h8 := numB_le6 hpre h6
    have h9 := (l.getD i 0).toNat_lt
    rw [conv_byte, show shlI IntKind.i64 (numB (List.take i l)) 8 = IntKind.i64.wrap (numB (l.take i) * 256) from rfl, wrap64 (n := numB (l.take i) * 256) (by omega), wrap64 (by omega), or_byte h8.1 h8.2]
    exact ⟨⟨i + 1, ⟨(numB_take h6).symm, by omega⟩, by omega⟩, by omega⟩

def runeOk (n : Int) : Bool := inB n 0 1114111 && !inB n 55296 57343
def isRuneB (n : Int) : Bool := inB n 32 1114111 && (n != 127) && !inB n 55296 57343
def cellB (r k : Int) : Bool := runeOk r && decide (r ≥ 32) && (r != 127) && inB k 0 127

def c_l03RuneOK : FSpec := ⟨[(.rd, .int .i64)], [.bool], true, fun _ => True, fun ps => [.bool (runeOk (nth ps 0).I)], fun _ => []⟩
theorem k_l03RuneOK : FnOk Tryz.prog 147 c_l03RuneOK := by
  refine fn_mk [0, 2] [.tmp 2] (env_cons (cs := []) k_l01In (env_nil (tyTab_ok []))) mixed Tryz.func147 rfl (by decide) rfl (by decide) rfl ?_
  intro ps hT hpre W hW
  simp only [c_l03RuneOK, TyA, Ty, Tys] at hT hpre
  obtain ⟨_, _, rfl, ⟨a, rfl, ha⟩, rfl⟩ := hT
  refine hW.vc [] _ _ ?_
  simp [-List.getD_eq_getElem?_getD, c_l03RuneOK, c_l01In, c_within, c_within]
  rfl

def c_isRune : FSpec := ⟨[(.rd, .int .i64)], [.bool], true, fun _ => True, fun ps => [.bool (isRuneB (nth ps 0).I)], fun _ => []⟩
theorem k_isRune : FnOk Tryz.prog 122 c_isRune := by
  refine fn_mk [0, 2] [.tmp 2] (env_cons (cs := []) k_within (env_nil (tyTab_ok []))) mixed Tryz.func122 rfl (by decide) rfl (by decide) rfl ?_
  intro ps hT hpre W hW
  simp only [c_isRune, TyA, Ty, Tys] at hT hpre
  obtain ⟨_, _, rfl, ⟨a, rfl, ha⟩, rfl⟩ := hT
  refine hW.vc [] _ _ ?_
  simp [-List.getD_eq_getElem?_getD, c_isRune, c_within]
  simp only [isRuneB]; congr 2

def c_l04Cell : FSpec := ⟨[(.rd, .agg [.int .i64, .int .i64])], [.bool], true, fun _ => True, fun ps => [.bool (cellB (nth (nth ps 0).A 0).I (nth (nth ps 0).A 1).I)], fun _ => []⟩
theorem k_l04Cell : FnOk Tryz.prog 120 c_l04Cell := by
  refine fn_mk [0, 1, 2] [.tmp 2] (env_cons (cs := []) k_l01In (env_cons (cs := []) k_l03RuneOK (env_nil (tyTab_ok [])))) mixed Tryz.func120 rfl (by decide) rfl (by decide) rfl ?_
  intro ps hT hpre W hW
  simp only [c_l04Cell, TyA, Ty, Tys] at hT hpre
  obtain ⟨_, _, rfl, ⟨_, rfl, _, _, rfl, ⟨a, rfl, ha⟩, _, _, rfl, ⟨b, rfl, hb⟩, rfl⟩, rfl⟩ := hT
  refine hW.vc [] _ _ ?_
  simp [-List.getD_eq_getElem?_getD, c_l04Cell, c_l03RuneOK, c_l01In, c_within, c_within]
  simp only [cellB]; congr 2

/-- A row is so many cells of four bytes each. -/
def rowGo : List UInt8 → Bool
  | [] => true
  | a :: b :: c :: d :: l => isRuneB (numB [a, b, c]) && decide (d.toNat ≤ 127) && rowGo l
  | _ => false
def rowB (l : List UInt8) (w : Int) : Bool := decide ((l.length : Int) = 4 * w) && rowGo l

theorem rowGo_step {r : List UInt8} (h : 4 ≤ r.length) : rowGo r = (isRuneB (numB (r.take 3)) && decide ((r.getD 3 0).toNat ≤ 127) && rowGo (r.drop 4)) := by
  match r, h with
  | a :: b :: c :: d :: l, _ => rfl
theorem cell_eq (n : Int) (d : UInt8) : cellB n d.toNat = (isRuneB n && decide (d.toNat ≤ 127)) := by
  rw [Bool.eq_iff_iff]
  simp [cellB, isRuneB, runeOk, inB]
  omega
theorem row_off {l : List UInt8} {n : Nat} (i : Nat) : (l.drop n).getD i 0 = l.getD (n + i) 0 := by
  simp only [List.getD_eq_getElem?_getD, List.getElem?_drop]

def c_isRow : FSpec := ⟨[(.rd, .str), (.rd, .int .i64)], [.bool], true, fun ps => 0 ≤ (nth ps 1).I ∧ (nth ps 1).I ≤ 1000, fun ps => [.bool (rowB (nth ps 0).S (nth ps 1).I)], fun _ => []⟩
theorem k_isRow : FnOk Tryz.prog 87 c_isRow := by
  refine fn_mk [0, 1, 4] [.tmp 4] (env_cons (cs := []) k_isRune (env_cons (cs := []) k_bigNumber (env_nil (tyTab_ok [])))) mixed Tryz.func87 rfl (by decide) rfl (by decide) rfl ?_
  intro ps hT hpre W hW
  simp only [c_isRow, TyA, Ty, Tys] at hT hpre
  obtain ⟨_, _, rfl, ⟨l, rfl, hl⟩, _, _, rfl, ⟨w, rfl, hw⟩, rfl⟩ := hT
  simp only [nth_zero, nth_succ, pv_S, pv_I] at hpre
  refine hW.vc [] _ _ ?_
  simp [-List.getD_eq_getElem?_getD, c_isRow, c_bigNumber, c_isRune, c_l02Of]
  intro h1
  rw [wrap64 (by omega)]
  refine ⟨fun h => by simp [rowB, h], fun h => ?_⟩
  refine hW.loopS _ _ _ [.sl 0 .dp .str] (fun ys => ∃ r, ys = [.str r] ∧ (∃ k, r.length = 4 * k) ∧ r.length ≤ l.length ∧ rowB l w = rowGo r) (fun ys => (nth ys 0).S.length) ?_ ?_
  · simp [-List.getD_eq_getElem?_getD, c_isRow, c_bigNumber, c_isRune, c_l02Of]
    exact ⟨⟨w.toNat, by omega⟩, by simp [rowB, h]⟩
  · rintro ys ⟨r, rfl, ⟨k, hk⟩, h2, h3⟩
    refine hW.vc [] _ _ ?_
    simp [-List.getD_eq_getElem?_getD, c_isRow, c_bigNumber, c_isRune, c_l02Of]
    refine ⟨fun h4 => ?_, fun h4 => by rw [h3, h4]; rfl⟩
    have h5 : r.length ≠ 0 := fun e => h4 (List.eq_nil_of_length_eq_zero e)
    have h6 : 4 ≤ r.length := by omega
    rw [rowGo_step h6] at h3
    refine ⟨by omega, by omega, fun h7 => ⟨h7, by omega⟩, fun h7 => ?_, fun h7 h8 => ⟨by omega, ⟨⟨k - 1, by omega⟩, by omega, ?_⟩, by omega⟩⟩
    · rw [h3]
      rcases h7 with h7 | h7
      · simp [h7]
      · have : ¬ (r.getD 3 0).toNat ≤ 127 := by omega
        simp only [this, decide_false, Bool.and_false, Bool.false_and]
    · have : (r.getD 3 0).toNat ≤ 127 := by omega
      rw [h3, h7, List.take_of_length_le (by simp)]
      simp only [this, decide_true, Bool.and_true, Bool.true_and]

def c_l11Row : FSpec := ⟨[(.rd, .int .i64), (.rd, .str)], [.bool], true, fun ps => 0 ≤ (nth ps 0).I ∧ (nth ps 0).I ≤ 1000, fun ps => [.bool (rowB (nth ps 1).S (nth ps 0).I)], fun _ => []⟩
theorem k_l11Row : FnOk Tryz.prog 80 c_l11Row := by
  refine fn_mk [0, 1, 4, 5] [.tmp 4] (env_cons (cs := []) k_l04Cell (env_cons (cs := []) k_l02Of (env_nil (tyTab_ok [])))) mixed Tryz.func80 rfl (by decide) rfl (by decide) rfl ?_
  intro ps hT hpre W hW
  simp only [c_l11Row, TyA, Ty, Tys] at hT hpre
  obtain ⟨_, _, rfl, ⟨w, rfl, hw⟩, _, _, rfl, ⟨l, rfl, hl⟩, rfl⟩ := hT
  simp only [nth_zero, nth_succ, pv_S, pv_I] at hpre
  refine hW.vc [(6, [], .take 0 <| .take 1 <| .take 2 <| .take 3 <| .take 4 <| .take 5 <| .take 6 <| .take 8 <| .take 9 <| .take 10 <| .take 11 <| .take 12 <| .take 13 <| .alt 7 (.take 14 <| .alt 15 (.take 16 <| .done) .stop) .stop)] _ _ ?_
  simp [-List.getD_eq_getElem?_getD, c_l11Row, c_l02Of, c_l04Cell]
  intro h1
  rw [wrap64 (by omega)]
  refine ⟨fun h => by simp [rowB, h], fun h => ?_⟩
  refine hW.loopS _ _ _ [.sl 5 .dp (.int .i64)] (fun ys => ∃ x : Nat, ys = [.int .i64 x] ∧ (x : Int) ≤ w ∧ rowB l w = rowGo (l.drop (4 * x))) (fun ys => (w - (nth ys 0).I).toNat) ?_ ?_
  · simp [-List.getD_eq_getElem?_getD, c_l11Row, c_l02Of, c_l04Cell]
    exact ⟨0, rfl, by omega, by simp [rowB, h]⟩
  · rintro ys ⟨x, rfl, h2, h3⟩
    refine hW.vc [(6, [], .take 0 <| .take 1 <| .take 2 <| .take 3 <| .take 4 <| .take 5 <| .take 6 <| .take 8 <| .take 9 <| .take 10 <| .take 11 <| .take 12 <| .take 13 <| .alt 7 (.take 14 <| .alt 15 (.take 16 <| .done) .stop) .stop)] _ _ ?_
    simp [-List.getD_eq_getElem?_getD, c_l11Row, c_l02Of, c_l04Cell]
    refine ⟨fun h4 => ⟨by decide +kernel, ?_⟩, fun h4 => ?_⟩
    · rw [wrap64 (n := 4 * (x : Int)) (by omega), wrap64 (n := 4 * (x : Int) + 3) (by omega), conv_byte, cell_eq]
      have e1 : (4 * (x : Int)).toNat = 4 * x := by omega
      have e2 : (4 * (x : Int) + 3).toNat = 4 * x + 3 := by omega
      have e3 : 4 * x + 3 - 4 * x = 3 := by omega
      rw [e1, e2, e3]
      have h5 : 4 ≤ (l.drop (4 * x)).length := by simp; omega
      rw [rowGo_step h5, row_off, List.drop_drop] at h3
      rw [wrap64 (by omega)]
      refine ⟨⟨by omega, by omega, by omega⟩, ⟨by omega, by omega⟩, by omega, fun h6 => by rw [h3, h6]; rfl, fun h6 => ⟨⟨x + 1, by omega, by omega, ?_⟩, by omega⟩⟩
      rw [h3, h6, Bool.true_and, Nat.mul_add]
    · rw [h3, List.drop_eq_nil_of_le (by omega)]; rfl

end Go.Proofs.YtolgjekokdimoaaGreatDoor
end

