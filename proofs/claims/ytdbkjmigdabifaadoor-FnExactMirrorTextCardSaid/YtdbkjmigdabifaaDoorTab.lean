/-
  The table of the data types.
  Conditions: none.
-/
import Derived.Test.YtdbkjmigdabifaaDoorAux
import Derived.Test.YtdbkjmigdabifaaDoorChecked
namespace Go.Proofs.YtdbkjmigdabifaaDoor
set_option maxRecDepth 100000

/-- int64 -/
noncomputable def T2 : TI := ⟨false, [.int .i64], 0, [], 8, .int .i64⟩
theorem T2_ok : TIok Tryd.prog 2 T2 := tiok_mk (i := Tryd.t2) Tryd.underlying2 Tryd.type2 rfl rfl rfl rfl rfl rfl (by kernel_rfl) (by decide) (by decide) (by decide) rfl
theorem T2_sz : T2.sz = 1 := rfl
theorem T2_pty : T2.pty = .int .i64 := rfl
/-- int -/
noncomputable def T3 : TI := ⟨false, [.int .i64], 0, [], 8, .int .i64⟩
theorem T3_ok : TIok Tryd.prog 3 T3 := tiok_mk (i := Tryd.t3) Tryd.underlying3 Tryd.type3 rfl rfl rfl rfl rfl rfl (by kernel_rfl) (by decide) (by decide) (by decide) rfl
theorem T3_sz : T3.sz = 1 := rfl
theorem T3_pty : T3.pty = .int .i64 := rfl
/-- bool -/
noncomputable def T4 : TI := ⟨false, [.bool], 0, [], 1, .bool⟩
theorem T4_ok : TIok Tryd.prog 4 T4 := tiok_mk (i := Tryd.t4) Tryd.underlying4 Tryd.type4 rfl rfl rfl rfl rfl rfl (by kernel_rfl) (by decide) (by decide) (by decide) rfl
theorem T4_sz : T4.sz = 1 := rfl
theorem T4_pty : T4.pty = .bool := rfl
/-- uint8 -/
noncomputable def T5 : TI := ⟨false, [.int .u8], 0, [], 1, .int .u8⟩
theorem T5_ok : TIok Tryd.prog 5 T5 := tiok_mk (i := Tryd.t5) Tryd.underlying5 Tryd.type5 rfl rfl rfl rfl rfl rfl (by kernel_rfl) (by decide) (by decide) (by decide) rfl
theorem T5_sz : T5.sz = 1 := rfl
theorem T5_pty : T5.pty = .int .u8 := rfl
/-- abi.BoundsErrorCode -/
noncomputable def T6 : TI := ⟨false, [.int .u8], 0, [], 1, .int .u8⟩
theorem T6_ok : TIok Tryd.prog 6 T6 := tiok_mk (i := Tryd.t6) Tryd.underlying6 Tryd.type6 rfl rfl rfl rfl rfl rfl (by kernel_rfl) (by decide) (by decide) (by decide) rfl
theorem T6_sz : T6.sz = 1 := rfl
theorem T6_pty : T6.pty = .int .u8 := rfl
/-- a struct -/
noncomputable def T7 : TI := ⟨true, [.int .i64, .int .i64, .bool, .int .u8], 0, [(0, 2), (1, 3), (2, 4), (3, 6)], 24, .struct (match Tryd.t7.desc with | .struct fs => fs | _ => #[])⟩
theorem T7_ok : TIok Tryd.prog 7 T7 := tiok_mk (i := Tryd.t7) Tryd.underlying7 Tryd.type7 rfl rfl rfl rfl rfl rfl (by kernel_rfl) (by decide) (by decide) (by decide) rfl
theorem T7_sz : T7.sz = 4 := rfl
theorem T7_pty : T7.pty = .agg [.int .i64, .int .i64, .bool, .int .u8] := rfl
/-- runtime.boundsError -/
noncomputable def T8 : TI := ⟨true, [.int .i64, .int .i64, .bool, .int .u8], 0, [(0, 2), (1, 3), (2, 4), (3, 6)], 24, .struct (match Tryd.t7.desc with | .struct fs => fs | _ => #[])⟩
theorem T8_ok : TIok Tryd.prog 8 T8 := tiok_mk (i := Tryd.t8) Tryd.underlying8 Tryd.type8 rfl rfl rfl rfl rfl rfl (by kernel_rfl) (by decide) (by decide) (by decide) rfl
theorem T8_sz : T8.sz = 4 := rfl
theorem T8_pty : T8.pty = .agg [.int .i64, .int .i64, .bool, .int .u8] := rfl
/-- string -/
noncomputable def T9 : TI := ⟨false, [.str], 0, [], 16, .string⟩
theorem T9_ok : TIok Tryd.prog 9 T9 := tiok_mk (i := Tryd.t9) Tryd.underlying9 Tryd.type9 rfl rfl rfl rfl rfl rfl (by kernel_rfl) (by decide) (by decide) (by decide) rfl
theorem T9_sz : T9.sz = 1 := rfl
theorem T9_pty : T9.pty = .str := rfl
/-- runtime.errorString -/
noncomputable def T10 : TI := ⟨false, [.str], 0, [], 16, .string⟩
theorem T10_ok : TIok Tryd.prog 10 T10 := tiok_mk (i := Tryd.t10) Tryd.underlying10 Tryd.type10 rfl rfl rfl rfl rfl rfl (by kernel_rfl) (by decide) (by decide) (by decide) rfl
theorem T10_sz : T10.sz = 1 := rfl
theorem T10_pty : T10.pty = .str := rfl
/-- runtime.plainError -/
noncomputable def T11 : TI := ⟨false, [.str], 0, [], 16, .string⟩
theorem T11_ok : TIok Tryd.prog 11 T11 := tiok_mk (i := Tryd.t11) Tryd.underlying11 Tryd.type11 rfl rfl rfl rfl rfl rfl (by kernel_rfl) (by decide) (by decide) (by decide) rfl
theorem T11_sz : T11.sz = 1 := rfl
theorem T11_pty : T11.pty = .str := rfl
/-- uintptr -/
noncomputable def T12 : TI := ⟨false, [.int .u64], 0, [], 8, .int .u64⟩
theorem T12_ok : TIok Tryd.prog 12 T12 := tiok_mk (i := Tryd.t12) Tryd.underlying12 Tryd.type12 rfl rfl rfl rfl rfl rfl (by kernel_rfl) (by decide) (by decide) (by decide) rfl
theorem T12_sz : T12.sz = 1 := rfl
theorem T12_pty : T12.pty = .int .u64 := rfl
/-- a struct -/
noncomputable def T13 : TI := ⟨true, [.str, .int .u64], 0, [(0, 9), (1, 12)], 24, .struct (match Tryd.t13.desc with | .struct fs => fs | _ => #[])⟩
theorem T13_ok : TIok Tryd.prog 13 T13 := tiok_mk (i := Tryd.t13) Tryd.underlying13 Tryd.type13 rfl rfl rfl rfl rfl rfl (by kernel_rfl) (by decide) (by decide) (by decide) rfl
theorem T13_sz : T13.sz = 2 := rfl
theorem T13_pty : T13.pty = .agg [.str, .int .u64] := rfl
/-- runtime.errorAddressString -/
noncomputable def T14 : TI := ⟨true, [.str, .int .u64], 0, [(0, 9), (1, 12)], 24, .struct (match Tryd.t13.desc with | .struct fs => fs | _ => #[])⟩
theorem T14_ok : TIok Tryd.prog 14 T14 := tiok_mk (i := Tryd.t14) Tryd.underlying14 Tryd.type14 rfl rfl rfl rfl rfl rfl (by kernel_rfl) (by decide) (by decide) (by decide) rfl
theorem T14_sz : T14.sz = 2 := rfl
theorem T14_pty : T14.pty = .agg [.str, .int .u64] := rfl
/-- *runtime.TypeAssertionError -/
noncomputable def T15 : TI := ⟨false, [.opq], 0, [], 8, .pointer 151⟩
theorem T15_ok : TIok Tryd.prog 15 T15 := tiok_mk (i := Tryd.t15) Tryd.underlying15 Tryd.type15 rfl rfl rfl rfl rfl rfl (by kernel_rfl) (by decide) (by decide) (by decide) rfl
theorem T15_sz : T15.sz = 1 := rfl
theorem T15_pty : T15.pty = .opq := rfl
/-- *runtime.PanicNilError -/
noncomputable def T16 : TI := ⟨false, [.opq], 0, [], 8, .pointer 154⟩
theorem T16_ok : TIok Tryd.prog 16 T16 := tiok_mk (i := Tryd.t16) Tryd.underlying16 Tryd.type16 rfl rfl rfl rfl rfl rfl (by kernel_rfl) (by decide) (by decide) (by decide) rfl
theorem T16_sz : T16.sz = 1 := rfl
theorem T16_pty : T16.pty = .opq := rfl
/-- *abi.Type -/
noncomputable def T17 : TI := ⟨false, [.opq], 0, [], 8, .pointer 161⟩
theorem T17_ok : TIok Tryd.prog 17 T17 := tiok_mk (i := Tryd.t17) Tryd.underlying17 Tryd.type17 rfl rfl rfl rfl rfl rfl (by kernel_rfl) (by decide) (by decide) (by decide) rfl
theorem T17_sz : T17.sz = 1 := rfl
theorem T17_pty : T17.pty = .opq := rfl
/-- a struct -/
noncomputable def T18 : TI := ⟨true, [.opq], 0, [(0, 17)], 8, .struct (match Tryd.t18.desc with | .struct fs => fs | _ => #[])⟩
theorem T18_ok : TIok Tryd.prog 18 T18 := tiok_mk (i := Tryd.t18) Tryd.underlying18 Tryd.type18 rfl rfl rfl rfl rfl rfl (by kernel_rfl) (by decide) (by decide) (by decide) rfl
theorem T18_sz : T18.sz = 1 := rfl
theorem T18_pty : T18.pty = .agg [.opq] := rfl
/-- maps.unhashableTypeError -/
noncomputable def T19 : TI := ⟨true, [.opq], 0, [(0, 17)], 8, .struct (match Tryd.t18.desc with | .struct fs => fs | _ => #[])⟩
theorem T19_ok : TIok Tryd.prog 19 T19 := tiok_mk (i := Tryd.t19) Tryd.underlying19 Tryd.type19 rfl rfl rfl rfl rfl rfl (by kernel_rfl) (by decide) (by decide) (by decide) rfl
theorem T19_sz : T19.sz = 1 := rfl
theorem T19_pty : T19.pty = .agg [.opq] := rfl
/-- int32 -/
noncomputable def T21 : TI := ⟨false, [.int .i32], 0, [], 4, .int .i32⟩
theorem T21_ok : TIok Tryd.prog 21 T21 := tiok_mk (i := Tryd.t21) Tryd.underlying21 Tryd.type21 rfl rfl rfl rfl rfl rfl (by kernel_rfl) (by decide) (by decide) (by decide) rfl
theorem T21_sz : T21.sz = 1 := rfl
theorem T21_pty : T21.pty = .int .i32 := rfl
/-- []string -/
noncomputable def T22 : TI := ⟨false, [.list (.str)], 9, [], 24, .slice 9⟩
theorem T22_ok : TIok Tryd.prog 22 T22 := tiok_mk (i := Tryd.t22) Tryd.underlying22 Tryd.type22 rfl rfl rfl rfl rfl rfl (by kernel_rfl) (by decide) (by decide) (by decide) rfl
theorem T22_sz : T22.sz = 1 := rfl
theorem T22_pty : T22.pty = .list (.str) := rfl
/-- a struct -/
noncomputable def T23 : TI := ⟨true, [.int .i64, .int .i64, .int .i64, .list (.str)], 0, [(0, 3), (1, 3), (2, 3), (3, 22)], 48, .struct (match Tryd.t23.desc with | .struct fs => fs | _ => #[])⟩
theorem T23_ok : TIok Tryd.prog 23 T23 := tiok_mk (i := Tryd.t23) Tryd.underlying23 Tryd.type23 rfl rfl rfl rfl rfl rfl (by kernel_rfl) (by decide) (by decide) (by decide) rfl
theorem T23_sz : T23.sz = 4 := rfl
theorem T23_pty : T23.pty = .agg [.int .i64, .int .i64, .int .i64, .list (.str)] := rfl
/-- laws.Mirror -/
noncomputable def T24 : TI := ⟨true, [.int .i64, .int .i64, .int .i64, .list (.str)], 0, [(0, 3), (1, 3), (2, 3), (3, 22)], 48, .struct (match Tryd.t23.desc with | .struct fs => fs | _ => #[])⟩
theorem T24_ok : TIok Tryd.prog 24 T24 := tiok_mk (i := Tryd.t24) Tryd.underlying24 Tryd.type24 rfl rfl rfl rfl rfl rfl (by kernel_rfl) (by decide) (by decide) (by decide) rfl
theorem T24_sz : T24.sz = 4 := rfl
theorem T24_pty : T24.pty = .agg [.int .i64, .int .i64, .int .i64, .list (.str)] := rfl
/-- impl.Mirror -/
noncomputable def T28 : TI := ⟨true, [.int .i64, .int .i64, .int .i64, .list (.str)], 0, [(0, 3), (1, 3), (2, 3), (3, 22)], 48, .struct (match Tryd.t23.desc with | .struct fs => fs | _ => #[])⟩
theorem T28_ok : TIok Tryd.prog 28 T28 := tiok_mk (i := Tryd.t28) Tryd.underlying28 Tryd.type28 rfl rfl rfl rfl rfl rfl (by kernel_rfl) (by decide) (by decide) (by decide) rfl
theorem T28_sz : T28.sz = 4 := rfl
theorem T28_pty : T28.pty = .agg [.int .i64, .int .i64, .int .i64, .list (.str)] := rfl
/-- a struct -/
noncomputable def T38 : TI := ⟨true, [.int .i64, .str, .str, .int .i64, .int .i64, .int .i64, .list (.str)], 0, [(0, 3), (1, 9), (2, 9), (3, 28)], 88, .struct (match Tryd.t38.desc with | .struct fs => fs | _ => #[])⟩
theorem T38_ok : TIok Tryd.prog 38 T38 := tiok_mk (i := Tryd.t38) Tryd.underlying38 Tryd.type38 rfl rfl rfl rfl rfl rfl (by kernel_rfl) (by decide) (by decide) (by decide) rfl
theorem T38_sz : T38.sz = 7 := rfl
theorem T38_pty : T38.pty = .agg [.int .i64, .str, .str, .int .i64, .int .i64, .int .i64, .list (.str)] := rfl
/-- impl.Client -/
noncomputable def T39 : TI := ⟨true, [.int .i64, .str, .str, .int .i64, .int .i64, .int .i64, .list (.str)], 0, [(0, 3), (1, 9), (2, 9), (3, 28)], 88, .struct (match Tryd.t38.desc with | .struct fs => fs | _ => #[])⟩
theorem T39_ok : TIok Tryd.prog 39 T39 := tiok_mk (i := Tryd.t39) Tryd.underlying39 Tryd.type39 rfl rfl rfl rfl rfl rfl (by kernel_rfl) (by decide) (by decide) (by decide) rfl
theorem T39_sz : T39.sz = 7 := rfl
theorem T39_pty : T39.pty = .agg [.int .i64, .str, .str, .int .i64, .int .i64, .int .i64, .list (.str)] := rfl
/-- a struct -/
noncomputable def T45 : TI := ⟨true, [.int .i64, .str, .str, .int .i64, .int .i64, .int .i64, .list (.str)], 0, [(0, 3), (1, 9), (2, 9), (3, 24)], 88, .struct (match Tryd.t45.desc with | .struct fs => fs | _ => #[])⟩
theorem T45_ok : TIok Tryd.prog 45 T45 := tiok_mk (i := Tryd.t45) Tryd.underlying45 Tryd.type45 rfl rfl rfl rfl rfl rfl (by kernel_rfl) (by decide) (by decide) (by decide) rfl
theorem T45_sz : T45.sz = 7 := rfl
theorem T45_pty : T45.pty = .agg [.int .i64, .str, .str, .int .i64, .int .i64, .int .i64, .list (.str)] := rfl
/-- laws.Client -/
noncomputable def T46 : TI := ⟨true, [.int .i64, .str, .str, .int .i64, .int .i64, .int .i64, .list (.str)], 0, [(0, 3), (1, 9), (2, 9), (3, 24)], 88, .struct (match Tryd.t45.desc with | .struct fs => fs | _ => #[])⟩
theorem T46_ok : TIok Tryd.prog 46 T46 := tiok_mk (i := Tryd.t46) Tryd.underlying46 Tryd.type46 rfl rfl rfl rfl rfl rfl (by kernel_rfl) (by decide) (by decide) (by decide) rfl
theorem T46_sz : T46.sz = 7 := rfl
theorem T46_pty : T46.pty = .agg [.int .i64, .str, .str, .int .i64, .int .i64, .int .i64, .list (.str)] := rfl
/-- []uint8 -/
noncomputable def T68 : TI := ⟨false, [.list (.int .u8)], 5, [], 24, .slice 5⟩
theorem T68_ok : TIok Tryd.prog 68 T68 := tiok_mk (i := Tryd.t68) Tryd.underlying68 Tryd.type68 rfl rfl rfl rfl rfl rfl (by kernel_rfl) (by decide) (by decide) (by decide) rfl
theorem T68_sz : T68.sz = 1 := rfl
theorem T68_pty : T68.pty = .list (.int .u8) := rfl
/-- []int -/
noncomputable def T77 : TI := ⟨false, [.list (.int .i64)], 3, [], 24, .slice 3⟩
theorem T77_ok : TIok Tryd.prog 77 T77 := tiok_mk (i := Tryd.t77) Tryd.underlying77 Tryd.type77 rfl rfl rfl rfl rfl rfl (by kernel_rfl) (by decide) (by decide) (by decide) rfl
theorem T77_sz : T77.sz = 1 := rfl
theorem T77_pty : T77.pty = .list (.int .i64) := rfl
/-- uint -/
noncomputable def T83 : TI := ⟨false, [.int .u64], 0, [], 8, .int .u64⟩
theorem T83_ok : TIok Tryd.prog 83 T83 := tiok_mk (i := Tryd.t83) Tryd.underlying83 Tryd.type83 rfl rfl rfl rfl rfl rfl (by kernel_rfl) (by decide) (by decide) (by decide) rfl
theorem T83_sz : T83.sz = 1 := rfl
theorem T83_pty : T83.pty = .int .u64 := rfl
/-- *strings.asciiSet -/
noncomputable def T90 : TI := ⟨false, [.opq], 0, [], 8, .pointer 86⟩
theorem T90_ok : TIok Tryd.prog 90 T90 := tiok_mk (i := Tryd.t90) Tryd.underlying90 Tryd.type90 rfl rfl rfl rfl rfl rfl (by kernel_rfl) (by decide) (by decide) (by decide) rfl
theorem T90_sz : T90.sz = 1 := rfl
theorem T90_pty : T90.pty = .opq := rfl
/-- *uint8 -/
noncomputable def T91 : TI := ⟨false, [.opq], 0, [], 8, .pointer 5⟩
theorem T91_ok : TIok Tryd.prog 91 T91 := tiok_mk (i := Tryd.t91) Tryd.underlying91 Tryd.type91 rfl rfl rfl rfl rfl rfl (by kernel_rfl) (by decide) (by decide) (by decide) rfl
theorem T91_sz : T91.sz = 1 := rfl
theorem T91_pty : T91.pty = .opq := rfl
/-- a struct -/
noncomputable def T95 : TI := ⟨true, [.int .i64, .int .i64], 0, [(0, 3), (1, 3)], 16, .struct (match Tryd.t95.desc with | .struct fs => fs | _ => #[])⟩
theorem T95_ok : TIok Tryd.prog 95 T95 := tiok_mk (i := Tryd.t95) Tryd.underlying95 Tryd.type95 rfl rfl rfl rfl rfl rfl (by kernel_rfl) (by decide) (by decide) (by decide) rfl
theorem T95_sz : T95.sz = 2 := rfl
theorem T95_pty : T95.pty = .agg [.int .i64, .int .i64] := rfl
/-- impl.Cell -/
noncomputable def T96 : TI := ⟨true, [.int .i64, .int .i64], 0, [(0, 3), (1, 3)], 16, .struct (match Tryd.t95.desc with | .struct fs => fs | _ => #[])⟩
theorem T96_ok : TIok Tryd.prog 96 T96 := tiok_mk (i := Tryd.t96) Tryd.underlying96 Tryd.type96 rfl rfl rfl rfl rfl rfl (by kernel_rfl) (by decide) (by decide) (by decide) rfl
theorem T96_sz : T96.sz = 2 := rfl
theorem T96_pty : T96.pty = .agg [.int .i64, .int .i64] := rfl
/-- uint32 -/
noncomputable def T100 : TI := ⟨false, [.int .u32], 0, [], 4, .int .u32⟩
theorem T100_ok : TIok Tryd.prog 100 T100 := tiok_mk (i := Tryd.t100) Tryd.underlying100 Tryd.type100 rfl rfl rfl rfl rfl rfl (by kernel_rfl) (by decide) (by decide) (by decide) rfl
theorem T100_sz : T100.sz = 1 := rfl
theorem T100_pty : T100.pty = .int .u32 := rfl
/-- []uint32 -/
noncomputable def T105 : TI := ⟨false, [.list (.int .u32)], 100, [], 24, .slice 100⟩
theorem T105_ok : TIok Tryd.prog 105 T105 := tiok_mk (i := Tryd.t105) Tryd.underlying105 Tryd.type105 rfl rfl rfl rfl rfl rfl (by kernel_rfl) (by decide) (by decide) (by decide) rfl
theorem T105_sz : T105.sz = 1 := rfl
theorem T105_pty : T105.pty = .list (.int .u32) := rfl
/-- [8]uint32 -/
noncomputable def T108 : TI := ⟨true, [.int .u32, .int .u32, .int .u32, .int .u32, .int .u32, .int .u32, .int .u32, .int .u32], 0, [], 32, .array 8 100⟩
theorem T108_ok : TIok Tryd.prog 108 T108 := tiok_mk (i := Tryd.t108) Tryd.underlying108 Tryd.type108 rfl rfl rfl rfl rfl rfl (by kernel_rfl) (by decide) (by decide) (by decide) rfl
theorem T108_sz : T108.sz = 8 := rfl
theorem T108_pty : T108.pty = .agg [.int .u32, .int .u32, .int .u32, .int .u32, .int .u32, .int .u32, .int .u32, .int .u32] := rfl
/-- *[8]uint32 -/
noncomputable def T112 : TI := ⟨false, [.opq], 0, [], 8, .pointer 108⟩
theorem T112_ok : TIok Tryd.prog 112 T112 := tiok_mk (i := Tryd.t112) Tryd.underlying112 Tryd.type112 rfl rfl rfl rfl rfl rfl (by kernel_rfl) (by decide) (by decide) (by decide) rfl
theorem T112_sz : T112.sz = 1 := rfl
theorem T112_pty : T112.pty = .opq := rfl
/-- [64]uint32 -/
noncomputable def T122 : TI := ⟨true, [.int .u32, .int .u32, .int .u32, .int .u32, .int .u32, .int .u32, .int .u32, .int .u32, .int .u32, .int .u32, .int .u32, .int .u32, .int .u32, .int .u32, .int .u32, .int .u32, .int .u32, .int .u32, .int .u32, .int .u32, .int .u32, .int .u32, .int .u32, .int .u32, .int .u32, .int .u32, .int .u32, .int .u32, .int .u32, .int .u32, .int .u32, .int .u32, .int .u32, .int .u32, .int .u32, .int .u32, .int .u32, .int .u32, .int .u32, .int .u32, .int .u32, .int .u32, .int .u32, .int .u32, .int .u32, .int .u32, .int .u32, .int .u32, .int .u32, .int .u32, .int .u32, .int .u32, .int .u32, .int .u32, .int .u32, .int .u32, .int .u32, .int .u32, .int .u32, .int .u32, .int .u32, .int .u32, .int .u32, .int .u32], 0, [], 256, .array 64 100⟩
theorem T122_ok : TIok Tryd.prog 122 T122 := tiok_mk (i := Tryd.t122) Tryd.underlying122 Tryd.type122 rfl rfl rfl rfl rfl rfl (by kernel_rfl) (by decide) (by decide) (by decide) rfl
theorem T122_sz : T122.sz = 64 := rfl
theorem T122_pty : T122.pty = .agg [.int .u32, .int .u32, .int .u32, .int .u32, .int .u32, .int .u32, .int .u32, .int .u32, .int .u32, .int .u32, .int .u32, .int .u32, .int .u32, .int .u32, .int .u32, .int .u32, .int .u32, .int .u32, .int .u32, .int .u32, .int .u32, .int .u32, .int .u32, .int .u32, .int .u32, .int .u32, .int .u32, .int .u32, .int .u32, .int .u32, .int .u32, .int .u32, .int .u32, .int .u32, .int .u32, .int .u32, .int .u32, .int .u32, .int .u32, .int .u32, .int .u32, .int .u32, .int .u32, .int .u32, .int .u32, .int .u32, .int .u32, .int .u32, .int .u32, .int .u32, .int .u32, .int .u32, .int .u32, .int .u32, .int .u32, .int .u32, .int .u32, .int .u32, .int .u32, .int .u32, .int .u32, .int .u32, .int .u32, .int .u32] := rfl
/-- [24]uint8 -/
noncomputable def T124 : TI := ⟨true, [.int .u8, .int .u8, .int .u8, .int .u8, .int .u8, .int .u8, .int .u8, .int .u8, .int .u8, .int .u8, .int .u8, .int .u8, .int .u8, .int .u8, .int .u8, .int .u8, .int .u8, .int .u8, .int .u8, .int .u8, .int .u8, .int .u8, .int .u8, .int .u8], 0, [], 24, .array 24 5⟩
theorem T124_ok : TIok Tryd.prog 124 T124 := tiok_mk (i := Tryd.t124) Tryd.underlying124 Tryd.type124 rfl rfl rfl rfl rfl rfl (by kernel_rfl) (by decide) (by decide) (by decide) rfl
theorem T124_sz : T124.sz = 24 := rfl
theorem T124_pty : T124.pty = .agg [.int .u8, .int .u8, .int .u8, .int .u8, .int .u8, .int .u8, .int .u8, .int .u8, .int .u8, .int .u8, .int .u8, .int .u8, .int .u8, .int .u8, .int .u8, .int .u8, .int .u8, .int .u8, .int .u8, .int .u8, .int .u8, .int .u8, .int .u8, .int .u8] := rfl
/-- uint64 -/
noncomputable def T125 : TI := ⟨false, [.int .u64], 0, [], 8, .int .u64⟩
theorem T125_ok : TIok Tryd.prog 125 T125 := tiok_mk (i := Tryd.t125) Tryd.underlying125 Tryd.type125 rfl rfl rfl rfl rfl rfl (by kernel_rfl) (by decide) (by decide) (by decide) rfl
theorem T125_sz : T125.sz = 1 := rfl
theorem T125_pty : T125.pty = .int .u64 := rfl
/-- [20]uint64 -/
noncomputable def T139 : TI := ⟨true, [.int .u64, .int .u64, .int .u64, .int .u64, .int .u64, .int .u64, .int .u64, .int .u64, .int .u64, .int .u64, .int .u64, .int .u64, .int .u64, .int .u64, .int .u64, .int .u64, .int .u64, .int .u64, .int .u64, .int .u64], 0, [], 160, .array 20 125⟩
theorem T139_ok : TIok Tryd.prog 139 T139 := tiok_mk (i := Tryd.t139) Tryd.underlying139 Tryd.type139 rfl rfl rfl rfl rfl rfl (by kernel_rfl) (by decide) (by decide) (by decide) rfl
theorem T139_sz : T139.sz = 20 := rfl
theorem T139_pty : T139.pty = .agg [.int .u64, .int .u64, .int .u64, .int .u64, .int .u64, .int .u64, .int .u64, .int .u64, .int .u64, .int .u64, .int .u64, .int .u64, .int .u64, .int .u64, .int .u64, .int .u64, .int .u64, .int .u64, .int .u64, .int .u64] := rfl
/-- a struct -/
noncomputable def T143 : TI := ⟨true, [.int .u8, .int .u8], 0, [(0, 5), (1, 5)], 2, .struct (match Tryd.t143.desc with | .struct fs => fs | _ => #[])⟩
theorem T143_ok : TIok Tryd.prog 143 T143 := tiok_mk (i := Tryd.t143) Tryd.underlying143 Tryd.type143 rfl rfl rfl rfl rfl rfl (by kernel_rfl) (by decide) (by decide) (by decide) rfl
theorem T143_sz : T143.sz = 2 := rfl
theorem T143_pty : T143.pty = .agg [.int .u8, .int .u8] := rfl
/-- utf8.acceptRange -/
noncomputable def T144 : TI := ⟨true, [.int .u8, .int .u8], 0, [(0, 5), (1, 5)], 2, .struct (match Tryd.t143.desc with | .struct fs => fs | _ => #[])⟩
theorem T144_ok : TIok Tryd.prog 144 T144 := tiok_mk (i := Tryd.t144) Tryd.underlying144 Tryd.type144 rfl rfl rfl rfl rfl rfl (by kernel_rfl) (by decide) (by decide) (by decide) rfl
theorem T144_sz : T144.sz = 2 := rfl
theorem T144_pty : T144.pty = .agg [.int .u8, .int .u8] := rfl
/-- [16]utf8.acceptRange -/
noncomputable def T145 : TI := ⟨true, [.int .u8, .int .u8, .int .u8, .int .u8, .int .u8, .int .u8, .int .u8, .int .u8, .int .u8, .int .u8, .int .u8, .int .u8, .int .u8, .int .u8, .int .u8, .int .u8, .int .u8, .int .u8, .int .u8, .int .u8, .int .u8, .int .u8, .int .u8, .int .u8, .int .u8, .int .u8, .int .u8, .int .u8, .int .u8, .int .u8, .int .u8, .int .u8], 0, [], 32, .array 16 144⟩
theorem T145_ok : TIok Tryd.prog 145 T145 := tiok_mk (i := Tryd.t145) Tryd.underlying145 Tryd.type145 rfl rfl rfl rfl rfl rfl (by kernel_rfl) (by decide) (by decide) (by decide) rfl
theorem T145_sz : T145.sz = 32 := rfl
theorem T145_pty : T145.pty = .agg [.int .u8, .int .u8, .int .u8, .int .u8, .int .u8, .int .u8, .int .u8, .int .u8, .int .u8, .int .u8, .int .u8, .int .u8, .int .u8, .int .u8, .int .u8, .int .u8, .int .u8, .int .u8, .int .u8, .int .u8, .int .u8, .int .u8, .int .u8, .int .u8, .int .u8, .int .u8, .int .u8, .int .u8, .int .u8, .int .u8, .int .u8, .int .u8] := rfl
/-- [32]uint8 -/
noncomputable def T148 : TI := ⟨true, [.int .u8, .int .u8, .int .u8, .int .u8, .int .u8, .int .u8, .int .u8, .int .u8, .int .u8, .int .u8, .int .u8, .int .u8, .int .u8, .int .u8, .int .u8, .int .u8, .int .u8, .int .u8, .int .u8, .int .u8, .int .u8, .int .u8, .int .u8, .int .u8, .int .u8, .int .u8, .int .u8, .int .u8, .int .u8, .int .u8, .int .u8, .int .u8], 0, [], 32, .array 32 5⟩
theorem T148_ok : TIok Tryd.prog 148 T148 := tiok_mk (i := Tryd.t148) Tryd.underlying148 Tryd.type148 rfl rfl rfl rfl rfl rfl (by kernel_rfl) (by decide) (by decide) (by decide) rfl
theorem T148_sz : T148.sz = 32 := rfl
theorem T148_pty : T148.pty = .agg [.int .u8, .int .u8, .int .u8, .int .u8, .int .u8, .int .u8, .int .u8, .int .u8, .int .u8, .int .u8, .int .u8, .int .u8, .int .u8, .int .u8, .int .u8, .int .u8, .int .u8, .int .u8, .int .u8, .int .u8, .int .u8, .int .u8, .int .u8, .int .u8, .int .u8, .int .u8, .int .u8, .int .u8, .int .u8, .int .u8, .int .u8, .int .u8] := rfl
/-- [64]uint8 -/
noncomputable def T149 : TI := ⟨true, [.int .u8, .int .u8, .int .u8, .int .u8, .int .u8, .int .u8, .int .u8, .int .u8, .int .u8, .int .u8, .int .u8, .int .u8, .int .u8, .int .u8, .int .u8, .int .u8, .int .u8, .int .u8, .int .u8, .int .u8, .int .u8, .int .u8, .int .u8, .int .u8, .int .u8, .int .u8, .int .u8, .int .u8, .int .u8, .int .u8, .int .u8, .int .u8, .int .u8, .int .u8, .int .u8, .int .u8, .int .u8, .int .u8, .int .u8, .int .u8, .int .u8, .int .u8, .int .u8, .int .u8, .int .u8, .int .u8, .int .u8, .int .u8, .int .u8, .int .u8, .int .u8, .int .u8, .int .u8, .int .u8, .int .u8, .int .u8, .int .u8, .int .u8, .int .u8, .int .u8, .int .u8, .int .u8, .int .u8, .int .u8], 0, [], 64, .array 64 5⟩
theorem T149_ok : TIok Tryd.prog 149 T149 := tiok_mk (i := Tryd.t149) Tryd.underlying149 Tryd.type149 rfl rfl rfl rfl rfl rfl (by kernel_rfl) (by decide) (by decide) (by decide) rfl
theorem T149_sz : T149.sz = 64 := rfl
theorem T149_pty : T149.pty = .agg [.int .u8, .int .u8, .int .u8, .int .u8, .int .u8, .int .u8, .int .u8, .int .u8, .int .u8, .int .u8, .int .u8, .int .u8, .int .u8, .int .u8, .int .u8, .int .u8, .int .u8, .int .u8, .int .u8, .int .u8, .int .u8, .int .u8, .int .u8, .int .u8, .int .u8, .int .u8, .int .u8, .int .u8, .int .u8, .int .u8, .int .u8, .int .u8, .int .u8, .int .u8, .int .u8, .int .u8, .int .u8, .int .u8, .int .u8, .int .u8, .int .u8, .int .u8, .int .u8, .int .u8, .int .u8, .int .u8, .int .u8, .int .u8, .int .u8, .int .u8, .int .u8, .int .u8, .int .u8, .int .u8, .int .u8, .int .u8, .int .u8, .int .u8, .int .u8, .int .u8, .int .u8, .int .u8, .int .u8, .int .u8] := rfl
/-- a struct -/
noncomputable def T150 : TI := ⟨true, [.opq, .opq, .opq, .str], 0, [(0, 17), (1, 17), (2, 17), (3, 9)], 40, .struct (match Tryd.t150.desc with | .struct fs => fs | _ => #[])⟩
theorem T150_ok : TIok Tryd.prog 150 T150 := tiok_mk (i := Tryd.t150) Tryd.underlying150 Tryd.type150 rfl rfl rfl rfl rfl rfl (by kernel_rfl) (by decide) (by decide) (by decide) rfl
theorem T150_sz : T150.sz = 4 := rfl
theorem T150_pty : T150.pty = .agg [.opq, .opq, .opq, .str] := rfl
/-- runtime.TypeAssertionError -/
noncomputable def T151 : TI := ⟨true, [.opq, .opq, .opq, .str], 0, [(0, 17), (1, 17), (2, 17), (3, 9)], 40, .struct (match Tryd.t150.desc with | .struct fs => fs | _ => #[])⟩
theorem T151_ok : TIok Tryd.prog 151 T151 := tiok_mk (i := Tryd.t151) Tryd.underlying151 Tryd.type151 rfl rfl rfl rfl rfl rfl (by kernel_rfl) (by decide) (by decide) (by decide) rfl
theorem T151_sz : T151.sz = 4 := rfl
theorem T151_pty : T151.pty = .agg [.opq, .opq, .opq, .str] := rfl
/-- abi.TFlag -/
noncomputable def T155 : TI := ⟨false, [.int .u8], 0, [], 1, .int .u8⟩
theorem T155_ok : TIok Tryd.prog 155 T155 := tiok_mk (i := Tryd.t155) Tryd.underlying155 Tryd.type155 rfl rfl rfl rfl rfl rfl (by kernel_rfl) (by decide) (by decide) (by decide) rfl
theorem T155_sz : T155.sz = 1 := rfl
theorem T155_pty : T155.pty = .int .u8 := rfl
/-- abi.Kind -/
noncomputable def T156 : TI := ⟨false, [.int .u8], 0, [], 1, .int .u8⟩
theorem T156_ok : TIok Tryd.prog 156 T156 := tiok_mk (i := Tryd.t156) Tryd.underlying156 Tryd.type156 rfl rfl rfl rfl rfl rfl (by kernel_rfl) (by decide) (by decide) (by decide) rfl
theorem T156_sz : T156.sz = 1 := rfl
theorem T156_pty : T156.pty = .int .u8 := rfl
/-- abi.NameOff -/
noncomputable def T158 : TI := ⟨false, [.int .i32], 0, [], 4, .int .i32⟩
theorem T158_ok : TIok Tryd.prog 158 T158 := tiok_mk (i := Tryd.t158) Tryd.underlying158 Tryd.type158 rfl rfl rfl rfl rfl rfl (by kernel_rfl) (by decide) (by decide) (by decide) rfl
theorem T158_sz : T158.sz = 1 := rfl
theorem T158_pty : T158.pty = .int .i32 := rfl
/-- abi.TypeOff -/
noncomputable def T159 : TI := ⟨false, [.int .i32], 0, [], 4, .int .i32⟩
theorem T159_ok : TIok Tryd.prog 159 T159 := tiok_mk (i := Tryd.t159) Tryd.underlying159 Tryd.type159 rfl rfl rfl rfl rfl rfl (by kernel_rfl) (by decide) (by decide) (by decide) rfl
theorem T159_sz : T159.sz = 1 := rfl
theorem T159_pty : T159.pty = .int .i32 := rfl
noncomputable def tyTab : List (Nat × TI) := [(2, T2), (3, T3), (4, T4), (5, T5), (6, T6), (7, T7), (8, T8), (9, T9), (10, T10), (11, T11), (12, T12), (13, T13), (14, T14), (15, T15), (16, T16), (17, T17), (18, T18), (19, T19), (21, T21), (22, T22), (23, T23), (24, T24), (28, T28), (38, T38), (39, T39), (45, T45), (46, T46), (68, T68), (77, T77), (83, T83), (90, T90), (91, T91), (95, T95), (96, T96), (100, T100), (105, T105), (108, T108), (112, T112), (122, T122), (124, T124), (125, T125), (139, T139), (143, T143), (144, T144), (145, T145), (148, T148), (149, T149), (150, T150), (151, T151), (155, T155), (156, T156), (158, T158), (159, T159)]
theorem ty2 : lk tyTab 2 = some T2 := rfl
theorem ty3 : lk tyTab 3 = some T3 := rfl
theorem ty4 : lk tyTab 4 = some T4 := rfl
theorem ty5 : lk tyTab 5 = some T5 := rfl
theorem ty6 : lk tyTab 6 = some T6 := rfl
theorem ty7 : lk tyTab 7 = some T7 := rfl
theorem ty8 : lk tyTab 8 = some T8 := rfl
theorem ty9 : lk tyTab 9 = some T9 := rfl
theorem ty10 : lk tyTab 10 = some T10 := rfl
theorem ty11 : lk tyTab 11 = some T11 := rfl
theorem ty12 : lk tyTab 12 = some T12 := rfl
theorem ty13 : lk tyTab 13 = some T13 := rfl
theorem ty14 : lk tyTab 14 = some T14 := rfl
theorem ty15 : lk tyTab 15 = some T15 := rfl
theorem ty16 : lk tyTab 16 = some T16 := rfl
theorem ty17 : lk tyTab 17 = some T17 := rfl
theorem ty18 : lk tyTab 18 = some T18 := rfl
theorem ty19 : lk tyTab 19 = some T19 := rfl
theorem ty21 : lk tyTab 21 = some T21 := rfl
theorem ty22 : lk tyTab 22 = some T22 := rfl
theorem ty23 : lk tyTab 23 = some T23 := rfl
theorem ty24 : lk tyTab 24 = some T24 := rfl
theorem ty28 : lk tyTab 28 = some T28 := rfl
theorem ty38 : lk tyTab 38 = some T38 := rfl
theorem ty39 : lk tyTab 39 = some T39 := rfl
theorem ty45 : lk tyTab 45 = some T45 := rfl
theorem ty46 : lk tyTab 46 = some T46 := rfl
theorem ty68 : lk tyTab 68 = some T68 := rfl
theorem ty77 : lk tyTab 77 = some T77 := rfl
theorem ty83 : lk tyTab 83 = some T83 := rfl
theorem ty90 : lk tyTab 90 = some T90 := rfl
theorem ty91 : lk tyTab 91 = some T91 := rfl
theorem ty95 : lk tyTab 95 = some T95 := rfl
theorem ty96 : lk tyTab 96 = some T96 := rfl
theorem ty100 : lk tyTab 100 = some T100 := rfl
theorem ty105 : lk tyTab 105 = some T105 := rfl
theorem ty108 : lk tyTab 108 = some T108 := rfl
theorem ty112 : lk tyTab 112 = some T112 := rfl
theorem ty122 : lk tyTab 122 = some T122 := rfl
theorem ty124 : lk tyTab 124 = some T124 := rfl
theorem ty125 : lk tyTab 125 = some T125 := rfl
theorem ty139 : lk tyTab 139 = some T139 := rfl
theorem ty143 : lk tyTab 143 = some T143 := rfl
theorem ty144 : lk tyTab 144 = some T144 := rfl
theorem ty145 : lk tyTab 145 = some T145 := rfl
theorem ty148 : lk tyTab 148 = some T148 := rfl
theorem ty149 : lk tyTab 149 = some T149 := rfl
theorem ty150 : lk tyTab 150 = some T150 := rfl
theorem ty151 : lk tyTab 151 = some T151 := rfl
theorem ty155 : lk tyTab 155 = some T155 := rfl
theorem ty156 : lk tyTab 156 = some T156 := rfl
theorem ty158 : lk tyTab 158 = some T158 := rfl
theorem ty159 : lk tyTab 159 = some T159 := rfl
theorem tyTab_ok (fns : List ((Nat × List Nat) × FSpec)) : EnvTy Tryd.prog ⟨tyTab, fns⟩ := by
  have key : ∀ l : List (Nat × TI), (∀ p ∈ l, TIok Tryd.prog p.1 p.2) → ∀ t ti, lk l t = some ti → TIok Tryd.prog t ti := by
    intro l
    induction l with
    | nil => intro _ t ti h; cases h
    | cons p l ih =>
      intro hl t ti h
      obtain ⟨i, x⟩ := p
      simp only [lk] at h
      split at h
      · rename_i e; subst e; cases h; exact hl (i, ti) (by simp)
      · exact ih (fun p hp => hl p (by simp [hp])) t ti h
  refine key tyTab ?_
  simp only [tyTab, List.mem_cons, List.not_mem_nil, or_false, forall_eq_or_imp, forall_eq]
  exact ⟨T2_ok, T3_ok, T4_ok, T5_ok, T6_ok, T7_ok, T8_ok, T9_ok, T10_ok, T11_ok, T12_ok, T13_ok, T14_ok, T15_ok, T16_ok, T17_ok, T18_ok, T19_ok, T21_ok, T22_ok, T23_ok, T24_ok, T28_ok, T38_ok, T39_ok, T45_ok, T46_ok, T68_ok, T77_ok, T83_ok, T90_ok, T91_ok, T95_ok, T96_ok, T100_ok, T105_ok, T108_ok, T112_ok, T122_ok, T124_ok, T125_ok, T139_ok, T143_ok, T144_ok, T145_ok, T148_ok, T149_ok, T150_ok, T151_ok, T155_ok, T156_ok, T158_ok, T159_ok⟩
theorem mixed : Tryd.prog.follows .mixedOrders = true := by kernel_rfl

end Go.Proofs.YtdbkjmigdabifaaDoor
