/-
  The table of the data types.
  Conditions: none.
-/
import Derived.Test.YtmjjdfhpnckacabAux
import Derived.Test.YtmjjdfhpnckacabChecked
namespace Go.Proofs.Ytmjjdfhpnckacab
set_option maxRecDepth 100000

/-- int64 -/
noncomputable def T2 : TI := ⟨false, [.int .i64], 0, [], 8, .int .i64⟩
theorem T2_ok : TIok Try.prog 2 T2 := tiok_mk (i := Try.t2) Try.underlying2 Try.type2 rfl rfl rfl rfl rfl rfl (by kernel_rfl) (by decide) (by decide) (by decide) rfl
theorem T2_sz : T2.sz = 1 := rfl
theorem T2_pty : T2.pty = .int .i64 := rfl
/-- int -/
noncomputable def T3 : TI := ⟨false, [.int .i64], 0, [], 8, .int .i64⟩
theorem T3_ok : TIok Try.prog 3 T3 := tiok_mk (i := Try.t3) Try.underlying3 Try.type3 rfl rfl rfl rfl rfl rfl (by kernel_rfl) (by decide) (by decide) (by decide) rfl
theorem T3_sz : T3.sz = 1 := rfl
theorem T3_pty : T3.pty = .int .i64 := rfl
/-- bool -/
noncomputable def T4 : TI := ⟨false, [.bool], 0, [], 1, .bool⟩
theorem T4_ok : TIok Try.prog 4 T4 := tiok_mk (i := Try.t4) Try.underlying4 Try.type4 rfl rfl rfl rfl rfl rfl (by kernel_rfl) (by decide) (by decide) (by decide) rfl
theorem T4_sz : T4.sz = 1 := rfl
theorem T4_pty : T4.pty = .bool := rfl
/-- uint8 -/
noncomputable def T5 : TI := ⟨false, [.int .u8], 0, [], 1, .int .u8⟩
theorem T5_ok : TIok Try.prog 5 T5 := tiok_mk (i := Try.t5) Try.underlying5 Try.type5 rfl rfl rfl rfl rfl rfl (by kernel_rfl) (by decide) (by decide) (by decide) rfl
theorem T5_sz : T5.sz = 1 := rfl
theorem T5_pty : T5.pty = .int .u8 := rfl
/-- abi.BoundsErrorCode -/
noncomputable def T6 : TI := ⟨false, [.int .u8], 0, [], 1, .int .u8⟩
theorem T6_ok : TIok Try.prog 6 T6 := tiok_mk (i := Try.t6) Try.underlying6 Try.type6 rfl rfl rfl rfl rfl rfl (by kernel_rfl) (by decide) (by decide) (by decide) rfl
theorem T6_sz : T6.sz = 1 := rfl
theorem T6_pty : T6.pty = .int .u8 := rfl
/-- a struct -/
noncomputable def T7 : TI := ⟨true, [.int .i64, .int .i64, .bool, .int .u8], 0, [(0, 2), (1, 3), (2, 4), (3, 6)], 24, .struct (match Try.t7.desc with | .struct fs => fs | _ => #[])⟩
theorem T7_ok : TIok Try.prog 7 T7 := tiok_mk (i := Try.t7) Try.underlying7 Try.type7 rfl rfl rfl rfl rfl rfl (by kernel_rfl) (by decide) (by decide) (by decide) rfl
theorem T7_sz : T7.sz = 4 := rfl
theorem T7_pty : T7.pty = .agg [.int .i64, .int .i64, .bool, .int .u8] := rfl
/-- runtime.boundsError -/
noncomputable def T8 : TI := ⟨true, [.int .i64, .int .i64, .bool, .int .u8], 0, [(0, 2), (1, 3), (2, 4), (3, 6)], 24, .struct (match Try.t7.desc with | .struct fs => fs | _ => #[])⟩
theorem T8_ok : TIok Try.prog 8 T8 := tiok_mk (i := Try.t8) Try.underlying8 Try.type8 rfl rfl rfl rfl rfl rfl (by kernel_rfl) (by decide) (by decide) (by decide) rfl
theorem T8_sz : T8.sz = 4 := rfl
theorem T8_pty : T8.pty = .agg [.int .i64, .int .i64, .bool, .int .u8] := rfl
/-- string -/
noncomputable def T9 : TI := ⟨false, [.str], 0, [], 16, .string⟩
theorem T9_ok : TIok Try.prog 9 T9 := tiok_mk (i := Try.t9) Try.underlying9 Try.type9 rfl rfl rfl rfl rfl rfl (by kernel_rfl) (by decide) (by decide) (by decide) rfl
theorem T9_sz : T9.sz = 1 := rfl
theorem T9_pty : T9.pty = .str := rfl
/-- runtime.errorString -/
noncomputable def T10 : TI := ⟨false, [.str], 0, [], 16, .string⟩
theorem T10_ok : TIok Try.prog 10 T10 := tiok_mk (i := Try.t10) Try.underlying10 Try.type10 rfl rfl rfl rfl rfl rfl (by kernel_rfl) (by decide) (by decide) (by decide) rfl
theorem T10_sz : T10.sz = 1 := rfl
theorem T10_pty : T10.pty = .str := rfl
/-- runtime.plainError -/
noncomputable def T11 : TI := ⟨false, [.str], 0, [], 16, .string⟩
theorem T11_ok : TIok Try.prog 11 T11 := tiok_mk (i := Try.t11) Try.underlying11 Try.type11 rfl rfl rfl rfl rfl rfl (by kernel_rfl) (by decide) (by decide) (by decide) rfl
theorem T11_sz : T11.sz = 1 := rfl
theorem T11_pty : T11.pty = .str := rfl
/-- uintptr -/
noncomputable def T12 : TI := ⟨false, [.int .u64], 0, [], 8, .int .u64⟩
theorem T12_ok : TIok Try.prog 12 T12 := tiok_mk (i := Try.t12) Try.underlying12 Try.type12 rfl rfl rfl rfl rfl rfl (by kernel_rfl) (by decide) (by decide) (by decide) rfl
theorem T12_sz : T12.sz = 1 := rfl
theorem T12_pty : T12.pty = .int .u64 := rfl
/-- a struct -/
noncomputable def T13 : TI := ⟨true, [.str, .int .u64], 0, [(0, 9), (1, 12)], 24, .struct (match Try.t13.desc with | .struct fs => fs | _ => #[])⟩
theorem T13_ok : TIok Try.prog 13 T13 := tiok_mk (i := Try.t13) Try.underlying13 Try.type13 rfl rfl rfl rfl rfl rfl (by kernel_rfl) (by decide) (by decide) (by decide) rfl
theorem T13_sz : T13.sz = 2 := rfl
theorem T13_pty : T13.pty = .agg [.str, .int .u64] := rfl
/-- runtime.errorAddressString -/
noncomputable def T14 : TI := ⟨true, [.str, .int .u64], 0, [(0, 9), (1, 12)], 24, .struct (match Try.t13.desc with | .struct fs => fs | _ => #[])⟩
theorem T14_ok : TIok Try.prog 14 T14 := tiok_mk (i := Try.t14) Try.underlying14 Try.type14 rfl rfl rfl rfl rfl rfl (by kernel_rfl) (by decide) (by decide) (by decide) rfl
theorem T14_sz : T14.sz = 2 := rfl
theorem T14_pty : T14.pty = .agg [.str, .int .u64] := rfl
/-- *runtime.TypeAssertionError -/
noncomputable def T15 : TI := ⟨false, [.opq], 0, [], 8, .pointer 226⟩
theorem T15_ok : TIok Try.prog 15 T15 := tiok_mk (i := Try.t15) Try.underlying15 Try.type15 rfl rfl rfl rfl rfl rfl (by kernel_rfl) (by decide) (by decide) (by decide) rfl
theorem T15_sz : T15.sz = 1 := rfl
theorem T15_pty : T15.pty = .opq := rfl
/-- *runtime.PanicNilError -/
noncomputable def T16 : TI := ⟨false, [.opq], 0, [], 8, .pointer 229⟩
theorem T16_ok : TIok Try.prog 16 T16 := tiok_mk (i := Try.t16) Try.underlying16 Try.type16 rfl rfl rfl rfl rfl rfl (by kernel_rfl) (by decide) (by decide) (by decide) rfl
theorem T16_sz : T16.sz = 1 := rfl
theorem T16_pty : T16.pty = .opq := rfl
/-- *abi.Type -/
noncomputable def T17 : TI := ⟨false, [.opq], 0, [], 8, .pointer 236⟩
theorem T17_ok : TIok Try.prog 17 T17 := tiok_mk (i := Try.t17) Try.underlying17 Try.type17 rfl rfl rfl rfl rfl rfl (by kernel_rfl) (by decide) (by decide) (by decide) rfl
theorem T17_sz : T17.sz = 1 := rfl
theorem T17_pty : T17.pty = .opq := rfl
/-- a struct -/
noncomputable def T18 : TI := ⟨true, [.opq], 0, [(0, 17)], 8, .struct (match Try.t18.desc with | .struct fs => fs | _ => #[])⟩
theorem T18_ok : TIok Try.prog 18 T18 := tiok_mk (i := Try.t18) Try.underlying18 Try.type18 rfl rfl rfl rfl rfl rfl (by kernel_rfl) (by decide) (by decide) (by decide) rfl
theorem T18_sz : T18.sz = 1 := rfl
theorem T18_pty : T18.pty = .agg [.opq] := rfl
/-- maps.unhashableTypeError -/
noncomputable def T19 : TI := ⟨true, [.opq], 0, [(0, 17)], 8, .struct (match Try.t18.desc with | .struct fs => fs | _ => #[])⟩
theorem T19_ok : TIok Try.prog 19 T19 := tiok_mk (i := Try.t19) Try.underlying19 Try.type19 rfl rfl rfl rfl rfl rfl (by kernel_rfl) (by decide) (by decide) (by decide) rfl
theorem T19_sz : T19.sz = 1 := rfl
theorem T19_pty : T19.pty = .agg [.opq] := rfl
/-- int32 -/
noncomputable def T21 : TI := ⟨false, [.int .i32], 0, [], 4, .int .i32⟩
theorem T21_ok : TIok Try.prog 21 T21 := tiok_mk (i := Try.t21) Try.underlying21 Try.type21 rfl rfl rfl rfl rfl rfl (by kernel_rfl) (by decide) (by decide) (by decide) rfl
theorem T21_sz : T21.sz = 1 := rfl
theorem T21_pty : T21.pty = .int .i32 := rfl
/-- []uint8 -/
noncomputable def T22 : TI := ⟨false, [.list (.int .u8)], 5, [], 24, .slice 5⟩
theorem T22_ok : TIok Try.prog 22 T22 := tiok_mk (i := Try.t22) Try.underlying22 Try.type22 rfl rfl rfl rfl rfl rfl (by kernel_rfl) (by decide) (by decide) (by decide) rfl
theorem T22_sz : T22.sz = 1 := rfl
theorem T22_pty : T22.pty = .list (.int .u8) := rfl
/-- []impl.Row -/
noncomputable def T23 : TI := ⟨false, [.list (.agg [.int .i64, .str])], 105, [], 24, .slice 105⟩
theorem T23_ok : TIok Try.prog 23 T23 := tiok_mk (i := Try.t23) Try.underlying23 Try.type23 rfl rfl rfl rfl rfl rfl (by kernel_rfl) (by decide) (by decide) (by decide) rfl
theorem T23_sz : T23.sz = 1 := rfl
theorem T23_pty : T23.pty = .list (.agg [.int .i64, .str]) := rfl
/-- a struct -/
noncomputable def T24 : TI := ⟨true, [.int .i64, .int .i64, .bool, .int .i64, .int .i64, .list (.agg [.int .i64, .str])], 0, [(0, 3), (1, 3), (2, 4), (3, 3), (4, 3), (5, 23)], 64, .struct (match Try.t24.desc with | .struct fs => fs | _ => #[])⟩
theorem T24_ok : TIok Try.prog 24 T24 := tiok_mk (i := Try.t24) Try.underlying24 Try.type24 rfl rfl rfl rfl rfl rfl (by kernel_rfl) (by decide) (by decide) (by decide) rfl
theorem T24_sz : T24.sz = 6 := rfl
theorem T24_pty : T24.pty = .agg [.int .i64, .int .i64, .bool, .int .i64, .int .i64, .list (.agg [.int .i64, .str])] := rfl
/-- impl.View -/
noncomputable def T25 : TI := ⟨true, [.int .i64, .int .i64, .bool, .int .i64, .int .i64, .list (.agg [.int .i64, .str])], 0, [(0, 3), (1, 3), (2, 4), (3, 3), (4, 3), (5, 23)], 64, .struct (match Try.t24.desc with | .struct fs => fs | _ => #[])⟩
theorem T25_ok : TIok Try.prog 25 T25 := tiok_mk (i := Try.t25) Try.underlying25 Try.type25 rfl rfl rfl rfl rfl rfl (by kernel_rfl) (by decide) (by decide) (by decide) rfl
theorem T25_sz : T25.sz = 6 := rfl
theorem T25_pty : T25.pty = .agg [.int .i64, .int .i64, .bool, .int .i64, .int .i64, .list (.agg [.int .i64, .str])] := rfl
/-- []laws.Entry -/
noncomputable def T34 : TI := ⟨false, [.list (.agg [.int .i64, .str])], 119, [], 24, .slice 119⟩
theorem T34_ok : TIok Try.prog 34 T34 := tiok_mk (i := Try.t34) Try.underlying34 Try.type34 rfl rfl rfl rfl rfl rfl (by kernel_rfl) (by decide) (by decide) (by decide) rfl
theorem T34_sz : T34.sz = 1 := rfl
theorem T34_pty : T34.pty = .list (.agg [.int .i64, .str]) := rfl
/-- []int -/
noncomputable def T35 : TI := ⟨false, [.list (.int .i64)], 3, [], 24, .slice 3⟩
theorem T35_ok : TIok Try.prog 35 T35 := tiok_mk (i := Try.t35) Try.underlying35 Try.type35 rfl rfl rfl rfl rfl rfl (by kernel_rfl) (by decide) (by decide) (by decide) rfl
theorem T35_sz : T35.sz = 1 := rfl
theorem T35_pty : T35.pty = .list (.int .i64) := rfl
/-- a struct -/
noncomputable def T36 : TI := ⟨true, [.int .i64, .int .i64, .int .i64, .int .i64, .int .i64, .bool, .list (.agg [.int .i64, .str]), .int .i64, .int .i64, .int .i64, .list (.int .i64), .list (.int .i64), .list (.int .i64)], 0, [(0, 3), (1, 3), (2, 3), (3, 3), (4, 3), (5, 4), (6, 34), (7, 3), (8, 3), (9, 3), (10, 35), (11, 35), (12, 35)], 168, .struct (match Try.t36.desc with | .struct fs => fs | _ => #[])⟩
theorem T36_ok : TIok Try.prog 36 T36 := tiok_mk (i := Try.t36) Try.underlying36 Try.type36 rfl rfl rfl rfl rfl rfl (by kernel_rfl) (by decide) (by decide) (by decide) rfl
theorem T36_sz : T36.sz = 13 := rfl
theorem T36_pty : T36.pty = .agg [.int .i64, .int .i64, .int .i64, .int .i64, .int .i64, .bool, .list (.agg [.int .i64, .str]), .int .i64, .int .i64, .int .i64, .list (.int .i64), .list (.int .i64), .list (.int .i64)] := rfl
/-- laws.Node -/
noncomputable def T37 : TI := ⟨true, [.int .i64, .int .i64, .int .i64, .int .i64, .int .i64, .bool, .list (.agg [.int .i64, .str]), .int .i64, .int .i64, .int .i64, .list (.int .i64), .list (.int .i64), .list (.int .i64)], 0, [(0, 3), (1, 3), (2, 3), (3, 3), (4, 3), (5, 4), (6, 34), (7, 3), (8, 3), (9, 3), (10, 35), (11, 35), (12, 35)], 168, .struct (match Try.t36.desc with | .struct fs => fs | _ => #[])⟩
theorem T37_ok : TIok Try.prog 37 T37 := tiok_mk (i := Try.t37) Try.underlying37 Try.type37 rfl rfl rfl rfl rfl rfl (by kernel_rfl) (by decide) (by decide) (by decide) rfl
theorem T37_sz : T37.sz = 13 := rfl
theorem T37_pty : T37.pty = .agg [.int .i64, .int .i64, .int .i64, .int .i64, .int .i64, .bool, .list (.agg [.int .i64, .str]), .int .i64, .int .i64, .int .i64, .list (.int .i64), .list (.int .i64), .list (.int .i64)] := rfl
/-- []impl.Entry -/
noncomputable def T39 : TI := ⟨false, [.list (.agg [.int .i64, .str])], 128, [], 24, .slice 128⟩
theorem T39_ok : TIok Try.prog 39 T39 := tiok_mk (i := Try.t39) Try.underlying39 Try.type39 rfl rfl rfl rfl rfl rfl (by kernel_rfl) (by decide) (by decide) (by decide) rfl
theorem T39_sz : T39.sz = 1 := rfl
theorem T39_pty : T39.pty = .list (.agg [.int .i64, .str]) := rfl
/-- a struct -/
noncomputable def T40 : TI := ⟨true, [.int .i64, .int .i64, .int .i64, .int .i64, .int .i64, .bool, .list (.agg [.int .i64, .str]), .int .i64, .int .i64, .int .i64, .list (.int .i64), .list (.int .i64), .list (.int .i64)], 0, [(0, 3), (1, 3), (2, 3), (3, 3), (4, 3), (5, 4), (6, 39), (7, 3), (8, 3), (9, 3), (10, 35), (11, 35), (12, 35)], 168, .struct (match Try.t40.desc with | .struct fs => fs | _ => #[])⟩
theorem T40_ok : TIok Try.prog 40 T40 := tiok_mk (i := Try.t40) Try.underlying40 Try.type40 rfl rfl rfl rfl rfl rfl (by kernel_rfl) (by decide) (by decide) (by decide) rfl
theorem T40_sz : T40.sz = 13 := rfl
theorem T40_pty : T40.pty = .agg [.int .i64, .int .i64, .int .i64, .int .i64, .int .i64, .bool, .list (.agg [.int .i64, .str]), .int .i64, .int .i64, .int .i64, .list (.int .i64), .list (.int .i64), .list (.int .i64)] := rfl
/-- impl.Node -/
noncomputable def T41 : TI := ⟨true, [.int .i64, .int .i64, .int .i64, .int .i64, .int .i64, .bool, .list (.agg [.int .i64, .str]), .int .i64, .int .i64, .int .i64, .list (.int .i64), .list (.int .i64), .list (.int .i64)], 0, [(0, 3), (1, 3), (2, 3), (3, 3), (4, 3), (5, 4), (6, 39), (7, 3), (8, 3), (9, 3), (10, 35), (11, 35), (12, 35)], 168, .struct (match Try.t40.desc with | .struct fs => fs | _ => #[])⟩
theorem T41_ok : TIok Try.prog 41 T41 := tiok_mk (i := Try.t41) Try.underlying41 Try.type41 rfl rfl rfl rfl rfl rfl (by kernel_rfl) (by decide) (by decide) (by decide) rfl
theorem T41_sz : T41.sz = 13 := rfl
theorem T41_pty : T41.pty = .agg [.int .i64, .int .i64, .int .i64, .int .i64, .int .i64, .bool, .list (.agg [.int .i64, .str]), .int .i64, .int .i64, .int .i64, .list (.int .i64), .list (.int .i64), .list (.int .i64)] := rfl
/-- []impl.Message -/
noncomputable def T42 : TI := ⟨false, [.list (.agg [.int .i64, .int .i64, .int .i64, .int .i64, .int .i64, .int .i64, .int .i64, .bool, .list (.agg [.int .i64, .str])])], 54, [], 24, .slice 54⟩
theorem T42_ok : TIok Try.prog 42 T42 := tiok_mk (i := Try.t42) Try.underlying42 Try.type42 rfl rfl rfl rfl rfl rfl (by kernel_rfl) (by decide) (by decide) (by decide) rfl
theorem T42_sz : T42.sz = 1 := rfl
theorem T42_pty : T42.pty = .list (.agg [.int .i64, .int .i64, .int .i64, .int .i64, .int .i64, .int .i64, .int .i64, .bool, .list (.agg [.int .i64, .str])]) := rfl
/-- a struct -/
noncomputable def T53 : TI := ⟨true, [.int .i64, .int .i64, .int .i64, .int .i64, .int .i64, .int .i64, .int .i64, .bool, .list (.agg [.int .i64, .str])], 0, [(0, 3), (1, 3), (2, 3), (3, 3), (4, 3), (5, 3), (6, 3), (7, 4), (8, 39)], 88, .struct (match Try.t53.desc with | .struct fs => fs | _ => #[])⟩
theorem T53_ok : TIok Try.prog 53 T53 := tiok_mk (i := Try.t53) Try.underlying53 Try.type53 rfl rfl rfl rfl rfl rfl (by kernel_rfl) (by decide) (by decide) (by decide) rfl
theorem T53_sz : T53.sz = 9 := rfl
theorem T53_pty : T53.pty = .agg [.int .i64, .int .i64, .int .i64, .int .i64, .int .i64, .int .i64, .int .i64, .bool, .list (.agg [.int .i64, .str])] := rfl
/-- impl.Message -/
noncomputable def T54 : TI := ⟨true, [.int .i64, .int .i64, .int .i64, .int .i64, .int .i64, .int .i64, .int .i64, .bool, .list (.agg [.int .i64, .str])], 0, [(0, 3), (1, 3), (2, 3), (3, 3), (4, 3), (5, 3), (6, 3), (7, 4), (8, 39)], 88, .struct (match Try.t53.desc with | .struct fs => fs | _ => #[])⟩
theorem T54_ok : TIok Try.prog 54 T54 := tiok_mk (i := Try.t54) Try.underlying54 Try.type54 rfl rfl rfl rfl rfl rfl (by kernel_rfl) (by decide) (by decide) (by decide) rfl
theorem T54_sz : T54.sz = 9 := rfl
theorem T54_pty : T54.pty = .agg [.int .i64, .int .i64, .int .i64, .int .i64, .int .i64, .int .i64, .int .i64, .bool, .list (.agg [.int .i64, .str])] := rfl
/-- []string -/
noncomputable def T59 : TI := ⟨false, [.list (.str)], 9, [], 24, .slice 9⟩
theorem T59_ok : TIok Try.prog 59 T59 := tiok_mk (i := Try.t59) Try.underlying59 Try.type59 rfl rfl rfl rfl rfl rfl (by kernel_rfl) (by decide) (by decide) (by decide) rfl
theorem T59_sz : T59.sz = 1 := rfl
theorem T59_pty : T59.pty = .list (.str) := rfl
/-- a struct -/
noncomputable def T69 : TI := ⟨true, [.int .i64, .int .i64, .int .i64, .int .i64, .int .i64, .int .i64, .int .i64, .bool, .list (.agg [.int .i64, .str])], 0, [(0, 3), (1, 3), (2, 3), (3, 3), (4, 3), (5, 3), (6, 3), (7, 4), (8, 34)], 88, .struct (match Try.t69.desc with | .struct fs => fs | _ => #[])⟩
theorem T69_ok : TIok Try.prog 69 T69 := tiok_mk (i := Try.t69) Try.underlying69 Try.type69 rfl rfl rfl rfl rfl rfl (by kernel_rfl) (by decide) (by decide) (by decide) rfl
theorem T69_sz : T69.sz = 9 := rfl
theorem T69_pty : T69.pty = .agg [.int .i64, .int .i64, .int .i64, .int .i64, .int .i64, .int .i64, .int .i64, .bool, .list (.agg [.int .i64, .str])] := rfl
/-- laws.Message -/
noncomputable def T70 : TI := ⟨true, [.int .i64, .int .i64, .int .i64, .int .i64, .int .i64, .int .i64, .int .i64, .bool, .list (.agg [.int .i64, .str])], 0, [(0, 3), (1, 3), (2, 3), (3, 3), (4, 3), (5, 3), (6, 3), (7, 4), (8, 34)], 88, .struct (match Try.t69.desc with | .struct fs => fs | _ => #[])⟩
theorem T70_ok : TIok Try.prog 70 T70 := tiok_mk (i := Try.t70) Try.underlying70 Try.type70 rfl rfl rfl rfl rfl rfl (by kernel_rfl) (by decide) (by decide) (by decide) rfl
theorem T70_sz : T70.sz = 9 := rfl
theorem T70_pty : T70.pty = .agg [.int .i64, .int .i64, .int .i64, .int .i64, .int .i64, .int .i64, .int .i64, .bool, .list (.agg [.int .i64, .str])] := rfl
/-- *spec.l00Src -/
noncomputable def T93 : TI := ⟨false, [.opq], 0, [], 8, .pointer 137⟩
theorem T93_ok : TIok Try.prog 93 T93 := tiok_mk (i := Try.t93) Try.underlying93 Try.type93 rfl rfl rfl rfl rfl rfl (by kernel_rfl) (by decide) (by decide) (by decide) rfl
theorem T93_sz : T93.sz = 1 := rfl
theorem T93_pty : T93.pty = .opq := rfl
/-- a struct -/
noncomputable def T104 : TI := ⟨true, [.int .i64, .str], 0, [(0, 3), (1, 9)], 24, .struct (match Try.t104.desc with | .struct fs => fs | _ => #[])⟩
theorem T104_ok : TIok Try.prog 104 T104 := tiok_mk (i := Try.t104) Try.underlying104 Try.type104 rfl rfl rfl rfl rfl rfl (by kernel_rfl) (by decide) (by decide) (by decide) rfl
theorem T104_sz : T104.sz = 2 := rfl
theorem T104_pty : T104.pty = .agg [.int .i64, .str] := rfl
/-- impl.Row -/
noncomputable def T105 : TI := ⟨true, [.int .i64, .str], 0, [(0, 3), (1, 9)], 24, .struct (match Try.t104.desc with | .struct fs => fs | _ => #[])⟩
theorem T105_ok : TIok Try.prog 105 T105 := tiok_mk (i := Try.t105) Try.underlying105 Try.type105 rfl rfl rfl rfl rfl rfl (by kernel_rfl) (by decide) (by decide) (by decide) rfl
theorem T105_sz : T105.sz = 2 := rfl
theorem T105_pty : T105.pty = .agg [.int .i64, .str] := rfl
/-- a struct -/
noncomputable def T118 : TI := ⟨true, [.int .i64, .str], 0, [(0, 3), (1, 9)], 24, .struct (match Try.t118.desc with | .struct fs => fs | _ => #[])⟩
theorem T118_ok : TIok Try.prog 118 T118 := tiok_mk (i := Try.t118) Try.underlying118 Try.type118 rfl rfl rfl rfl rfl rfl (by kernel_rfl) (by decide) (by decide) (by decide) rfl
theorem T118_sz : T118.sz = 2 := rfl
theorem T118_pty : T118.pty = .agg [.int .i64, .str] := rfl
/-- laws.Entry -/
noncomputable def T119 : TI := ⟨true, [.int .i64, .str], 0, [(0, 3), (1, 9)], 24, .struct (match Try.t118.desc with | .struct fs => fs | _ => #[])⟩
theorem T119_ok : TIok Try.prog 119 T119 := tiok_mk (i := Try.t119) Try.underlying119 Try.type119 rfl rfl rfl rfl rfl rfl (by kernel_rfl) (by decide) (by decide) (by decide) rfl
theorem T119_sz : T119.sz = 2 := rfl
theorem T119_pty : T119.pty = .agg [.int .i64, .str] := rfl
/-- a struct -/
noncomputable def T121 : TI := ⟨true, [.int .i64, .int .i64, .list (.agg [.int .i64, .str])], 0, [(0, 3), (1, 3), (2, 39)], 40, .struct (match Try.t121.desc with | .struct fs => fs | _ => #[])⟩
theorem T121_ok : TIok Try.prog 121 T121 := tiok_mk (i := Try.t121) Try.underlying121 Try.type121 rfl rfl rfl rfl rfl rfl (by kernel_rfl) (by decide) (by decide) (by decide) rfl
theorem T121_sz : T121.sz = 3 := rfl
theorem T121_pty : T121.pty = .agg [.int .i64, .int .i64, .list (.agg [.int .i64, .str])] := rfl
/-- impl.State -/
noncomputable def T122 : TI := ⟨true, [.int .i64, .int .i64, .list (.agg [.int .i64, .str])], 0, [(0, 3), (1, 3), (2, 39)], 40, .struct (match Try.t121.desc with | .struct fs => fs | _ => #[])⟩
theorem T122_ok : TIok Try.prog 122 T122 := tiok_mk (i := Try.t122) Try.underlying122 Try.type122 rfl rfl rfl rfl rfl rfl (by kernel_rfl) (by decide) (by decide) (by decide) rfl
theorem T122_sz : T122.sz = 3 := rfl
theorem T122_pty : T122.pty = .agg [.int .i64, .int .i64, .list (.agg [.int .i64, .str])] := rfl
/-- *spec.l08Run -/
noncomputable def T124 : TI := ⟨false, [.opq], 0, [], 8, .pointer 126⟩
theorem T124_ok : TIok Try.prog 124 T124 := tiok_mk (i := Try.t124) Try.underlying124 Try.type124 rfl rfl rfl rfl rfl rfl (by kernel_rfl) (by decide) (by decide) (by decide) rfl
theorem T124_sz : T124.sz = 1 := rfl
theorem T124_pty : T124.pty = .opq := rfl
/-- a struct -/
noncomputable def T125 : TI := ⟨true, [.int .i64, .int .i64, .int .i64, .int .i64, .int .i64, .bool, .list (.agg [.int .i64, .str]), .int .i64, .int .i64, .int .i64, .list (.int .i64), .list (.int .i64), .list (.int .i64), .list (.agg [.int .i64, .int .i64, .int .i64, .int .i64, .int .i64, .int .i64, .int .i64, .bool, .list (.agg [.int .i64, .str])])], 0, [(0, 41), (13, 42)], 192, .struct (match Try.t125.desc with | .struct fs => fs | _ => #[])⟩
theorem T125_ok : TIok Try.prog 125 T125 := tiok_mk (i := Try.t125) Try.underlying125 Try.type125 rfl rfl rfl rfl rfl rfl (by kernel_rfl) (by decide) (by decide) (by decide) rfl
theorem T125_sz : T125.sz = 14 := rfl
theorem T125_pty : T125.pty = .agg [.int .i64, .int .i64, .int .i64, .int .i64, .int .i64, .bool, .list (.agg [.int .i64, .str]), .int .i64, .int .i64, .int .i64, .list (.int .i64), .list (.int .i64), .list (.int .i64), .list (.agg [.int .i64, .int .i64, .int .i64, .int .i64, .int .i64, .int .i64, .int .i64, .bool, .list (.agg [.int .i64, .str])])] := rfl
/-- spec.l08Run -/
noncomputable def T126 : TI := ⟨true, [.int .i64, .int .i64, .int .i64, .int .i64, .int .i64, .bool, .list (.agg [.int .i64, .str]), .int .i64, .int .i64, .int .i64, .list (.int .i64), .list (.int .i64), .list (.int .i64), .list (.agg [.int .i64, .int .i64, .int .i64, .int .i64, .int .i64, .int .i64, .int .i64, .bool, .list (.agg [.int .i64, .str])])], 0, [(0, 41), (13, 42)], 192, .struct (match Try.t125.desc with | .struct fs => fs | _ => #[])⟩
theorem T126_ok : TIok Try.prog 126 T126 := tiok_mk (i := Try.t126) Try.underlying126 Try.type126 rfl rfl rfl rfl rfl rfl (by kernel_rfl) (by decide) (by decide) (by decide) rfl
theorem T126_sz : T126.sz = 14 := rfl
theorem T126_pty : T126.pty = .agg [.int .i64, .int .i64, .int .i64, .int .i64, .int .i64, .bool, .list (.agg [.int .i64, .str]), .int .i64, .int .i64, .int .i64, .list (.int .i64), .list (.int .i64), .list (.int .i64), .list (.agg [.int .i64, .int .i64, .int .i64, .int .i64, .int .i64, .int .i64, .int .i64, .bool, .list (.agg [.int .i64, .str])])] := rfl
/-- impl.Entry -/
noncomputable def T128 : TI := ⟨true, [.int .i64, .str], 0, [(0, 3), (1, 9)], 24, .struct (match Try.t118.desc with | .struct fs => fs | _ => #[])⟩
theorem T128_ok : TIok Try.prog 128 T128 := tiok_mk (i := Try.t128) Try.underlying128 Try.type128 rfl rfl rfl rfl rfl rfl (by kernel_rfl) (by decide) (by decide) (by decide) rfl
theorem T128_sz : T128.sz = 2 := rfl
theorem T128_pty : T128.pty = .agg [.int .i64, .str] := rfl
/-- *impl.Node -/
noncomputable def T131 : TI := ⟨false, [.opq], 0, [], 8, .pointer 41⟩
theorem T131_ok : TIok Try.prog 131 T131 := tiok_mk (i := Try.t131) Try.underlying131 Try.type131 rfl rfl rfl rfl rfl rfl (by kernel_rfl) (by decide) (by decide) (by decide) rfl
theorem T131_sz : T131.sz = 1 := rfl
theorem T131_pty : T131.pty = .opq := rfl
/-- a struct -/
noncomputable def T136 : TI := ⟨true, [.list (.int .u8), .int .i64, .int .i64], 0, [(0, 22), (1, 3), (2, 3)], 40, .struct (match Try.t136.desc with | .struct fs => fs | _ => #[])⟩
theorem T136_ok : TIok Try.prog 136 T136 := tiok_mk (i := Try.t136) Try.underlying136 Try.type136 rfl rfl rfl rfl rfl rfl (by kernel_rfl) (by decide) (by decide) (by decide) rfl
theorem T136_sz : T136.sz = 3 := rfl
theorem T136_pty : T136.pty = .agg [.list (.int .u8), .int .i64, .int .i64] := rfl
/-- spec.l00Src -/
noncomputable def T137 : TI := ⟨true, [.list (.int .u8), .int .i64, .int .i64], 0, [(0, 22), (1, 3), (2, 3)], 40, .struct (match Try.t136.desc with | .struct fs => fs | _ => #[])⟩
theorem T137_ok : TIok Try.prog 137 T137 := tiok_mk (i := Try.t137) Try.underlying137 Try.type137 rfl rfl rfl rfl rfl rfl (by kernel_rfl) (by decide) (by decide) (by decide) rfl
theorem T137_sz : T137.sz = 3 := rfl
theorem T137_pty : T137.pty = .agg [.list (.int .u8), .int .i64, .int .i64] := rfl
/-- []impl.Cell -/
noncomputable def T150 : TI := ⟨false, [.list (.agg [.int .i64, .int .i64])], 178, [], 24, .slice 178⟩
theorem T150_ok : TIok Try.prog 150 T150 := tiok_mk (i := Try.t150) Try.underlying150 Try.type150 rfl rfl rfl rfl rfl rfl (by kernel_rfl) (by decide) (by decide) (by decide) rfl
theorem T150_sz : T150.sz = 1 := rfl
theorem T150_pty : T150.pty = .list (.agg [.int .i64, .int .i64]) := rfl
/-- a struct -/
noncomputable def T151 : TI := ⟨true, [.int .i64, .int .i64, .int .i64, .int .i64, .int .i64, .int .i64, .int .i64, .int .i64, .int .i64, .str, .list (.agg [.int .i64, .int .i64]), .list (.str)], 0, [(0, 3), (1, 3), (2, 3), (3, 3), (4, 3), (5, 3), (6, 3), (7, 3), (8, 3), (9, 9), (10, 150), (11, 59)], 136, .struct (match Try.t151.desc with | .struct fs => fs | _ => #[])⟩
theorem T151_ok : TIok Try.prog 151 T151 := tiok_mk (i := Try.t151) Try.underlying151 Try.type151 rfl rfl rfl rfl rfl rfl (by kernel_rfl) (by decide) (by decide) (by decide) rfl
theorem T151_sz : T151.sz = 12 := rfl
theorem T151_pty : T151.pty = .agg [.int .i64, .int .i64, .int .i64, .int .i64, .int .i64, .int .i64, .int .i64, .int .i64, .int .i64, .str, .list (.agg [.int .i64, .int .i64]), .list (.str)] := rfl
/-- impl.Screen -/
noncomputable def T152 : TI := ⟨true, [.int .i64, .int .i64, .int .i64, .int .i64, .int .i64, .int .i64, .int .i64, .int .i64, .int .i64, .str, .list (.agg [.int .i64, .int .i64]), .list (.str)], 0, [(0, 3), (1, 3), (2, 3), (3, 3), (4, 3), (5, 3), (6, 3), (7, 3), (8, 3), (9, 9), (10, 150), (11, 59)], 136, .struct (match Try.t151.desc with | .struct fs => fs | _ => #[])⟩
theorem T152_ok : TIok Try.prog 152 T152 := tiok_mk (i := Try.t152) Try.underlying152 Try.type152 rfl rfl rfl rfl rfl rfl (by kernel_rfl) (by decide) (by decide) (by decide) rfl
theorem T152_sz : T152.sz = 12 := rfl
theorem T152_pty : T152.pty = .agg [.int .i64, .int .i64, .int .i64, .int .i64, .int .i64, .int .i64, .int .i64, .int .i64, .int .i64, .str, .list (.agg [.int .i64, .int .i64]), .list (.str)] := rfl
/-- a struct -/
noncomputable def T154 : TI := ⟨true, [.int .i64, .list (.int .i64), .bool, .str, .str], 0, [(0, 3), (1, 35), (2, 4), (3, 9), (4, 9)], 72, .struct (match Try.t154.desc with | .struct fs => fs | _ => #[])⟩
theorem T154_ok : TIok Try.prog 154 T154 := tiok_mk (i := Try.t154) Try.underlying154 Try.type154 rfl rfl rfl rfl rfl rfl (by kernel_rfl) (by decide) (by decide) (by decide) rfl
theorem T154_sz : T154.sz = 5 := rfl
theorem T154_pty : T154.pty = .agg [.int .i64, .list (.int .i64), .bool, .str, .str] := rfl
/-- impl.Parser -/
noncomputable def T155 : TI := ⟨true, [.int .i64, .list (.int .i64), .bool, .str, .str], 0, [(0, 3), (1, 35), (2, 4), (3, 9), (4, 9)], 72, .struct (match Try.t154.desc with | .struct fs => fs | _ => #[])⟩
theorem T155_ok : TIok Try.prog 155 T155 := tiok_mk (i := Try.t155) Try.underlying155 Try.type155 rfl rfl rfl rfl rfl rfl (by kernel_rfl) (by decide) (by decide) (by decide) rfl
theorem T155_sz : T155.sz = 5 := rfl
theorem T155_pty : T155.pty = .agg [.int .i64, .list (.int .i64), .bool, .str, .str] := rfl
/-- uint -/
noncomputable def T174 : TI := ⟨false, [.int .u64], 0, [], 8, .int .u64⟩
theorem T174_ok : TIok Try.prog 174 T174 := tiok_mk (i := Try.t174) Try.underlying174 Try.type174 rfl rfl rfl rfl rfl rfl (by kernel_rfl) (by decide) (by decide) (by decide) rfl
theorem T174_sz : T174.sz = 1 := rfl
theorem T174_pty : T174.pty = .int .u64 := rfl
/-- a struct -/
noncomputable def T177 : TI := ⟨true, [.int .i64, .int .i64], 0, [(0, 3), (1, 3)], 16, .struct (match Try.t177.desc with | .struct fs => fs | _ => #[])⟩
theorem T177_ok : TIok Try.prog 177 T177 := tiok_mk (i := Try.t177) Try.underlying177 Try.type177 rfl rfl rfl rfl rfl rfl (by kernel_rfl) (by decide) (by decide) (by decide) rfl
theorem T177_sz : T177.sz = 2 := rfl
theorem T177_pty : T177.pty = .agg [.int .i64, .int .i64] := rfl
/-- impl.Cell -/
noncomputable def T178 : TI := ⟨true, [.int .i64, .int .i64], 0, [(0, 3), (1, 3)], 16, .struct (match Try.t177.desc with | .struct fs => fs | _ => #[])⟩
theorem T178_ok : TIok Try.prog 178 T178 := tiok_mk (i := Try.t178) Try.underlying178 Try.type178 rfl rfl rfl rfl rfl rfl (by kernel_rfl) (by decide) (by decide) (by decide) rfl
theorem T178_sz : T178.sz = 2 := rfl
theorem T178_pty : T178.pty = .agg [.int .i64, .int .i64] := rfl
/-- []impl.Action -/
noncomputable def T180 : TI := ⟨false, [.list (.agg [.int .i64, .int .i64, .bool, .list (.int .i64), .str])], 189, [], 24, .slice 189⟩
theorem T180_ok : TIok Try.prog 180 T180 := tiok_mk (i := Try.t180) Try.underlying180 Try.type180 rfl rfl rfl rfl rfl rfl (by kernel_rfl) (by decide) (by decide) (by decide) rfl
theorem T180_sz : T180.sz = 1 := rfl
theorem T180_pty : T180.pty = .list (.agg [.int .i64, .int .i64, .bool, .list (.int .i64), .str]) := rfl
/-- *spec.l04Run -/
noncomputable def T183 : TI := ⟨false, [.opq], 0, [], 8, .pointer 186⟩
theorem T183_ok : TIok Try.prog 183 T183 := tiok_mk (i := Try.t183) Try.underlying183 Try.type183 rfl rfl rfl rfl rfl rfl (by kernel_rfl) (by decide) (by decide) (by decide) rfl
theorem T183_sz : T183.sz = 1 := rfl
theorem T183_pty : T183.pty = .opq := rfl
/-- a struct -/
noncomputable def T185 : TI := ⟨true, [.int .i64, .int .i64, .int .i64, .int .i64, .int .i64, .int .i64, .int .i64, .int .i64, .int .i64, .str, .list (.agg [.int .i64, .int .i64]), .list (.str)], 0, [(0, 152)], 136, .struct (match Try.t185.desc with | .struct fs => fs | _ => #[])⟩
theorem T185_ok : TIok Try.prog 185 T185 := tiok_mk (i := Try.t185) Try.underlying185 Try.type185 rfl rfl rfl rfl rfl rfl (by kernel_rfl) (by decide) (by decide) (by decide) rfl
theorem T185_sz : T185.sz = 12 := rfl
theorem T185_pty : T185.pty = .agg [.int .i64, .int .i64, .int .i64, .int .i64, .int .i64, .int .i64, .int .i64, .int .i64, .int .i64, .str, .list (.agg [.int .i64, .int .i64]), .list (.str)] := rfl
/-- spec.l04Run -/
noncomputable def T186 : TI := ⟨true, [.int .i64, .int .i64, .int .i64, .int .i64, .int .i64, .int .i64, .int .i64, .int .i64, .int .i64, .str, .list (.agg [.int .i64, .int .i64]), .list (.str)], 0, [(0, 152)], 136, .struct (match Try.t185.desc with | .struct fs => fs | _ => #[])⟩
theorem T186_ok : TIok Try.prog 186 T186 := tiok_mk (i := Try.t186) Try.underlying186 Try.type186 rfl rfl rfl rfl rfl rfl (by kernel_rfl) (by decide) (by decide) (by decide) rfl
theorem T186_sz : T186.sz = 12 := rfl
theorem T186_pty : T186.pty = .agg [.int .i64, .int .i64, .int .i64, .int .i64, .int .i64, .int .i64, .int .i64, .int .i64, .int .i64, .str, .list (.agg [.int .i64, .int .i64]), .list (.str)] := rfl
/-- a struct -/
noncomputable def T188 : TI := ⟨true, [.int .i64, .int .i64, .bool, .list (.int .i64), .str], 0, [(0, 3), (1, 3), (2, 4), (3, 35), (4, 9)], 64, .struct (match Try.t188.desc with | .struct fs => fs | _ => #[])⟩
theorem T188_ok : TIok Try.prog 188 T188 := tiok_mk (i := Try.t188) Try.underlying188 Try.type188 rfl rfl rfl rfl rfl rfl (by kernel_rfl) (by decide) (by decide) (by decide) rfl
theorem T188_sz : T188.sz = 5 := rfl
theorem T188_pty : T188.pty = .agg [.int .i64, .int .i64, .bool, .list (.int .i64), .str] := rfl
/-- impl.Action -/
noncomputable def T189 : TI := ⟨true, [.int .i64, .int .i64, .bool, .list (.int .i64), .str], 0, [(0, 3), (1, 3), (2, 4), (3, 35), (4, 9)], 64, .struct (match Try.t188.desc with | .struct fs => fs | _ => #[])⟩
theorem T189_ok : TIok Try.prog 189 T189 := tiok_mk (i := Try.t189) Try.underlying189 Try.type189 rfl rfl rfl rfl rfl rfl (by kernel_rfl) (by decide) (by decide) (by decide) rfl
theorem T189_sz : T189.sz = 5 := rfl
theorem T189_pty : T189.pty = .agg [.int .i64, .int .i64, .bool, .list (.int .i64), .str] := rfl
/-- *spec.l03Run -/
noncomputable def T201 : TI := ⟨false, [.opq], 0, [], 8, .pointer 204⟩
theorem T201_ok : TIok Try.prog 201 T201 := tiok_mk (i := Try.t201) Try.underlying201 Try.type201 rfl rfl rfl rfl rfl rfl (by kernel_rfl) (by decide) (by decide) (by decide) rfl
theorem T201_sz : T201.sz = 1 := rfl
theorem T201_pty : T201.pty = .opq := rfl
/-- a struct -/
noncomputable def T203 : TI := ⟨true, [.int .i64, .list (.int .i64), .bool, .str, .str, .list (.agg [.int .i64, .int .i64, .bool, .list (.int .i64), .str])], 0, [(0, 155), (5, 180)], 96, .struct (match Try.t203.desc with | .struct fs => fs | _ => #[])⟩
theorem T203_ok : TIok Try.prog 203 T203 := tiok_mk (i := Try.t203) Try.underlying203 Try.type203 rfl rfl rfl rfl rfl rfl (by kernel_rfl) (by decide) (by decide) (by decide) rfl
theorem T203_sz : T203.sz = 6 := rfl
theorem T203_pty : T203.pty = .agg [.int .i64, .list (.int .i64), .bool, .str, .str, .list (.agg [.int .i64, .int .i64, .bool, .list (.int .i64), .str])] := rfl
/-- spec.l03Run -/
noncomputable def T204 : TI := ⟨true, [.int .i64, .list (.int .i64), .bool, .str, .str, .list (.agg [.int .i64, .int .i64, .bool, .list (.int .i64), .str])], 0, [(0, 155), (5, 180)], 96, .struct (match Try.t203.desc with | .struct fs => fs | _ => #[])⟩
theorem T204_ok : TIok Try.prog 204 T204 := tiok_mk (i := Try.t204) Try.underlying204 Try.type204 rfl rfl rfl rfl rfl rfl (by kernel_rfl) (by decide) (by decide) (by decide) rfl
theorem T204_sz : T204.sz = 6 := rfl
theorem T204_pty : T204.pty = .agg [.int .i64, .list (.int .i64), .bool, .str, .str, .list (.agg [.int .i64, .int .i64, .bool, .list (.int .i64), .str])] := rfl
/-- *uint8 -/
noncomputable def T205 : TI := ⟨false, [.opq], 0, [], 8, .pointer 5⟩
theorem T205_ok : TIok Try.prog 205 T205 := tiok_mk (i := Try.t205) Try.underlying205 Try.type205 rfl rfl rfl rfl rfl rfl (by kernel_rfl) (by decide) (by decide) (by decide) rfl
theorem T205_sz : T205.sz = 1 := rfl
theorem T205_pty : T205.pty = .opq := rfl
/-- *impl.Screen -/
noncomputable def T212 : TI := ⟨false, [.opq], 0, [], 8, .pointer 152⟩
theorem T212_ok : TIok Try.prog 212 T212 := tiok_mk (i := Try.t212) Try.underlying212 Try.type212 rfl rfl rfl rfl rfl rfl (by kernel_rfl) (by decide) (by decide) (by decide) rfl
theorem T212_sz : T212.sz = 1 := rfl
theorem T212_pty : T212.pty = .opq := rfl
/-- uint32 -/
noncomputable def T219 : TI := ⟨false, [.int .u32], 0, [], 4, .int .u32⟩
theorem T219_ok : TIok Try.prog 219 T219 := tiok_mk (i := Try.t219) Try.underlying219 Try.type219 rfl rfl rfl rfl rfl rfl (by kernel_rfl) (by decide) (by decide) (by decide) rfl
theorem T219_sz : T219.sz = 1 := rfl
theorem T219_pty : T219.pty = .int .u32 := rfl
/-- uint64 -/
noncomputable def T222 : TI := ⟨false, [.int .u64], 0, [], 8, .int .u64⟩
theorem T222_ok : TIok Try.prog 222 T222 := tiok_mk (i := Try.t222) Try.underlying222 Try.type222 rfl rfl rfl rfl rfl rfl (by kernel_rfl) (by decide) (by decide) (by decide) rfl
theorem T222_sz : T222.sz = 1 := rfl
theorem T222_pty : T222.pty = .int .u64 := rfl
/-- a struct -/
noncomputable def T225 : TI := ⟨true, [.opq, .opq, .opq, .str], 0, [(0, 17), (1, 17), (2, 17), (3, 9)], 40, .struct (match Try.t225.desc with | .struct fs => fs | _ => #[])⟩
theorem T225_ok : TIok Try.prog 225 T225 := tiok_mk (i := Try.t225) Try.underlying225 Try.type225 rfl rfl rfl rfl rfl rfl (by kernel_rfl) (by decide) (by decide) (by decide) rfl
theorem T225_sz : T225.sz = 4 := rfl
theorem T225_pty : T225.pty = .agg [.opq, .opq, .opq, .str] := rfl
/-- runtime.TypeAssertionError -/
noncomputable def T226 : TI := ⟨true, [.opq, .opq, .opq, .str], 0, [(0, 17), (1, 17), (2, 17), (3, 9)], 40, .struct (match Try.t225.desc with | .struct fs => fs | _ => #[])⟩
theorem T226_ok : TIok Try.prog 226 T226 := tiok_mk (i := Try.t226) Try.underlying226 Try.type226 rfl rfl rfl rfl rfl rfl (by kernel_rfl) (by decide) (by decide) (by decide) rfl
theorem T226_sz : T226.sz = 4 := rfl
theorem T226_pty : T226.pty = .agg [.opq, .opq, .opq, .str] := rfl
/-- abi.TFlag -/
noncomputable def T230 : TI := ⟨false, [.int .u8], 0, [], 1, .int .u8⟩
theorem T230_ok : TIok Try.prog 230 T230 := tiok_mk (i := Try.t230) Try.underlying230 Try.type230 rfl rfl rfl rfl rfl rfl (by kernel_rfl) (by decide) (by decide) (by decide) rfl
theorem T230_sz : T230.sz = 1 := rfl
theorem T230_pty : T230.pty = .int .u8 := rfl
/-- abi.Kind -/
noncomputable def T231 : TI := ⟨false, [.int .u8], 0, [], 1, .int .u8⟩
theorem T231_ok : TIok Try.prog 231 T231 := tiok_mk (i := Try.t231) Try.underlying231 Try.type231 rfl rfl rfl rfl rfl rfl (by kernel_rfl) (by decide) (by decide) (by decide) rfl
theorem T231_sz : T231.sz = 1 := rfl
theorem T231_pty : T231.pty = .int .u8 := rfl
/-- abi.NameOff -/
noncomputable def T233 : TI := ⟨false, [.int .i32], 0, [], 4, .int .i32⟩
theorem T233_ok : TIok Try.prog 233 T233 := tiok_mk (i := Try.t233) Try.underlying233 Try.type233 rfl rfl rfl rfl rfl rfl (by kernel_rfl) (by decide) (by decide) (by decide) rfl
theorem T233_sz : T233.sz = 1 := rfl
theorem T233_pty : T233.pty = .int .i32 := rfl
/-- abi.TypeOff -/
noncomputable def T234 : TI := ⟨false, [.int .i32], 0, [], 4, .int .i32⟩
theorem T234_ok : TIok Try.prog 234 T234 := tiok_mk (i := Try.t234) Try.underlying234 Try.type234 rfl rfl rfl rfl rfl rfl (by kernel_rfl) (by decide) (by decide) (by decide) rfl
theorem T234_sz : T234.sz = 1 := rfl
theorem T234_pty : T234.pty = .int .i32 := rfl
noncomputable def tyTab : List (Nat × TI) := [(2, T2), (3, T3), (4, T4), (5, T5), (6, T6), (7, T7), (8, T8), (9, T9), (10, T10), (11, T11), (12, T12), (13, T13), (14, T14), (15, T15), (16, T16), (17, T17), (18, T18), (19, T19), (21, T21), (22, T22), (23, T23), (24, T24), (25, T25), (34, T34), (35, T35), (36, T36), (37, T37), (39, T39), (40, T40), (41, T41), (42, T42), (53, T53), (54, T54), (59, T59), (69, T69), (70, T70), (93, T93), (104, T104), (105, T105), (118, T118), (119, T119), (121, T121), (122, T122), (124, T124), (125, T125), (126, T126), (128, T128), (131, T131), (136, T136), (137, T137), (150, T150), (151, T151), (152, T152), (154, T154), (155, T155), (174, T174), (177, T177), (178, T178), (180, T180), (183, T183), (185, T185), (186, T186), (188, T188), (189, T189), (201, T201), (203, T203), (204, T204), (205, T205), (212, T212), (219, T219), (222, T222), (225, T225), (226, T226), (230, T230), (231, T231), (233, T233), (234, T234)]
theorem ty2 : lk tyTab 2 = some T2 := rfl
theorem ty3 : lk tyTab 3 = some T3 := rfl
theorem ty4 : lk tyTab 4 = some T4 := rfl
theorem ty5 : lk tyTab 5 = some T5 := rfl
theorem ty6 : lk tyTab 6 = some T6 := rfl
theorem ty7 : lk tyTab 7 = some T7 := rfl
theorem ty8 : lk tyTab 8 = some T8 := rfl
theorem ty9 : lk tyTab 9 = some T9 := rfl
theorem ty10 : lk tyTab 10 = some T10 := rfl
theorem ty11 : lk tyTab 11 = some T11 := rfl
theorem ty12 : lk tyTab 12 = some T12 := rfl
theorem ty13 : lk tyTab 13 = some T13 := rfl
theorem ty14 : lk tyTab 14 = some T14 := rfl
theorem ty15 : lk tyTab 15 = some T15 := rfl
theorem ty16 : lk tyTab 16 = some T16 := rfl
theorem ty17 : lk tyTab 17 = some T17 := rfl
theorem ty18 : lk tyTab 18 = some T18 := rfl
theorem ty19 : lk tyTab 19 = some T19 := rfl
theorem ty21 : lk tyTab 21 = some T21 := rfl
theorem ty22 : lk tyTab 22 = some T22 := rfl
theorem ty23 : lk tyTab 23 = some T23 := rfl
theorem ty24 : lk tyTab 24 = some T24 := rfl
theorem ty25 : lk tyTab 25 = some T25 := rfl
theorem ty34 : lk tyTab 34 = some T34 := rfl
theorem ty35 : lk tyTab 35 = some T35 := rfl
theorem ty36 : lk tyTab 36 = some T36 := rfl
theorem ty37 : lk tyTab 37 = some T37 := rfl
theorem ty39 : lk tyTab 39 = some T39 := rfl
theorem ty40 : lk tyTab 40 = some T40 := rfl
theorem ty41 : lk tyTab 41 = some T41 := rfl
theorem ty42 : lk tyTab 42 = some T42 := rfl
theorem ty53 : lk tyTab 53 = some T53 := rfl
theorem ty54 : lk tyTab 54 = some T54 := rfl
theorem ty59 : lk tyTab 59 = some T59 := rfl
theorem ty69 : lk tyTab 69 = some T69 := rfl
theorem ty70 : lk tyTab 70 = some T70 := rfl
theorem ty93 : lk tyTab 93 = some T93 := rfl
theorem ty104 : lk tyTab 104 = some T104 := rfl
theorem ty105 : lk tyTab 105 = some T105 := rfl
theorem ty118 : lk tyTab 118 = some T118 := rfl
theorem ty119 : lk tyTab 119 = some T119 := rfl
theorem ty121 : lk tyTab 121 = some T121 := rfl
theorem ty122 : lk tyTab 122 = some T122 := rfl
theorem ty124 : lk tyTab 124 = some T124 := rfl
theorem ty125 : lk tyTab 125 = some T125 := rfl
theorem ty126 : lk tyTab 126 = some T126 := rfl
theorem ty128 : lk tyTab 128 = some T128 := rfl
theorem ty131 : lk tyTab 131 = some T131 := rfl
theorem ty136 : lk tyTab 136 = some T136 := rfl
theorem ty137 : lk tyTab 137 = some T137 := rfl
theorem ty150 : lk tyTab 150 = some T150 := rfl
theorem ty151 : lk tyTab 151 = some T151 := rfl
theorem ty152 : lk tyTab 152 = some T152 := rfl
theorem ty154 : lk tyTab 154 = some T154 := rfl
theorem ty155 : lk tyTab 155 = some T155 := rfl
theorem ty174 : lk tyTab 174 = some T174 := rfl
theorem ty177 : lk tyTab 177 = some T177 := rfl
theorem ty178 : lk tyTab 178 = some T178 := rfl
theorem ty180 : lk tyTab 180 = some T180 := rfl
theorem ty183 : lk tyTab 183 = some T183 := rfl
theorem ty185 : lk tyTab 185 = some T185 := rfl
theorem ty186 : lk tyTab 186 = some T186 := rfl
theorem ty188 : lk tyTab 188 = some T188 := rfl
theorem ty189 : lk tyTab 189 = some T189 := rfl
theorem ty201 : lk tyTab 201 = some T201 := rfl
theorem ty203 : lk tyTab 203 = some T203 := rfl
theorem ty204 : lk tyTab 204 = some T204 := rfl
theorem ty205 : lk tyTab 205 = some T205 := rfl
theorem ty212 : lk tyTab 212 = some T212 := rfl
theorem ty219 : lk tyTab 219 = some T219 := rfl
theorem ty222 : lk tyTab 222 = some T222 := rfl
theorem ty225 : lk tyTab 225 = some T225 := rfl
theorem ty226 : lk tyTab 226 = some T226 := rfl
theorem ty230 : lk tyTab 230 = some T230 := rfl
theorem ty231 : lk tyTab 231 = some T231 := rfl
theorem ty233 : lk tyTab 233 = some T233 := rfl
theorem ty234 : lk tyTab 234 = some T234 := rfl
theorem tyTab_ok (fns : List ((Nat × List Nat) × FSpec)) : EnvTy Try.prog ⟨tyTab, fns⟩ := by
  have key : ∀ l : List (Nat × TI), (∀ p ∈ l, TIok Try.prog p.1 p.2) → ∀ t ti, lk l t = some ti → TIok Try.prog t ti := by
    intro l
    induction l with
    | nil => intro _ t ti h; cases h
    | cons p l ih =>
      intro hl t ti h
      obtain ⟨i, x⟩ := p
      simp only [lk] at h
      split at h
      · rename_i e; subst e; cases h; exact hl (i, ti) (by simp)
      · exact ih (fun p hp => hl p (by simp [hp])) t ti h
  refine key tyTab ?_
  simp only [tyTab, List.mem_cons, List.not_mem_nil, or_false, forall_eq_or_imp, forall_eq]
  exact ⟨T2_ok, T3_ok, T4_ok, T5_ok, T6_ok, T7_ok, T8_ok, T9_ok, T10_ok, T11_ok, T12_ok, T13_ok, T14_ok, T15_ok, T16_ok, T17_ok, T18_ok, T19_ok, T21_ok, T22_ok, T23_ok, T24_ok, T25_ok, T34_ok, T35_ok, T36_ok, T37_ok, T39_ok, T40_ok, T41_ok, T42_ok, T53_ok, T54_ok, T59_ok, T69_ok, T70_ok, T93_ok, T104_ok, T105_ok, T118_ok, T119_ok, T121_ok, T122_ok, T124_ok, T125_ok, T126_ok, T128_ok, T131_ok, T136_ok, T137_ok, T150_ok, T151_ok, T152_ok, T154_ok, T155_ok, T174_ok, T177_ok, T178_ok, T180_ok, T183_ok, T185_ok, T186_ok, T188_ok, T189_ok, T201_ok, T203_ok, T204_ok, T205_ok, T212_ok, T219_ok, T222_ok, T225_ok, T226_ok, T230_ok, T231_ok, T233_ok, T234_ok⟩
theorem mixed : Try.prog.follows .mixedOrders = true := by kernel_rfl

end Go.Proofs.Ytmjjdfhpnckacab
