/-
  The table of the data types.
  Conditions: none.
-/
import Derived.Test.YtmjjdfhpnckacaaAux
import Derived.Test.YtmjjdfhpnckacaaChecked
namespace Go.Proofs.Ytmjjdfhpnckacaa
set_option maxRecDepth 100000

/-- int64 -/
noncomputable def T2 : TI := ⟨false, [.int .i64], 0, [], 8, .int .i64⟩
theorem T2_ok : TIok Try.prog 2 T2 := tiok_mk (i := Try.t2) Try.underlying2 Try.type2 rfl rfl rfl rfl rfl rfl (by kernel_rfl) (by decide) (by decide) (by decide) rfl
theorem T2_sz : T2.sz = 1 := rfl
theorem T2_pty : T2.pty = .int .i64 := rfl
/-- int -/
noncomputable def T3 : TI := ⟨false, [.int .i64], 0, [], 8, .int .i64⟩
theorem T3_ok : TIok Try.prog 3 T3 := tiok_mk (i := Try.t3) Try.underlying3 Try.type3 rfl rfl rfl rfl rfl rfl (by kernel_rfl) (by decide) (by decide) (by decide) rfl
theorem T3_sz : T3.sz = 1 := rfl
theorem T3_pty : T3.pty = .int .i64 := rfl
/-- bool -/
noncomputable def T4 : TI := ⟨false, [.bool], 0, [], 1, .bool⟩
theorem T4_ok : TIok Try.prog 4 T4 := tiok_mk (i := Try.t4) Try.underlying4 Try.type4 rfl rfl rfl rfl rfl rfl (by kernel_rfl) (by decide) (by decide) (by decide) rfl
theorem T4_sz : T4.sz = 1 := rfl
theorem T4_pty : T4.pty = .bool := rfl
/-- uint8 -/
noncomputable def T5 : TI := ⟨false, [.int .u8], 0, [], 1, .int .u8⟩
theorem T5_ok : TIok Try.prog 5 T5 := tiok_mk (i := Try.t5) Try.underlying5 Try.type5 rfl rfl rfl rfl rfl rfl (by kernel_rfl) (by decide) (by decide) (by decide) rfl
theorem T5_sz : T5.sz = 1 := rfl
theorem T5_pty : T5.pty = .int .u8 := rfl
/-- abi.BoundsErrorCode -/
noncomputable def T6 : TI := ⟨false, [.int .u8], 0, [], 1, .int .u8⟩
theorem T6_ok : TIok Try.prog 6 T6 := tiok_mk (i := Try.t6) Try.underlying6 Try.type6 rfl rfl rfl rfl rfl rfl (by kernel_rfl) (by decide) (by decide) (by decide) rfl
theorem T6_sz : T6.sz = 1 := rfl
theorem T6_pty : T6.pty = .int .u8 := rfl
/-- a struct -/
noncomputable def T7 : TI := ⟨true, [.int .i64, .int .i64, .bool, .int .u8], 0, [(0, 2), (1, 3), (2, 4), (3, 6)], 24, .struct (match Try.t7.desc with | .struct fs => fs | _ => #[])⟩
theorem T7_ok : TIok Try.prog 7 T7 := tiok_mk (i := Try.t7) Try.underlying7 Try.type7 rfl rfl rfl rfl rfl rfl (by kernel_rfl) (by decide) (by decide) (by decide) rfl
theorem T7_sz : T7.sz = 4 := rfl
theorem T7_pty : T7.pty = .agg [.int .i64, .int .i64, .bool, .int .u8] := rfl
/-- runtime.boundsError -/
noncomputable def T8 : TI := ⟨true, [.int .i64, .int .i64, .bool, .int .u8], 0, [(0, 2), (1, 3), (2, 4), (3, 6)], 24, .struct (match Try.t7.desc with | .struct fs => fs | _ => #[])⟩
theorem T8_ok : TIok Try.prog 8 T8 := tiok_mk (i := Try.t8) Try.underlying8 Try.type8 rfl rfl rfl rfl rfl rfl (by kernel_rfl) (by decide) (by decide) (by decide) rfl
theorem T8_sz : T8.sz = 4 := rfl
theorem T8_pty : T8.pty = .agg [.int .i64, .int .i64, .bool, .int .u8] := rfl
/-- string -/
noncomputable def T9 : TI := ⟨false, [.str], 0, [], 16, .string⟩
theorem T9_ok : TIok Try.prog 9 T9 := tiok_mk (i := Try.t9) Try.underlying9 Try.type9 rfl rfl rfl rfl rfl rfl (by kernel_rfl) (by decide) (by decide) (by decide) rfl
theorem T9_sz : T9.sz = 1 := rfl
theorem T9_pty : T9.pty = .str := rfl
/-- runtime.errorString -/
noncomputable def T10 : TI := ⟨false, [.str], 0, [], 16, .string⟩
theorem T10_ok : TIok Try.prog 10 T10 := tiok_mk (i := Try.t10) Try.underlying10 Try.type10 rfl rfl rfl rfl rfl rfl (by kernel_rfl) (by decide) (by decide) (by decide) rfl
theorem T10_sz : T10.sz = 1 := rfl
theorem T10_pty : T10.pty = .str := rfl
/-- runtime.plainError -/
noncomputable def T11 : TI := ⟨false, [.str], 0, [], 16, .string⟩
theorem T11_ok : TIok Try.prog 11 T11 := tiok_mk (i := Try.t11) Try.underlying11 Try.type11 rfl rfl rfl rfl rfl rfl (by kernel_rfl) (by decide) (by decide) (by decide) rfl
theorem T11_sz : T11.sz = 1 := rfl
theorem T11_pty : T11.pty = .str := rfl
/-- uintptr -/
noncomputable def T12 : TI := ⟨false, [.int .u64], 0, [], 8, .int .u64⟩
theorem T12_ok : TIok Try.prog 12 T12 := tiok_mk (i := Try.t12) Try.underlying12 Try.type12 rfl rfl rfl rfl rfl rfl (by kernel_rfl) (by decide) (by decide) (by decide) rfl
theorem T12_sz : T12.sz = 1 := rfl
theorem T12_pty : T12.pty = .int .u64 := rfl
/-- a struct -/
noncomputable def T13 : TI := ⟨true, [.str, .int .u64], 0, [(0, 9), (1, 12)], 24, .struct (match Try.t13.desc with | .struct fs => fs | _ => #[])⟩
theorem T13_ok : TIok Try.prog 13 T13 := tiok_mk (i := Try.t13) Try.underlying13 Try.type13 rfl rfl rfl rfl rfl rfl (by kernel_rfl) (by decide) (by decide) (by decide) rfl
theorem T13_sz : T13.sz = 2 := rfl
theorem T13_pty : T13.pty = .agg [.str, .int .u64] := rfl
/-- runtime.errorAddressString -/
noncomputable def T14 : TI := ⟨true, [.str, .int .u64], 0, [(0, 9), (1, 12)], 24, .struct (match Try.t13.desc with | .struct fs => fs | _ => #[])⟩
theorem T14_ok : TIok Try.prog 14 T14 := tiok_mk (i := Try.t14) Try.underlying14 Try.type14 rfl rfl rfl rfl rfl rfl (by kernel_rfl) (by decide) (by decide) (by decide) rfl
theorem T14_sz : T14.sz = 2 := rfl
theorem T14_pty : T14.pty = .agg [.str, .int .u64] := rfl
/-- *runtime.TypeAssertionError -/
noncomputable def T15 : TI := ⟨false, [.opq], 0, [], 8, .pointer 114⟩
theorem T15_ok : TIok Try.prog 15 T15 := tiok_mk (i := Try.t15) Try.underlying15 Try.type15 rfl rfl rfl rfl rfl rfl (by kernel_rfl) (by decide) (by decide) (by decide) rfl
theorem T15_sz : T15.sz = 1 := rfl
theorem T15_pty : T15.pty = .opq := rfl
/-- *runtime.PanicNilError -/
noncomputable def T16 : TI := ⟨false, [.opq], 0, [], 8, .pointer 117⟩
theorem T16_ok : TIok Try.prog 16 T16 := tiok_mk (i := Try.t16) Try.underlying16 Try.type16 rfl rfl rfl rfl rfl rfl (by kernel_rfl) (by decide) (by decide) (by decide) rfl
theorem T16_sz : T16.sz = 1 := rfl
theorem T16_pty : T16.pty = .opq := rfl
/-- *abi.Type -/
noncomputable def T17 : TI := ⟨false, [.opq], 0, [], 8, .pointer 125⟩
theorem T17_ok : TIok Try.prog 17 T17 := tiok_mk (i := Try.t17) Try.underlying17 Try.type17 rfl rfl rfl rfl rfl rfl (by kernel_rfl) (by decide) (by decide) (by decide) rfl
theorem T17_sz : T17.sz = 1 := rfl
theorem T17_pty : T17.pty = .opq := rfl
/-- a struct -/
noncomputable def T18 : TI := ⟨true, [.opq], 0, [(0, 17)], 8, .struct (match Try.t18.desc with | .struct fs => fs | _ => #[])⟩
theorem T18_ok : TIok Try.prog 18 T18 := tiok_mk (i := Try.t18) Try.underlying18 Try.type18 rfl rfl rfl rfl rfl rfl (by kernel_rfl) (by decide) (by decide) (by decide) rfl
theorem T18_sz : T18.sz = 1 := rfl
theorem T18_pty : T18.pty = .agg [.opq] := rfl
/-- maps.unhashableTypeError -/
noncomputable def T19 : TI := ⟨true, [.opq], 0, [(0, 17)], 8, .struct (match Try.t18.desc with | .struct fs => fs | _ => #[])⟩
theorem T19_ok : TIok Try.prog 19 T19 := tiok_mk (i := Try.t19) Try.underlying19 Try.type19 rfl rfl rfl rfl rfl rfl (by kernel_rfl) (by decide) (by decide) (by decide) rfl
theorem T19_sz : T19.sz = 1 := rfl
theorem T19_pty : T19.pty = .agg [.opq] := rfl
/-- int32 -/
noncomputable def T21 : TI := ⟨false, [.int .i32], 0, [], 4, .int .i32⟩
theorem T21_ok : TIok Try.prog 21 T21 := tiok_mk (i := Try.t21) Try.underlying21 Try.type21 rfl rfl rfl rfl rfl rfl (by kernel_rfl) (by decide) (by decide) (by decide) rfl
theorem T21_sz : T21.sz = 1 := rfl
theorem T21_pty : T21.pty = .int .i32 := rfl
/-- []string -/
noncomputable def T22 : TI := ⟨false, [.list (.str)], 9, [], 24, .slice 9⟩
theorem T22_ok : TIok Try.prog 22 T22 := tiok_mk (i := Try.t22) Try.underlying22 Try.type22 rfl rfl rfl rfl rfl rfl (by kernel_rfl) (by decide) (by decide) (by decide) rfl
theorem T22_sz : T22.sz = 1 := rfl
theorem T22_pty : T22.pty = .list (.str) := rfl
/-- a struct -/
noncomputable def T23 : TI := ⟨true, [.int .i64, .int .i64, .int .i64, .list (.str)], 0, [(0, 3), (1, 3), (2, 3), (3, 22)], 48, .struct (match Try.t23.desc with | .struct fs => fs | _ => #[])⟩
theorem T23_ok : TIok Try.prog 23 T23 := tiok_mk (i := Try.t23) Try.underlying23 Try.type23 rfl rfl rfl rfl rfl rfl (by kernel_rfl) (by decide) (by decide) (by decide) rfl
theorem T23_sz : T23.sz = 4 := rfl
theorem T23_pty : T23.pty = .agg [.int .i64, .int .i64, .int .i64, .list (.str)] := rfl
/-- laws.Mirror -/
noncomputable def T24 : TI := ⟨true, [.int .i64, .int .i64, .int .i64, .list (.str)], 0, [(0, 3), (1, 3), (2, 3), (3, 22)], 48, .struct (match Try.t23.desc with | .struct fs => fs | _ => #[])⟩
theorem T24_ok : TIok Try.prog 24 T24 := tiok_mk (i := Try.t24) Try.underlying24 Try.type24 rfl rfl rfl rfl rfl rfl (by kernel_rfl) (by decide) (by decide) (by decide) rfl
theorem T24_sz : T24.sz = 4 := rfl
theorem T24_pty : T24.pty = .agg [.int .i64, .int .i64, .int .i64, .list (.str)] := rfl
/-- impl.Mirror -/
noncomputable def T27 : TI := ⟨true, [.int .i64, .int .i64, .int .i64, .list (.str)], 0, [(0, 3), (1, 3), (2, 3), (3, 22)], 48, .struct (match Try.t23.desc with | .struct fs => fs | _ => #[])⟩
theorem T27_ok : TIok Try.prog 27 T27 := tiok_mk (i := Try.t27) Try.underlying27 Try.type27 rfl rfl rfl rfl rfl rfl (by kernel_rfl) (by decide) (by decide) (by decide) rfl
theorem T27_sz : T27.sz = 4 := rfl
theorem T27_pty : T27.pty = .agg [.int .i64, .int .i64, .int .i64, .list (.str)] := rfl
/-- []laws.Row -/
noncomputable def T31 : TI := ⟨false, [.list (.agg [.int .i64, .str])], 78, [], 24, .slice 78⟩
theorem T31_ok : TIok Try.prog 31 T31 := tiok_mk (i := Try.t31) Try.underlying31 Try.type31 rfl rfl rfl rfl rfl rfl (by kernel_rfl) (by decide) (by decide) (by decide) rfl
theorem T31_sz : T31.sz = 1 := rfl
theorem T31_pty : T31.pty = .list (.agg [.int .i64, .str]) := rfl
/-- a struct -/
noncomputable def T32 : TI := ⟨true, [.int .i64, .int .i64, .bool, .int .i64, .int .i64, .list (.agg [.int .i64, .str])], 0, [(0, 3), (1, 3), (2, 4), (3, 3), (4, 3), (5, 31)], 64, .struct (match Try.t32.desc with | .struct fs => fs | _ => #[])⟩
theorem T32_ok : TIok Try.prog 32 T32 := tiok_mk (i := Try.t32) Try.underlying32 Try.type32 rfl rfl rfl rfl rfl rfl (by kernel_rfl) (by decide) (by decide) (by decide) rfl
theorem T32_sz : T32.sz = 6 := rfl
theorem T32_pty : T32.pty = .agg [.int .i64, .int .i64, .bool, .int .i64, .int .i64, .list (.agg [.int .i64, .str])] := rfl
/-- laws.View -/
noncomputable def T33 : TI := ⟨true, [.int .i64, .int .i64, .bool, .int .i64, .int .i64, .list (.agg [.int .i64, .str])], 0, [(0, 3), (1, 3), (2, 4), (3, 3), (4, 3), (5, 31)], 64, .struct (match Try.t32.desc with | .struct fs => fs | _ => #[])⟩
theorem T33_ok : TIok Try.prog 33 T33 := tiok_mk (i := Try.t33) Try.underlying33 Try.type33 rfl rfl rfl rfl rfl rfl (by kernel_rfl) (by decide) (by decide) (by decide) rfl
theorem T33_sz : T33.sz = 6 := rfl
theorem T33_pty : T33.pty = .agg [.int .i64, .int .i64, .bool, .int .i64, .int .i64, .list (.agg [.int .i64, .str])] := rfl
/-- []impl.Row -/
noncomputable def T36 : TI := ⟨false, [.list (.agg [.int .i64, .str])], 65, [], 24, .slice 65⟩
theorem T36_ok : TIok Try.prog 36 T36 := tiok_mk (i := Try.t36) Try.underlying36 Try.type36 rfl rfl rfl rfl rfl rfl (by kernel_rfl) (by decide) (by decide) (by decide) rfl
theorem T36_sz : T36.sz = 1 := rfl
theorem T36_pty : T36.pty = .list (.agg [.int .i64, .str]) := rfl
/-- a struct -/
noncomputable def T37 : TI := ⟨true, [.int .i64, .int .i64, .bool, .int .i64, .int .i64, .list (.agg [.int .i64, .str])], 0, [(0, 3), (1, 3), (2, 4), (3, 3), (4, 3), (5, 36)], 64, .struct (match Try.t37.desc with | .struct fs => fs | _ => #[])⟩
theorem T37_ok : TIok Try.prog 37 T37 := tiok_mk (i := Try.t37) Try.underlying37 Try.type37 rfl rfl rfl rfl rfl rfl (by kernel_rfl) (by decide) (by decide) (by decide) rfl
theorem T37_sz : T37.sz = 6 := rfl
theorem T37_pty : T37.pty = .agg [.int .i64, .int .i64, .bool, .int .i64, .int .i64, .list (.agg [.int .i64, .str])] := rfl
/-- impl.View -/
noncomputable def T38 : TI := ⟨true, [.int .i64, .int .i64, .bool, .int .i64, .int .i64, .list (.agg [.int .i64, .str])], 0, [(0, 3), (1, 3), (2, 4), (3, 3), (4, 3), (5, 36)], 64, .struct (match Try.t37.desc with | .struct fs => fs | _ => #[])⟩
theorem T38_ok : TIok Try.prog 38 T38 := tiok_mk (i := Try.t38) Try.underlying38 Try.type38 rfl rfl rfl rfl rfl rfl (by kernel_rfl) (by decide) (by decide) (by decide) rfl
theorem T38_sz : T38.sz = 6 := rfl
theorem T38_pty : T38.pty = .agg [.int .i64, .int .i64, .bool, .int .i64, .int .i64, .list (.agg [.int .i64, .str])] := rfl
/-- []uint8 -/
noncomputable def T51 : TI := ⟨false, [.list (.int .u8)], 5, [], 24, .slice 5⟩
theorem T51_ok : TIok Try.prog 51 T51 := tiok_mk (i := Try.t51) Try.underlying51 Try.type51 rfl rfl rfl rfl rfl rfl (by kernel_rfl) (by decide) (by decide) (by decide) rfl
theorem T51_sz : T51.sz = 1 := rfl
theorem T51_pty : T51.pty = .list (.int .u8) := rfl
/-- a struct -/
noncomputable def T64 : TI := ⟨true, [.int .i64, .str], 0, [(0, 3), (1, 9)], 24, .struct (match Try.t64.desc with | .struct fs => fs | _ => #[])⟩
theorem T64_ok : TIok Try.prog 64 T64 := tiok_mk (i := Try.t64) Try.underlying64 Try.type64 rfl rfl rfl rfl rfl rfl (by kernel_rfl) (by decide) (by decide) (by decide) rfl
theorem T64_sz : T64.sz = 2 := rfl
theorem T64_pty : T64.pty = .agg [.int .i64, .str] := rfl
/-- impl.Row -/
noncomputable def T65 : TI := ⟨true, [.int .i64, .str], 0, [(0, 3), (1, 9)], 24, .struct (match Try.t64.desc with | .struct fs => fs | _ => #[])⟩
theorem T65_ok : TIok Try.prog 65 T65 := tiok_mk (i := Try.t65) Try.underlying65 Try.type65 rfl rfl rfl rfl rfl rfl (by kernel_rfl) (by decide) (by decide) (by decide) rfl
theorem T65_sz : T65.sz = 2 := rfl
theorem T65_pty : T65.pty = .agg [.int .i64, .str] := rfl
/-- laws.Row -/
noncomputable def T78 : TI := ⟨true, [.int .i64, .str], 0, [(0, 3), (1, 9)], 24, .struct (match Try.t64.desc with | .struct fs => fs | _ => #[])⟩
theorem T78_ok : TIok Try.prog 78 T78 := tiok_mk (i := Try.t78) Try.underlying78 Try.type78 rfl rfl rfl rfl rfl rfl (by kernel_rfl) (by decide) (by decide) (by decide) rfl
theorem T78_sz : T78.sz = 2 := rfl
theorem T78_pty : T78.pty = .agg [.int .i64, .str] := rfl
/-- a struct -/
noncomputable def T81 : TI := ⟨true, [.int .i64, .int .i64], 0, [(0, 3), (1, 3)], 16, .struct (match Try.t81.desc with | .struct fs => fs | _ => #[])⟩
theorem T81_ok : TIok Try.prog 81 T81 := tiok_mk (i := Try.t81) Try.underlying81 Try.type81 rfl rfl rfl rfl rfl rfl (by kernel_rfl) (by decide) (by decide) (by decide) rfl
theorem T81_sz : T81.sz = 2 := rfl
theorem T81_pty : T81.pty = .agg [.int .i64, .int .i64] := rfl
/-- impl.Cell -/
noncomputable def T82 : TI := ⟨true, [.int .i64, .int .i64], 0, [(0, 3), (1, 3)], 16, .struct (match Try.t81.desc with | .struct fs => fs | _ => #[])⟩
theorem T82_ok : TIok Try.prog 82 T82 := tiok_mk (i := Try.t82) Try.underlying82 Try.type82 rfl rfl rfl rfl rfl rfl (by kernel_rfl) (by decide) (by decide) (by decide) rfl
theorem T82_sz : T82.sz = 2 := rfl
theorem T82_pty : T82.pty = .agg [.int .i64, .int .i64] := rfl
/-- []int -/
noncomputable def T90 : TI := ⟨false, [.list (.int .i64)], 3, [], 24, .slice 3⟩
theorem T90_ok : TIok Try.prog 90 T90 := tiok_mk (i := Try.t90) Try.underlying90 Try.type90 rfl rfl rfl rfl rfl rfl (by kernel_rfl) (by decide) (by decide) (by decide) rfl
theorem T90_sz : T90.sz = 1 := rfl
theorem T90_pty : T90.pty = .list (.int .i64) := rfl
/-- uint -/
noncomputable def T97 : TI := ⟨false, [.int .u64], 0, [], 8, .int .u64⟩
theorem T97_ok : TIok Try.prog 97 T97 := tiok_mk (i := Try.t97) Try.underlying97 Try.type97 rfl rfl rfl rfl rfl rfl (by kernel_rfl) (by decide) (by decide) (by decide) rfl
theorem T97_sz : T97.sz = 1 := rfl
theorem T97_pty : T97.pty = .int .u64 := rfl
/-- *uint8 -/
noncomputable def T108 : TI := ⟨false, [.opq], 0, [], 8, .pointer 5⟩
theorem T108_ok : TIok Try.prog 108 T108 := tiok_mk (i := Try.t108) Try.underlying108 Try.type108 rfl rfl rfl rfl rfl rfl (by kernel_rfl) (by decide) (by decide) (by decide) rfl
theorem T108_sz : T108.sz = 1 := rfl
theorem T108_pty : T108.pty = .opq := rfl
/-- a struct -/
noncomputable def T113 : TI := ⟨true, [.opq, .opq, .opq, .str], 0, [(0, 17), (1, 17), (2, 17), (3, 9)], 40, .struct (match Try.t113.desc with | .struct fs => fs | _ => #[])⟩
theorem T113_ok : TIok Try.prog 113 T113 := tiok_mk (i := Try.t113) Try.underlying113 Try.type113 rfl rfl rfl rfl rfl rfl (by kernel_rfl) (by decide) (by decide) (by decide) rfl
theorem T113_sz : T113.sz = 4 := rfl
theorem T113_pty : T113.pty = .agg [.opq, .opq, .opq, .str] := rfl
/-- runtime.TypeAssertionError -/
noncomputable def T114 : TI := ⟨true, [.opq, .opq, .opq, .str], 0, [(0, 17), (1, 17), (2, 17), (3, 9)], 40, .struct (match Try.t113.desc with | .struct fs => fs | _ => #[])⟩
theorem T114_ok : TIok Try.prog 114 T114 := tiok_mk (i := Try.t114) Try.underlying114 Try.type114 rfl rfl rfl rfl rfl rfl (by kernel_rfl) (by decide) (by decide) (by decide) rfl
theorem T114_sz : T114.sz = 4 := rfl
theorem T114_pty : T114.pty = .agg [.opq, .opq, .opq, .str] := rfl
/-- uint32 -/
noncomputable def T118 : TI := ⟨false, [.int .u32], 0, [], 4, .int .u32⟩
theorem T118_ok : TIok Try.prog 118 T118 := tiok_mk (i := Try.t118) Try.underlying118 Try.type118 rfl rfl rfl rfl rfl rfl (by kernel_rfl) (by decide) (by decide) (by decide) rfl
theorem T118_sz : T118.sz = 1 := rfl
theorem T118_pty : T118.pty = .int .u32 := rfl
/-- abi.TFlag -/
noncomputable def T119 : TI := ⟨false, [.int .u8], 0, [], 1, .int .u8⟩
theorem T119_ok : TIok Try.prog 119 T119 := tiok_mk (i := Try.t119) Try.underlying119 Try.type119 rfl rfl rfl rfl rfl rfl (by kernel_rfl) (by decide) (by decide) (by decide) rfl
theorem T119_sz : T119.sz = 1 := rfl
theorem T119_pty : T119.pty = .int .u8 := rfl
/-- abi.Kind -/
noncomputable def T120 : TI := ⟨false, [.int .u8], 0, [], 1, .int .u8⟩
theorem T120_ok : TIok Try.prog 120 T120 := tiok_mk (i := Try.t120) Try.underlying120 Try.type120 rfl rfl rfl rfl rfl rfl (by kernel_rfl) (by decide) (by decide) (by decide) rfl
theorem T120_sz : T120.sz = 1 := rfl
theorem T120_pty : T120.pty = .int .u8 := rfl
/-- abi.NameOff -/
noncomputable def T122 : TI := ⟨false, [.int .i32], 0, [], 4, .int .i32⟩
theorem T122_ok : TIok Try.prog 122 T122 := tiok_mk (i := Try.t122) Try.underlying122 Try.type122 rfl rfl rfl rfl rfl rfl (by kernel_rfl) (by decide) (by decide) (by decide) rfl
theorem T122_sz : T122.sz = 1 := rfl
theorem T122_pty : T122.pty = .int .i32 := rfl
/-- abi.TypeOff -/
noncomputable def T123 : TI := ⟨false, [.int .i32], 0, [], 4, .int .i32⟩
theorem T123_ok : TIok Try.prog 123 T123 := tiok_mk (i := Try.t123) Try.underlying123 Try.type123 rfl rfl rfl rfl rfl rfl (by kernel_rfl) (by decide) (by decide) (by decide) rfl
theorem T123_sz : T123.sz = 1 := rfl
theorem T123_pty : T123.pty = .int .i32 := rfl
noncomputable def tyTab : List (Nat × TI) := [(2, T2), (3, T3), (4, T4), (5, T5), (6, T6), (7, T7), (8, T8), (9, T9), (10, T10), (11, T11), (12, T12), (13, T13), (14, T14), (15, T15), (16, T16), (17, T17), (18, T18), (19, T19), (21, T21), (22, T22), (23, T23), (24, T24), (27, T27), (31, T31), (32, T32), (33, T33), (36, T36), (37, T37), (38, T38), (51, T51), (64, T64), (65, T65), (78, T78), (81, T81), (82, T82), (90, T90), (97, T97), (108, T108), (113, T113), (114, T114), (118, T118), (119, T119), (120, T120), (122, T122), (123, T123)]
theorem ty2 : lk tyTab 2 = some T2 := rfl
theorem ty3 : lk tyTab 3 = some T3 := rfl
theorem ty4 : lk tyTab 4 = some T4 := rfl
theorem ty5 : lk tyTab 5 = some T5 := rfl
theorem ty6 : lk tyTab 6 = some T6 := rfl
theorem ty7 : lk tyTab 7 = some T7 := rfl
theorem ty8 : lk tyTab 8 = some T8 := rfl
theorem ty9 : lk tyTab 9 = some T9 := rfl
theorem ty10 : lk tyTab 10 = some T10 := rfl
theorem ty11 : lk tyTab 11 = some T11 := rfl
theorem ty12 : lk tyTab 12 = some T12 := rfl
theorem ty13 : lk tyTab 13 = some T13 := rfl
theorem ty14 : lk tyTab 14 = some T14 := rfl
theorem ty15 : lk tyTab 15 = some T15 := rfl
theorem ty16 : lk tyTab 16 = some T16 := rfl
theorem ty17 : lk tyTab 17 = some T17 := rfl
theorem ty18 : lk tyTab 18 = some T18 := rfl
theorem ty19 : lk tyTab 19 = some T19 := rfl
theorem ty21 : lk tyTab 21 = some T21 := rfl
theorem ty22 : lk tyTab 22 = some T22 := rfl
theorem ty23 : lk tyTab 23 = some T23 := rfl
theorem ty24 : lk tyTab 24 = some T24 := rfl
theorem ty27 : lk tyTab 27 = some T27 := rfl
theorem ty31 : lk tyTab 31 = some T31 := rfl
theorem ty32 : lk tyTab 32 = some T32 := rfl
theorem ty33 : lk tyTab 33 = some T33 := rfl
theorem ty36 : lk tyTab 36 = some T36 := rfl
theorem ty37 : lk tyTab 37 = some T37 := rfl
theorem ty38 : lk tyTab 38 = some T38 := rfl
theorem ty51 : lk tyTab 51 = some T51 := rfl
theorem ty64 : lk tyTab 64 = some T64 := rfl
theorem ty65 : lk tyTab 65 = some T65 := rfl
theorem ty78 : lk tyTab 78 = some T78 := rfl
theorem ty81 : lk tyTab 81 = some T81 := rfl
theorem ty82 : lk tyTab 82 = some T82 := rfl
theorem ty90 : lk tyTab 90 = some T90 := rfl
theorem ty97 : lk tyTab 97 = some T97 := rfl
theorem ty108 : lk tyTab 108 = some T108 := rfl
theorem ty113 : lk tyTab 113 = some T113 := rfl
theorem ty114 : lk tyTab 114 = some T114 := rfl
theorem ty118 : lk tyTab 118 = some T118 := rfl
theorem ty119 : lk tyTab 119 = some T119 := rfl
theorem ty120 : lk tyTab 120 = some T120 := rfl
theorem ty122 : lk tyTab 122 = some T122 := rfl
theorem ty123 : lk tyTab 123 = some T123 := rfl
theorem tyTab_ok (fns : List ((Nat × List Nat) × FSpec)) : EnvTy Try.prog ⟨tyTab, fns⟩ := by
  have key : ∀ l : List (Nat × TI), (∀ p ∈ l, TIok Try.prog p.1 p.2) → ∀ t ti, lk l t = some ti → TIok Try.prog t ti := by
    intro l
    induction l with
    | nil => intro _ t ti h; cases h
    | cons p l ih =>
      intro hl t ti h
      obtain ⟨i, x⟩ := p
      simp only [lk] at h
      split at h
      · rename_i e; subst e; cases h; exact hl (i, ti) (by simp)
      · exact ih (fun p hp => hl p (by simp [hp])) t ti h
  refine key tyTab ?_
  simp only [tyTab, List.mem_cons, List.not_mem_nil, or_false, forall_eq_or_imp, forall_eq]
  exact ⟨T2_ok, T3_ok, T4_ok, T5_ok, T6_ok, T7_ok, T8_ok, T9_ok, T10_ok, T11_ok, T12_ok, T13_ok, T14_ok, T15_ok, T16_ok, T17_ok, T18_ok, T19_ok, T21_ok, T22_ok, T23_ok, T24_ok, T27_ok, T31_ok, T32_ok, T33_ok, T36_ok, T37_ok, T38_ok, T51_ok, T64_ok, T65_ok, T78_ok, T81_ok, T82_ok, T90_ok, T97_ok, T108_ok, T113_ok, T114_ok, T118_ok, T119_ok, T120_ok, T122_ok, T123_ok⟩
theorem mixed : Try.prog.follows .mixedOrders = true := by kernel_rfl

end Go.Proofs.Ytmjjdfhpnckacaa
