/-
  The types of data.
  Conditions: none.
-/
import Derived.Test.YtmjjdfhpnckacaaJoin
import Derived.Test.YtmjjdfhpnckacaaTab
namespace Go.Proofs.Ytmjjdfhpnckacaa
set_option maxRecDepth 100000

theorem lt2 : 2 < Try.prog.types.size := of_decide_eq_true (by kernel_rfl)
theorem D2 : Dat Try.prog 2 false [.int .i64] := .int Try.underlying2 lt2
theorem lt3 : 3 < Try.prog.types.size := of_decide_eq_true (by kernel_rfl)
theorem D3 : Dat Try.prog 3 false [.int .i64] := .int Try.underlying3 lt3
theorem lt4 : 4 < Try.prog.types.size := of_decide_eq_true (by kernel_rfl)
theorem D4 : Dat Try.prog 4 false [.bool] := .bool Try.underlying4 lt4
theorem lt5 : 5 < Try.prog.types.size := of_decide_eq_true (by kernel_rfl)
theorem D5 : Dat Try.prog 5 false [.int .u8] := .int Try.underlying5 lt5
theorem lt6 : 6 < Try.prog.types.size := of_decide_eq_true (by kernel_rfl)
theorem D6 : Dat Try.prog 6 false [.int .u8] := .int Try.underlying6 lt6
theorem lt7 : 7 < Try.prog.types.size := of_decide_eq_true (by kernel_rfl)
theorem D7 : Dat Try.prog 7 true [.int .i64, .int .i64, .bool, .int .u8] := .struct Try.underlying7 (.cons (l := [.int .i64]) (m := [.int .i64, .bool, .int .u8]) D2 (by kernel_rfl) (.cons (l := [.int .i64]) (m := [.bool, .int .u8]) D3 (by kernel_rfl) (.cons (l := [.bool]) (m := [.int .u8]) D4 (by kernel_rfl) (.cons (l := [.int .u8]) (m := []) D6 (by kernel_rfl) .nil)))) (by kernel_rfl) lt7
theorem lt8 : 8 < Try.prog.types.size := of_decide_eq_true (by kernel_rfl)
theorem D8 : Dat Try.prog 8 true [.int .i64, .int .i64, .bool, .int .u8] := .struct Try.underlying8 (.cons (l := [.int .i64]) (m := [.int .i64, .bool, .int .u8]) D2 (by kernel_rfl) (.cons (l := [.int .i64]) (m := [.bool, .int .u8]) D3 (by kernel_rfl) (.cons (l := [.bool]) (m := [.int .u8]) D4 (by kernel_rfl) (.cons (l := [.int .u8]) (m := []) D6 (by kernel_rfl) .nil)))) (by kernel_rfl) lt8
theorem lt9 : 9 < Try.prog.types.size := of_decide_eq_true (by kernel_rfl)
theorem D9 : Dat Try.prog 9 false [.str] := .str Try.underlying9 lt9
theorem lt10 : 10 < Try.prog.types.size := of_decide_eq_true (by kernel_rfl)
theorem D10 : Dat Try.prog 10 false [.str] := .str Try.underlying10 lt10
theorem lt11 : 11 < Try.prog.types.size := of_decide_eq_true (by kernel_rfl)
theorem D11 : Dat Try.prog 11 false [.str] := .str Try.underlying11 lt11
theorem lt12 : 12 < Try.prog.types.size := of_decide_eq_true (by kernel_rfl)
theorem D12 : Dat Try.prog 12 false [.int .u64] := .int Try.underlying12 lt12
theorem lt13 : 13 < Try.prog.types.size := of_decide_eq_true (by kernel_rfl)
theorem D13 : Dat Try.prog 13 true [.str, .int .u64] := .struct Try.underlying13 (.cons (l := [.str]) (m := [.int .u64]) D9 (by kernel_rfl) (.cons (l := [.int .u64]) (m := []) D12 (by kernel_rfl) .nil)) (by kernel_rfl) lt13
theorem lt14 : 14 < Try.prog.types.size := of_decide_eq_true (by kernel_rfl)
theorem D14 : Dat Try.prog 14 true [.str, .int .u64] := .struct Try.underlying14 (.cons (l := [.str]) (m := [.int .u64]) D9 (by kernel_rfl) (.cons (l := [.int .u64]) (m := []) D12 (by kernel_rfl) .nil)) (by kernel_rfl) lt14
theorem lt21 : 21 < Try.prog.types.size := of_decide_eq_true (by kernel_rfl)
theorem D21 : Dat Try.prog 21 false [.int .i32] := .int Try.underlying21 lt21
theorem lt22 : 22 < Try.prog.types.size := of_decide_eq_true (by kernel_rfl)
theorem D22 : Dat Try.prog 22 false [.list (.str)] := .slice (e := 9) (g := false) (l := [.str]) Try.underlying22 D9 (by kernel_rfl) (by decide) (of_decide_eq_true (by kernel_rfl)) lt22
theorem lt23 : 23 < Try.prog.types.size := of_decide_eq_true (by kernel_rfl)
theorem D23 : Dat Try.prog 23 true [.int .i64, .int .i64, .int .i64, .list (.str)] := .struct Try.underlying23 (.cons (l := [.int .i64]) (m := [.int .i64, .int .i64, .list (.str)]) D3 (by kernel_rfl) (.cons (l := [.int .i64]) (m := [.int .i64, .list (.str)]) D3 (by kernel_rfl) (.cons (l := [.int .i64]) (m := [.list (.str)]) D3 (by kernel_rfl) (.cons (l := [.list (.str)]) (m := []) D22 (by kernel_rfl) .nil)))) (by kernel_rfl) lt23
theorem lt24 : 24 < Try.prog.types.size := of_decide_eq_true (by kernel_rfl)
theorem D24 : Dat Try.prog 24 true [.int .i64, .int .i64, .int .i64, .list (.str)] := .struct Try.underlying24 (.cons (l := [.int .i64]) (m := [.int .i64, .int .i64, .list (.str)]) D3 (by kernel_rfl) (.cons (l := [.int .i64]) (m := [.int .i64, .list (.str)]) D3 (by kernel_rfl) (.cons (l := [.int .i64]) (m := [.list (.str)]) D3 (by kernel_rfl) (.cons (l := [.list (.str)]) (m := []) D22 (by kernel_rfl) .nil)))) (by kernel_rfl) lt24
theorem lt27 : 27 < Try.prog.types.size := of_decide_eq_true (by kernel_rfl)
theorem D27 : Dat Try.prog 27 true [.int .i64, .int .i64, .int .i64, .list (.str)] := .struct Try.underlying27 (.cons (l := [.int .i64]) (m := [.int .i64, .int .i64, .list (.str)]) D3 (by kernel_rfl) (.cons (l := [.int .i64]) (m := [.int .i64, .list (.str)]) D3 (by kernel_rfl) (.cons (l := [.int .i64]) (m := [.list (.str)]) D3 (by kernel_rfl) (.cons (l := [.list (.str)]) (m := []) D22 (by kernel_rfl) .nil)))) (by kernel_rfl) lt27
theorem lt78 : 78 < Try.prog.types.size := of_decide_eq_true (by kernel_rfl)
theorem D78 : Dat Try.prog 78 true [.int .i64, .str] := .struct Try.underlying78 (.cons (l := [.int .i64]) (m := [.str]) D3 (by kernel_rfl) (.cons (l := [.str]) (m := []) D9 (by kernel_rfl) .nil)) (by kernel_rfl) lt78
theorem lt31 : 31 < Try.prog.types.size := of_decide_eq_true (by kernel_rfl)
theorem D31 : Dat Try.prog 31 false [.list (.agg [.int .i64, .str])] := .slice (e := 78) (g := true) (l := [.int .i64, .str]) Try.underlying31 D78 (by kernel_rfl) (by decide) (of_decide_eq_true (by kernel_rfl)) lt31
theorem lt32 : 32 < Try.prog.types.size := of_decide_eq_true (by kernel_rfl)
theorem D32 : Dat Try.prog 32 true [.int .i64, .int .i64, .bool, .int .i64, .int .i64, .list (.agg [.int .i64, .str])] := .struct Try.underlying32 (.cons (l := [.int .i64]) (m := [.int .i64, .bool, .int .i64, .int .i64, .list (.agg [.int .i64, .str])]) D3 (by kernel_rfl) (.cons (l := [.int .i64]) (m := [.bool, .int .i64, .int .i64, .list (.agg [.int .i64, .str])]) D3 (by kernel_rfl) (.cons (l := [.bool]) (m := [.int .i64, .int .i64, .list (.agg [.int .i64, .str])]) D4 (by kernel_rfl) (.cons (l := [.int .i64]) (m := [.int .i64, .list (.agg [.int .i64, .str])]) D3 (by kernel_rfl) (.cons (l := [.int .i64]) (m := [.list (.agg [.int .i64, .str])]) D3 (by kernel_rfl) (.cons (l := [.list (.agg [.int .i64, .str])]) (m := []) D31 (by kernel_rfl) .nil)))))) (by kernel_rfl) lt32
theorem lt33 : 33 < Try.prog.types.size := of_decide_eq_true (by kernel_rfl)
theorem D33 : Dat Try.prog 33 true [.int .i64, .int .i64, .bool, .int .i64, .int .i64, .list (.agg [.int .i64, .str])] := .struct Try.underlying33 (.cons (l := [.int .i64]) (m := [.int .i64, .bool, .int .i64, .int .i64, .list (.agg [.int .i64, .str])]) D3 (by kernel_rfl) (.cons (l := [.int .i64]) (m := [.bool, .int .i64, .int .i64, .list (.agg [.int .i64, .str])]) D3 (by kernel_rfl) (.cons (l := [.bool]) (m := [.int .i64, .int .i64, .list (.agg [.int .i64, .str])]) D4 (by kernel_rfl) (.cons (l := [.int .i64]) (m := [.int .i64, .list (.agg [.int .i64, .str])]) D3 (by kernel_rfl) (.cons (l := [.int .i64]) (m := [.list (.agg [.int .i64, .str])]) D3 (by kernel_rfl) (.cons (l := [.list (.agg [.int .i64, .str])]) (m := []) D31 (by kernel_rfl) .nil)))))) (by kernel_rfl) lt33
theorem lt65 : 65 < Try.prog.types.size := of_decide_eq_true (by kernel_rfl)
theorem D65 : Dat Try.prog 65 true [.int .i64, .str] := .struct Try.underlying65 (.cons (l := [.int .i64]) (m := [.str]) D3 (by kernel_rfl) (.cons (l := [.str]) (m := []) D9 (by kernel_rfl) .nil)) (by kernel_rfl) lt65
theorem lt36 : 36 < Try.prog.types.size := of_decide_eq_true (by kernel_rfl)
theorem D36 : Dat Try.prog 36 false [.list (.agg [.int .i64, .str])] := .slice (e := 65) (g := true) (l := [.int .i64, .str]) Try.underlying36 D65 (by kernel_rfl) (by decide) (of_decide_eq_true (by kernel_rfl)) lt36
theorem lt37 : 37 < Try.prog.types.size := of_decide_eq_true (by kernel_rfl)
theorem D37 : Dat Try.prog 37 true [.int .i64, .int .i64, .bool, .int .i64, .int .i64, .list (.agg [.int .i64, .str])] := .struct Try.underlying37 (.cons (l := [.int .i64]) (m := [.int .i64, .bool, .int .i64, .int .i64, .list (.agg [.int .i64, .str])]) D3 (by kernel_rfl) (.cons (l := [.int .i64]) (m := [.bool, .int .i64, .int .i64, .list (.agg [.int .i64, .str])]) D3 (by kernel_rfl) (.cons (l := [.bool]) (m := [.int .i64, .int .i64, .list (.agg [.int .i64, .str])]) D4 (by kernel_rfl) (.cons (l := [.int .i64]) (m := [.int .i64, .list (.agg [.int .i64, .str])]) D3 (by kernel_rfl) (.cons (l := [.int .i64]) (m := [.list (.agg [.int .i64, .str])]) D3 (by kernel_rfl) (.cons (l := [.list (.agg [.int .i64, .str])]) (m := []) D36 (by kernel_rfl) .nil)))))) (by kernel_rfl) lt37
theorem lt38 : 38 < Try.prog.types.size := of_decide_eq_true (by kernel_rfl)
theorem D38 : Dat Try.prog 38 true [.int .i64, .int .i64, .bool, .int .i64, .int .i64, .list (.agg [.int .i64, .str])] := .struct Try.underlying38 (.cons (l := [.int .i64]) (m := [.int .i64, .bool, .int .i64, .int .i64, .list (.agg [.int .i64, .str])]) D3 (by kernel_rfl) (.cons (l := [.int .i64]) (m := [.bool, .int .i64, .int .i64, .list (.agg [.int .i64, .str])]) D3 (by kernel_rfl) (.cons (l := [.bool]) (m := [.int .i64, .int .i64, .list (.agg [.int .i64, .str])]) D4 (by kernel_rfl) (.cons (l := [.int .i64]) (m := [.int .i64, .list (.agg [.int .i64, .str])]) D3 (by kernel_rfl) (.cons (l := [.int .i64]) (m := [.list (.agg [.int .i64, .str])]) D3 (by kernel_rfl) (.cons (l := [.list (.agg [.int .i64, .str])]) (m := []) D36 (by kernel_rfl) .nil)))))) (by kernel_rfl) lt38
theorem lt51 : 51 < Try.prog.types.size := of_decide_eq_true (by kernel_rfl)
theorem D51 : Dat Try.prog 51 false [.list (.int .u8)] := .slice (e := 5) (g := false) (l := [.int .u8]) Try.underlying51 D5 (by kernel_rfl) (by decide) (of_decide_eq_true (by kernel_rfl)) lt51
theorem lt64 : 64 < Try.prog.types.size := of_decide_eq_true (by kernel_rfl)
theorem D64 : Dat Try.prog 64 true [.int .i64, .str] := .struct Try.underlying64 (.cons (l := [.int .i64]) (m := [.str]) D3 (by kernel_rfl) (.cons (l := [.str]) (m := []) D9 (by kernel_rfl) .nil)) (by kernel_rfl) lt64
theorem lt81 : 81 < Try.prog.types.size := of_decide_eq_true (by kernel_rfl)
theorem D81 : Dat Try.prog 81 true [.int .i64, .int .i64] := .struct Try.underlying81 (.cons (l := [.int .i64]) (m := [.int .i64]) D3 (by kernel_rfl) (.cons (l := [.int .i64]) (m := []) D3 (by kernel_rfl) .nil)) (by kernel_rfl) lt81
theorem lt82 : 82 < Try.prog.types.size := of_decide_eq_true (by kernel_rfl)
theorem D82 : Dat Try.prog 82 true [.int .i64, .int .i64] := .struct Try.underlying82 (.cons (l := [.int .i64]) (m := [.int .i64]) D3 (by kernel_rfl) (.cons (l := [.int .i64]) (m := []) D3 (by kernel_rfl) .nil)) (by kernel_rfl) lt82
theorem lt90 : 90 < Try.prog.types.size := of_decide_eq_true (by kernel_rfl)
theorem D90 : Dat Try.prog 90 false [.list (.int .i64)] := .slice (e := 3) (g := false) (l := [.int .i64]) Try.underlying90 D3 (by kernel_rfl) (by decide) (of_decide_eq_true (by kernel_rfl)) lt90
theorem lt97 : 97 < Try.prog.types.size := of_decide_eq_true (by kernel_rfl)
theorem D97 : Dat Try.prog 97 false [.int .u64] := .int Try.underlying97 lt97
theorem lt118 : 118 < Try.prog.types.size := of_decide_eq_true (by kernel_rfl)
theorem D118 : Dat Try.prog 118 false [.int .u32] := .int Try.underlying118 lt118
theorem lt119 : 119 < Try.prog.types.size := of_decide_eq_true (by kernel_rfl)
theorem D119 : Dat Try.prog 119 false [.int .u8] := .int Try.underlying119 lt119
theorem lt120 : 120 < Try.prog.types.size := of_decide_eq_true (by kernel_rfl)
theorem D120 : Dat Try.prog 120 false [.int .u8] := .int Try.underlying120 lt120
theorem lt122 : 122 < Try.prog.types.size := of_decide_eq_true (by kernel_rfl)
theorem D122 : Dat Try.prog 122 false [.int .i32] := .int Try.underlying122 lt122
theorem lt123 : 123 < Try.prog.types.size := of_decide_eq_true (by kernel_rfl)
theorem D123 : Dat Try.prog 123 false [.int .i32] := .int Try.underlying123 lt123

theorem dat_lt : ∀ t g l, Dat Try.prog t g l → t < Try.prog.types.size := fun _ _ _ h => h.lt
theorem laid_all : laidOutB Try.prog = true := by kernel_rfl
theorem rowed_all : mapsRowed Try.prog = true := by kernel_rfl
theorem slices_all : ((List.range Try.prog.types.size).all fun t => match Try.prog.underlying t with | some (.slice e) => decide (0 < Try.prog.cellsOf e) | _ => true) = true := by kernel_rfl
theorem own_knob : ownKnob Try.prog.godebug = none := by kernel_rfl

end Go.Proofs.Ytmjjdfhpnckacaa
