/-
  The types of data.
  Conditions: none.
-/
import Derived.Test.YtdbkjmigdabifaaDoorJoin
import Derived.Test.YtdbkjmigdabifaaDoorTab
namespace Go.Proofs.YtdbkjmigdabifaaDoor
set_option maxRecDepth 100000

theorem lt2 : 2 < Tryd.prog.types.size := of_decide_eq_true (by kernel_rfl)
theorem D2 : Dat Tryd.prog 2 false [.int .i64] := .int Tryd.underlying2 lt2
theorem lt3 : 3 < Tryd.prog.types.size := of_decide_eq_true (by kernel_rfl)
theorem D3 : Dat Tryd.prog 3 false [.int .i64] := .int Tryd.underlying3 lt3
theorem lt4 : 4 < Tryd.prog.types.size := of_decide_eq_true (by kernel_rfl)
theorem D4 : Dat Tryd.prog 4 false [.bool] := .bool Tryd.underlying4 lt4
theorem lt5 : 5 < Tryd.prog.types.size := of_decide_eq_true (by kernel_rfl)
theorem D5 : Dat Tryd.prog 5 false [.int .u8] := .int Tryd.underlying5 lt5
theorem lt6 : 6 < Tryd.prog.types.size := of_decide_eq_true (by kernel_rfl)
theorem D6 : Dat Tryd.prog 6 false [.int .u8] := .int Tryd.underlying6 lt6
theorem lt7 : 7 < Tryd.prog.types.size := of_decide_eq_true (by kernel_rfl)
theorem D7 : Dat Tryd.prog 7 true [.int .i64, .int .i64, .bool, .int .u8] := .struct Tryd.underlying7 (.cons (l := [.int .i64]) (m := [.int .i64, .bool, .int .u8]) D2 (by kernel_rfl) (.cons (l := [.int .i64]) (m := [.bool, .int .u8]) D3 (by kernel_rfl) (.cons (l := [.bool]) (m := [.int .u8]) D4 (by kernel_rfl) (.cons (l := [.int .u8]) (m := []) D6 (by kernel_rfl) .nil)))) (by kernel_rfl) lt7
theorem lt8 : 8 < Tryd.prog.types.size := of_decide_eq_true (by kernel_rfl)
theorem D8 : Dat Tryd.prog 8 true [.int .i64, .int .i64, .bool, .int .u8] := .struct Tryd.underlying8 (.cons (l := [.int .i64]) (m := [.int .i64, .bool, .int .u8]) D2 (by kernel_rfl) (.cons (l := [.int .i64]) (m := [.bool, .int .u8]) D3 (by kernel_rfl) (.cons (l := [.bool]) (m := [.int .u8]) D4 (by kernel_rfl) (.cons (l := [.int .u8]) (m := []) D6 (by kernel_rfl) .nil)))) (by kernel_rfl) lt8
theorem lt9 : 9 < Tryd.prog.types.size := of_decide_eq_true (by kernel_rfl)
theorem D9 : Dat Tryd.prog 9 false [.str] := .str Tryd.underlying9 lt9
theorem lt10 : 10 < Tryd.prog.types.size := of_decide_eq_true (by kernel_rfl)
theorem D10 : Dat Tryd.prog 10 false [.str] := .str Tryd.underlying10 lt10
theorem lt11 : 11 < Tryd.prog.types.size := of_decide_eq_true (by kernel_rfl)
theorem D11 : Dat Tryd.prog 11 false [.str] := .str Tryd.underlying11 lt11
theorem lt12 : 12 < Tryd.prog.types.size := of_decide_eq_true (by kernel_rfl)
theorem D12 : Dat Tryd.prog 12 false [.int .u64] := .int Tryd.underlying12 lt12
theorem lt13 : 13 < Tryd.prog.types.size := of_decide_eq_true (by kernel_rfl)
theorem D13 : Dat Tryd.prog 13 true [.str, .int .u64] := .struct Tryd.underlying13 (.cons (l := [.str]) (m := [.int .u64]) D9 (by kernel_rfl) (.cons (l := [.int .u64]) (m := []) D12 (by kernel_rfl) .nil)) (by kernel_rfl) lt13
theorem lt14 : 14 < Tryd.prog.types.size := of_decide_eq_true (by kernel_rfl)
theorem D14 : Dat Tryd.prog 14 true [.str, .int .u64] := .struct Tryd.underlying14 (.cons (l := [.str]) (m := [.int .u64]) D9 (by kernel_rfl) (.cons (l := [.int .u64]) (m := []) D12 (by kernel_rfl) .nil)) (by kernel_rfl) lt14
theorem lt21 : 21 < Tryd.prog.types.size := of_decide_eq_true (by kernel_rfl)
theorem D21 : Dat Tryd.prog 21 false [.int .i32] := .int Tryd.underlying21 lt21
theorem lt22 : 22 < Tryd.prog.types.size := of_decide_eq_true (by kernel_rfl)
theorem D22 : Dat Tryd.prog 22 false [.list (.str)] := .slice (e := 9) (g := false) (l := [.str]) Tryd.underlying22 D9 (by kernel_rfl) (by decide) (of_decide_eq_true (by kernel_rfl)) lt22
theorem lt23 : 23 < Tryd.prog.types.size := of_decide_eq_true (by kernel_rfl)
theorem D23 : Dat Tryd.prog 23 true [.int .i64, .int .i64, .int .i64, .list (.str)] := .struct Tryd.underlying23 (.cons (l := [.int .i64]) (m := [.int .i64, .int .i64, .list (.str)]) D3 (by kernel_rfl) (.cons (l := [.int .i64]) (m := [.int .i64, .list (.str)]) D3 (by kernel_rfl) (.cons (l := [.int .i64]) (m := [.list (.str)]) D3 (by kernel_rfl) (.cons (l := [.list (.str)]) (m := []) D22 (by kernel_rfl) .nil)))) (by kernel_rfl) lt23
theorem lt24 : 24 < Tryd.prog.types.size := of_decide_eq_true (by kernel_rfl)
theorem D24 : Dat Tryd.prog 24 true [.int .i64, .int .i64, .int .i64, .list (.str)] := .struct Tryd.underlying24 (.cons (l := [.int .i64]) (m := [.int .i64, .int .i64, .list (.str)]) D3 (by kernel_rfl) (.cons (l := [.int .i64]) (m := [.int .i64, .list (.str)]) D3 (by kernel_rfl) (.cons (l := [.int .i64]) (m := [.list (.str)]) D3 (by kernel_rfl) (.cons (l := [.list (.str)]) (m := []) D22 (by kernel_rfl) .nil)))) (by kernel_rfl) lt24
theorem lt28 : 28 < Tryd.prog.types.size := of_decide_eq_true (by kernel_rfl)
theorem D28 : Dat Tryd.prog 28 true [.int .i64, .int .i64, .int .i64, .list (.str)] := .struct Tryd.underlying28 (.cons (l := [.int .i64]) (m := [.int .i64, .int .i64, .list (.str)]) D3 (by kernel_rfl) (.cons (l := [.int .i64]) (m := [.int .i64, .list (.str)]) D3 (by kernel_rfl) (.cons (l := [.int .i64]) (m := [.list (.str)]) D3 (by kernel_rfl) (.cons (l := [.list (.str)]) (m := []) D22 (by kernel_rfl) .nil)))) (by kernel_rfl) lt28
theorem lt38 : 38 < Tryd.prog.types.size := of_decide_eq_true (by kernel_rfl)
theorem D38 : Dat Tryd.prog 38 true [.int .i64, .str, .str, .int .i64, .int .i64, .int .i64, .list (.str)] := .struct Tryd.underlying38 (.cons (l := [.int .i64]) (m := [.str, .str, .int .i64, .int .i64, .int .i64, .list (.str)]) D3 (by kernel_rfl) (.cons (l := [.str]) (m := [.str, .int .i64, .int .i64, .int .i64, .list (.str)]) D9 (by kernel_rfl) (.cons (l := [.str]) (m := [.int .i64, .int .i64, .int .i64, .list (.str)]) D9 (by kernel_rfl) (.cons (l := [.int .i64, .int .i64, .int .i64, .list (.str)]) (m := []) D28 (by kernel_rfl) .nil)))) (by kernel_rfl) lt38
theorem lt39 : 39 < Tryd.prog.types.size := of_decide_eq_true (by kernel_rfl)
theorem D39 : Dat Tryd.prog 39 true [.int .i64, .str, .str, .int .i64, .int .i64, .int .i64, .list (.str)] := .struct Tryd.underlying39 (.cons (l := [.int .i64]) (m := [.str, .str, .int .i64, .int .i64, .int .i64, .list (.str)]) D3 (by kernel_rfl) (.cons (l := [.str]) (m := [.str, .int .i64, .int .i64, .int .i64, .list (.str)]) D9 (by kernel_rfl) (.cons (l := [.str]) (m := [.int .i64, .int .i64, .int .i64, .list (.str)]) D9 (by kernel_rfl) (.cons (l := [.int .i64, .int .i64, .int .i64, .list (.str)]) (m := []) D28 (by kernel_rfl) .nil)))) (by kernel_rfl) lt39
theorem lt45 : 45 < Tryd.prog.types.size := of_decide_eq_true (by kernel_rfl)
theorem D45 : Dat Tryd.prog 45 true [.int .i64, .str, .str, .int .i64, .int .i64, .int .i64, .list (.str)] := .struct Tryd.underlying45 (.cons (l := [.int .i64]) (m := [.str, .str, .int .i64, .int .i64, .int .i64, .list (.str)]) D3 (by kernel_rfl) (.cons (l := [.str]) (m := [.str, .int .i64, .int .i64, .int .i64, .list (.str)]) D9 (by kernel_rfl) (.cons (l := [.str]) (m := [.int .i64, .int .i64, .int .i64, .list (.str)]) D9 (by kernel_rfl) (.cons (l := [.int .i64, .int .i64, .int .i64, .list (.str)]) (m := []) D24 (by kernel_rfl) .nil)))) (by kernel_rfl) lt45
theorem lt46 : 46 < Tryd.prog.types.size := of_decide_eq_true (by kernel_rfl)
theorem D46 : Dat Tryd.prog 46 true [.int .i64, .str, .str, .int .i64, .int .i64, .int .i64, .list (.str)] := .struct Tryd.underlying46 (.cons (l := [.int .i64]) (m := [.str, .str, .int .i64, .int .i64, .int .i64, .list (.str)]) D3 (by kernel_rfl) (.cons (l := [.str]) (m := [.str, .int .i64, .int .i64, .int .i64, .list (.str)]) D9 (by kernel_rfl) (.cons (l := [.str]) (m := [.int .i64, .int .i64, .int .i64, .list (.str)]) D9 (by kernel_rfl) (.cons (l := [.int .i64, .int .i64, .int .i64, .list (.str)]) (m := []) D24 (by kernel_rfl) .nil)))) (by kernel_rfl) lt46
theorem lt68 : 68 < Tryd.prog.types.size := of_decide_eq_true (by kernel_rfl)
theorem D68 : Dat Tryd.prog 68 false [.list (.int .u8)] := .slice (e := 5) (g := false) (l := [.int .u8]) Tryd.underlying68 D5 (by kernel_rfl) (by decide) (of_decide_eq_true (by kernel_rfl)) lt68
theorem lt77 : 77 < Tryd.prog.types.size := of_decide_eq_true (by kernel_rfl)
theorem D77 : Dat Tryd.prog 77 false [.list (.int .i64)] := .slice (e := 3) (g := false) (l := [.int .i64]) Tryd.underlying77 D3 (by kernel_rfl) (by decide) (of_decide_eq_true (by kernel_rfl)) lt77
theorem lt83 : 83 < Tryd.prog.types.size := of_decide_eq_true (by kernel_rfl)
theorem D83 : Dat Tryd.prog 83 false [.int .u64] := .int Tryd.underlying83 lt83
theorem lt95 : 95 < Tryd.prog.types.size := of_decide_eq_true (by kernel_rfl)
theorem D95 : Dat Tryd.prog 95 true [.int .i64, .int .i64] := .struct Tryd.underlying95 (.cons (l := [.int .i64]) (m := [.int .i64]) D3 (by kernel_rfl) (.cons (l := [.int .i64]) (m := []) D3 (by kernel_rfl) .nil)) (by kernel_rfl) lt95
theorem lt96 : 96 < Tryd.prog.types.size := of_decide_eq_true (by kernel_rfl)
theorem D96 : Dat Tryd.prog 96 true [.int .i64, .int .i64] := .struct Tryd.underlying96 (.cons (l := [.int .i64]) (m := [.int .i64]) D3 (by kernel_rfl) (.cons (l := [.int .i64]) (m := []) D3 (by kernel_rfl) .nil)) (by kernel_rfl) lt96
theorem lt100 : 100 < Tryd.prog.types.size := of_decide_eq_true (by kernel_rfl)
theorem D100 : Dat Tryd.prog 100 false [.int .u32] := .int Tryd.underlying100 lt100
theorem lt105 : 105 < Tryd.prog.types.size := of_decide_eq_true (by kernel_rfl)
theorem D105 : Dat Tryd.prog 105 false [.list (.int .u32)] := .slice (e := 100) (g := false) (l := [.int .u32]) Tryd.underlying105 D100 (by kernel_rfl) (by decide) (of_decide_eq_true (by kernel_rfl)) lt105
theorem lt125 : 125 < Tryd.prog.types.size := of_decide_eq_true (by kernel_rfl)
theorem D125 : Dat Tryd.prog 125 false [.int .u64] := .int Tryd.underlying125 lt125
theorem lt143 : 143 < Tryd.prog.types.size := of_decide_eq_true (by kernel_rfl)
theorem D143 : Dat Tryd.prog 143 true [.int .u8, .int .u8] := .struct Tryd.underlying143 (.cons (l := [.int .u8]) (m := [.int .u8]) D5 (by kernel_rfl) (.cons (l := [.int .u8]) (m := []) D5 (by kernel_rfl) .nil)) (by kernel_rfl) lt143
theorem lt144 : 144 < Tryd.prog.types.size := of_decide_eq_true (by kernel_rfl)
theorem D144 : Dat Tryd.prog 144 true [.int .u8, .int .u8] := .struct Tryd.underlying144 (.cons (l := [.int .u8]) (m := [.int .u8]) D5 (by kernel_rfl) (.cons (l := [.int .u8]) (m := []) D5 (by kernel_rfl) .nil)) (by kernel_rfl) lt144
theorem lt155 : 155 < Tryd.prog.types.size := of_decide_eq_true (by kernel_rfl)
theorem D155 : Dat Tryd.prog 155 false [.int .u8] := .int Tryd.underlying155 lt155
theorem lt156 : 156 < Tryd.prog.types.size := of_decide_eq_true (by kernel_rfl)
theorem D156 : Dat Tryd.prog 156 false [.int .u8] := .int Tryd.underlying156 lt156
theorem lt158 : 158 < Tryd.prog.types.size := of_decide_eq_true (by kernel_rfl)
theorem D158 : Dat Tryd.prog 158 false [.int .i32] := .int Tryd.underlying158 lt158
theorem lt159 : 159 < Tryd.prog.types.size := of_decide_eq_true (by kernel_rfl)
theorem D159 : Dat Tryd.prog 159 false [.int .i32] := .int Tryd.underlying159 lt159

theorem dat_lt : ∀ t g l, Dat Tryd.prog t g l → t < Tryd.prog.types.size := fun _ _ _ h => h.lt
theorem laid_all : laidOutB Tryd.prog = true := by kernel_rfl
theorem rowed_all : mapsRowed Tryd.prog = true := by kernel_rfl
theorem slices_all : ((List.range Tryd.prog.types.size).all fun t => match Tryd.prog.underlying t with | some (.slice e) => decide (0 < Tryd.prog.cellsOf e) | _ => true) = true := by kernel_rfl
theorem own_knob : ownKnob Tryd.prog.godebug = none := by kernel_rfl

end Go.Proofs.YtdbkjmigdabifaaDoor
