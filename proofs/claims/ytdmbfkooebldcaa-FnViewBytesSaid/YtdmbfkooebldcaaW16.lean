/-
  Part 16: contracts of functions, and the laws by which they are proved.
  Conditions: none.
-/
import Derived.Test.YtdmbfkooebldcaaW15
set_option linter.unusedVariables false
set_option linter.unusedSimpArgs false
set_option linter.unusedSectionVars false
set_option maxRecDepth 100000
namespace Go.Proofs.Ytdmbfkooebldcaa
section
variable [ze]
theorem lt5:5 < Try.prog.types.size:=of_decide_eq_true (by kernel_rfl)
theorem D5:Dat Try.prog 5 false [.int .u8]:=.int Try.underlying5 lt5
theorem lt22:22 < Try.prog.types.size:=of_decide_eq_true (by kernel_rfl)
theorem D22:Dat Try.prog 22 false [.list (.int .u8)]:=.slice (e:=5) (g:=false) (l:=[.int .u8]) Try.underlying22 D5 (by kernel_rfl) (by decide) (of_decide_eq_true (by kernel_rfl)) lt22
theorem dat_lt:∀t g l,Dat Try.prog t g l→t < Try.prog.types.size:=fun _ _ _ h=>h.lt
theorem laid_all:laidOutB Try.prog=true:=by kernel_rfl
theorem zSh:mapsRowed Try.prog=true:=by kernel_rfl
theorem zRz:((List.range Try.prog.types.size).all fun t=>match Try.prog.underlying t with | some (.slice e)=>decide (0 < Try.prog.cellsOf e) | _=>true)=true:=by kernel_rfl
theorem own_knob:ownKnob Try.prog.godebug=none:=by kernel_rfl
end
end Go.Proofs.Ytdmbfkooebldcaa
