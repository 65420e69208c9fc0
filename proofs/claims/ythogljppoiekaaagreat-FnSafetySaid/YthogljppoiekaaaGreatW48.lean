/-
  Part 48: contracts of functions, and the laws by which they are proved.
  Conditions: none.
-/
import Derived.Test.YthogljppoiekaaaGreatW47
set_option linter.unusedVariables false
set_option linter.unusedSimpArgs false
set_option linter.unusedSectionVars false
set_option maxRecDepth 100000
namespace Go.Proofs.YthogljppoiekaaaGreat
section
variable [zS]
theorem dat_lt:∀t g l,Dat Tryz.prog t g l→t < Tryz.prog.types.size:=fun _ _ _ h=>h.lt
theorem laid_all:laidOutB Tryz.prog=true:=by kernel_rfl
theorem zel:mapsRowed Tryz.prog=true:=by kernel_rfl
theorem zdk:((List.range Tryz.prog.types.size).all fun t=>match Tryz.prog.underlying t with | some (.slice e)=>decide (0 < Tryz.prog.cellsOf e) | _=>true)=true:=by kernel_rfl
theorem own_knob:ownKnob Tryz.prog.godebug=none:=by kernel_rfl
end
end Go.Proofs.YthogljppoiekaaaGreat
