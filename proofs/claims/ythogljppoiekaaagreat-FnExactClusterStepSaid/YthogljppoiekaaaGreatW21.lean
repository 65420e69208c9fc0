/-
  Part 21: contracts of functions, and the laws by which they are proved.
  Conditions: none.
-/
import Derived.Test.YthogljppoiekaaaGreatW20
set_option linter.unusedVariables false
set_option linter.unusedSimpArgs false
set_option linter.unusedSectionVars false
set_option maxRecDepth 100000
namespace Go.Proofs.YthogljppoiekaaaGreat
section
variable [zS]
open Go.Shelf
def renI:Ren:=⟨fun f=>match f with | 21=>219 | 27=>233 | 28=>234 | 35=>242 | 39=>243 | f=>f,
 fun t=>match t with | 22=>30 | t=>t,fun g=>g⟩
theorem laysI:Lays2.n21 Tryz.prog renI where
 mixed:=mixed
 f21:=Tryz.func219.trans (congrArg some (by kernel_rfl))
 f27:=Tryz.func233.trans (congrArg some (by kernel_rfl))
 f28:=Tryz.func234.trans (congrArg some (by kernel_rfl))
 f35:=Tryz.func242.trans (congrArg some (by kernel_rfl))
 f39:=Tryz.func243.trans (congrArg some (by kernel_rfl))
 t0:=Tryz.underlying0
 a0:=Tryz.isAgg0
 z0:=Tryz.sizeOf0
 v0:=Tryz.zeroValue0
 t3:=Tryz.underlying3
 a3:=Tryz.isAgg3
 z3:=Tryz.sizeOf3
 v3:=Tryz.zeroValue3
 t4:=Tryz.underlying4
 a4:=Tryz.isAgg4
 z4:=Tryz.sizeOf4
 v4:=Tryz.zeroValue4
 t22:=Tryz.underlying30
 a22:=Tryz.isAgg30
 z22:=Tryz.sizeOf30
 v22:=Tryz.zeroValue30
 i3:=by kernel_rfl
theorem zZk:zh Tryz.prog 219 zGa:=⟨zTJ laysI,_,Tryz.func219,rfl,by decide⟩
end
end Go.Proofs.YthogljppoiekaaaGreat
