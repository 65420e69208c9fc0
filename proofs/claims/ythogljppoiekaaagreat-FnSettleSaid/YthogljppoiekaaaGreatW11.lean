/-
  Part 11: contracts of functions, and the laws by which they are proved.
  Conditions: none.
-/
import Derived.Test.YthogljppoiekaaaGreatW5
set_option linter.unusedVariables false
set_option linter.unusedSimpArgs false
set_option linter.unusedSectionVars false
set_option maxRecDepth 100000
namespace Go.Proofs.YthogljppoiekaaaGreat
section
variable [zS]
def zj:zJ:=⟨[(.rd,.agg [.int .i64,.int .i64,.int .i64,.int .i64,.int .i64,.bool,.list (.agg [.int .i64,.str]),.int .i64,.int .i64,.int .i64,.list (.int .i64),.list (.int .i64),.list (.int .i64)])],[.agg [.int .i64,.int .i64,.int .i64,.int .i64,.int .i64,.bool,.list (.agg [.int .i64,.str]),.int .i64,.int .i64,.int .i64,.list (.int .i64),.list (.int .i64),.list (.int .i64)]],true,fun ps=>(nth (nth ps 0).A 6).L.length≤1048576∧(nth (nth ps 0).A 10).L.length≤1048576∧(nth (nth ps 0).A 11).L.length≤1048576∧(nth (nth ps 0).A 12).L.length≤1048576,fun ps=>[nth ps 0],fun _=>[]⟩
end
end Go.Proofs.YthogljppoiekaaaGreat
