/-
  Part 46: contracts of functions, and the laws by which they are proved.
  Conditions: none.
-/
import Derived.Test.YthogljppoiekaaaGreatW25
import Derived.Test.YthogljppoiekaaaGreatW31
import Derived.Test.YthogljppoiekaaaGreatW37
import Derived.Test.YthogljppoiekaaaGreatW38
set_option linter.unusedVariables false
set_option linter.unusedSimpArgs false
set_option linter.unusedSectionVars false
set_option maxRecDepth 100000
namespace Go.Proofs.YthogljppoiekaaaGreat
section
variable [zS]
def clO:CL:=⟨[],[],[],[]⟩
end
end Go.Proofs.YthogljppoiekaaaGreat
