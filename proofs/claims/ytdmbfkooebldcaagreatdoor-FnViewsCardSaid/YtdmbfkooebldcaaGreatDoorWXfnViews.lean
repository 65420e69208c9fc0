/-
  What FnViews alone needs: contracts of functions and plain laws.
  Conditions: none.
-/
import Derived.Test.YtdmbfkooebldcaaGreatDoorW13
import Derived.Test.YtdmbfkooebldcaaGreatDoorW15
set_option linter.unusedVariables false
set_option linter.unusedSimpArgs false
set_option linter.unusedSectionVars false
set_option maxRecDepth 100000
namespace Go.Proofs.YtdmbfkooebldcaaGreatDoor
end Go.Proofs.YtdmbfkooebldcaaGreatDoor
