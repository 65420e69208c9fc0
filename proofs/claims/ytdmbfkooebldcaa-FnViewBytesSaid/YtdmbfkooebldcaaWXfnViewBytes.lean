/-
  What FnViewBytes alone needs: contracts of functions and plain laws.
  Conditions: none.
-/
import Derived.Test.YtdmbfkooebldcaaW14
import Derived.Test.YtdmbfkooebldcaaW16
set_option linter.unusedVariables false
set_option linter.unusedSimpArgs false
set_option linter.unusedSectionVars false
set_option maxRecDepth 100000
namespace Go.Proofs.Ytdmbfkooebldcaa
end Go.Proofs.Ytdmbfkooebldcaa
