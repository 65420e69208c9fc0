/-
  Part 7: contracts of functions, and the laws by which they are proved.
  Conditions: none.
-/
import Derived.Test.YtdmbfkooebldcaaW6
set_option linter.unusedVariables false
set_option linter.unusedSimpArgs false
set_option linter.unusedSectionVars false
set_option maxRecDepth 100000
namespace Go.Proofs.Ytdmbfkooebldcaa
section
variable [ze]
structure MR where
 n:Int
 w:Int
 h:Int
 r:List PV
def MR.pv(m:MR):PV:=.agg [.int .i64 m.n,.int .i64 m.w,.int .i64 m.h,.list m.r]
def MR.no:MR:=⟨0,0,0,[]⟩
end
end Go.Proofs.Ytdmbfkooebldcaa
