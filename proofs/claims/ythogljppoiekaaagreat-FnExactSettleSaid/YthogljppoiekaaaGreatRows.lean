/-
  No cell of these rows narrows 'for every input' (looked for: loops, veiled, ifaces, maps, wideKeys, modest, calm, conditions, laid).
  DERIVED. THE GIVEN ROWS OF THIS SEAT. 8 by the template 'for every input the law returns true; each argument reads behind the call as it read before'; 0 by the template 'total and deterministic' (their statements: YthogljppoiekaaaGreatTotals.lean).
  GIVEN WITH THE SEED: the statements are not yours to turn. If you find one false, say at which input.
  Laid BY PROGRAM, IN A SANDBOX (cutbox-rows.mjs): the forced cells as the released guide's own fill.sh prints them over the translation 834495d422bb94a0… (all of the seat's roots in one cut). By AI agents, Wed Nov 11 2026. No macro, syntax, notation, axiom, sorry.
-/
import Derived.Test.YthogljppoiekaaaGreatChecked
import GoSem.Claim
import GoSem.ClaimJoined
import GoSem.ClaimMapViews
import Derived.JoinedTies
import Derived.KernelRfl
namespace Go.Proofs.YthogljppoiekaaaGreat
/- THE CELL 'sum', in the pinned program and in every row, IS THE sha256 OF THE DUMP (.gsa) THAT YthogljppoiekaaaGreatProg.lean LOADS. Nothing in Lean hashes anything: it is a label: what it is worth is what the hold of that sum in a sandbox is worth. -/
noncomputable def Tryz.pinned : Pinned := { name := "ythogljppoiekaaagreat", sum := "834495d422bb94a09f545ae74ab4ff3b7921d5c2b8206821b540d1eb84d175b2", checked := Tryz.checked }
namespace Rows
def none {H : Type} : Left H := { results := [], args := [] }

/-- 'laws.FnExactClusterRun': WHATEVER THE INPUT: true; the input reads as it did. -/
def fnExactClusterRunSpec : ChangeSpec := { name := "fnExactClusterRun", fn := fun _ => fun
  | [d1, d2] => { results := [.lit (.bool true)], args := [d1, d2] }
  | _ => none }
def fnExactClusterRunRow : OpenClaim := { program := "ythogljppoiekaaagreat", sum := "834495d422bb94a09f545ae74ab4ff3b7921d5c2b8206821b540d1eb84d175b2", func := "loop.example/g00308/laws.FnExactClusterRun", spec := "fnExactClusterRun", inPlace := ["slices.overlaps[int]", "internal/abi.NoEscape"], unfollowed := true, recurses := true, apart := false }
def FnExactClusterRunSaid : Prop := fnExactClusterRunRow.holds Tryz.pinned (OpenSpec.ofChange fnExactClusterRunSpec)

/-- ITS FALSE NEIGHBOUR: 'it returns false'. Refute it at one input. -/
def fnExactClusterRunWrong : ChangeSpec := { name := "fnExactClusterRun", fn := fun _ => fun
  | [d1, d2] => { results := [.lit (.bool false)], args := [d1, d2] }
  | _ => none }
def FnExactClusterRunWrongFalsely : Prop := fnExactClusterRunRow.holds Tryz.pinned (OpenSpec.ofChange fnExactClusterRunWrong)

/-- 'laws.FnExactClusterStep': WHATEVER THE INPUT: true; the input reads as it did. -/
def fnExactClusterStepSpec : ChangeSpec := { name := "fnExactClusterStep", fn := fun _ => fun
  | [d1, d2] => { results := [.lit (.bool true)], args := [d1, d2] }
  | _ => none }
def fnExactClusterStepRow : OpenClaim := { program := "ythogljppoiekaaagreat", sum := "834495d422bb94a09f545ae74ab4ff3b7921d5c2b8206821b540d1eb84d175b2", func := "loop.example/g00308/laws.FnExactClusterStep", spec := "fnExactClusterStep", inPlace := ["slices.overlaps[int]", "internal/abi.NoEscape"], unfollowed := true, recurses := true, apart := false }
def FnExactClusterStepSaid : Prop := fnExactClusterStepRow.holds Tryz.pinned (OpenSpec.ofChange fnExactClusterStepSpec)

/-- ITS FALSE NEIGHBOUR: 'it returns false'. Refute it at one input. -/
def fnExactClusterStepWrong : ChangeSpec := { name := "fnExactClusterStep", fn := fun _ => fun
  | [d1, d2] => { results := [.lit (.bool false)], args := [d1, d2] }
  | _ => none }
def FnExactClusterStepWrongFalsely : Prop := fnExactClusterStepRow.holds Tryz.pinned (OpenSpec.ofChange fnExactClusterStepWrong)

/-- 'laws.FnExactSettle': WHATEVER THE INPUT: true; the input reads as it did. -/
def fnExactSettleSpec : ChangeSpec := { name := "fnExactSettle", fn := fun _ => fun
  | [d1, d2] => { results := [.lit (.bool true)], args := [d1, d2] }
  | _ => none }
def fnExactSettleRow : OpenClaim := { program := "ythogljppoiekaaagreat", sum := "834495d422bb94a09f545ae74ab4ff3b7921d5c2b8206821b540d1eb84d175b2", func := "loop.example/g00308/laws.FnExactSettle", spec := "fnExactSettle", inPlace := ["slices.overlaps[int]", "internal/abi.NoEscape"], unfollowed := true, recurses := true, apart := false }
def FnExactSettleSaid : Prop := fnExactSettleRow.holds Tryz.pinned (OpenSpec.ofChange fnExactSettleSpec)

/-- ITS FALSE NEIGHBOUR: 'it returns false'. Refute it at one input. -/
def fnExactSettleWrong : ChangeSpec := { name := "fnExactSettle", fn := fun _ => fun
  | [d1, d2] => { results := [.lit (.bool false)], args := [d1, d2] }
  | _ => none }
def FnExactSettleWrongFalsely : Prop := fnExactSettleRow.holds Tryz.pinned (OpenSpec.ofChange fnExactSettleWrong)

/-- 'laws.FnGrows': WHATEVER THE INPUT: true; the input reads as it did. -/
def fnGrowsSpec : ChangeSpec := { name := "fnGrows", fn := fun _ => fun
  | [d1, d2] => { results := [.lit (.bool true)], args := [d1, d2] }
  | _ => none }
def fnGrowsRow : OpenClaim := { program := "ythogljppoiekaaagreat", sum := "834495d422bb94a09f545ae74ab4ff3b7921d5c2b8206821b540d1eb84d175b2", func := "loop.example/g00308/laws.FnGrows", spec := "fnGrows", inPlace := ["slices.overlaps[int]", "internal/abi.NoEscape"], unfollowed := true, recurses := true, apart := false }
def FnGrowsSaid : Prop := fnGrowsRow.holds Tryz.pinned (OpenSpec.ofChange fnGrowsSpec)

/-- ITS FALSE NEIGHBOUR: 'it returns false'. Refute it at one input. -/
def fnGrowsWrong : ChangeSpec := { name := "fnGrows", fn := fun _ => fun
  | [d1, d2] => { results := [.lit (.bool false)], args := [d1, d2] }
  | _ => none }
def FnGrowsWrongFalsely : Prop := fnGrowsRow.holds Tryz.pinned (OpenSpec.ofChange fnGrowsWrong)

/-- 'laws.FnDurable': WHATEVER THE INPUT: true; the input reads as it did. -/
def fnDurableSpec : ChangeSpec := { name := "fnDurable", fn := fun _ => fun
  | [d1, d2] => { results := [.lit (.bool true)], args := [d1, d2] }
  | _ => none }
def fnDurableRow : OpenClaim := { program := "ythogljppoiekaaagreat", sum := "834495d422bb94a09f545ae74ab4ff3b7921d5c2b8206821b540d1eb84d175b2", func := "loop.example/g00308/laws.FnDurable", spec := "fnDurable", inPlace := ["slices.overlaps[int]", "internal/abi.NoEscape"], unfollowed := true, recurses := true, apart := false }
def FnDurableSaid : Prop := fnDurableRow.holds Tryz.pinned (OpenSpec.ofChange fnDurableSpec)

/-- ITS FALSE NEIGHBOUR: 'it returns false'. Refute it at one input. -/
def fnDurableWrong : ChangeSpec := { name := "fnDurable", fn := fun _ => fun
  | [d1, d2] => { results := [.lit (.bool false)], args := [d1, d2] }
  | _ => none }
def FnDurableWrongFalsely : Prop := fnDurableRow.holds Tryz.pinned (OpenSpec.ofChange fnDurableWrong)

/-- 'laws.FnSettle': WHATEVER THE INPUT: true; the input reads as it did. -/
def fnSettleSpec : ChangeSpec := { name := "fnSettle", fn := fun _ => fun
  | [d1, d2] => { results := [.lit (.bool true)], args := [d1, d2] }
  | _ => none }
def fnSettleRow : OpenClaim := { program := "ythogljppoiekaaagreat", sum := "834495d422bb94a09f545ae74ab4ff3b7921d5c2b8206821b540d1eb84d175b2", func := "loop.example/g00308/laws.FnSettle", spec := "fnSettle", inPlace := ["slices.overlaps[int]", "internal/abi.NoEscape"], unfollowed := true, recurses := true, apart := false }
def FnSettleSaid : Prop := fnSettleRow.holds Tryz.pinned (OpenSpec.ofChange fnSettleSpec)

/-- ITS FALSE NEIGHBOUR: 'it returns false'. Refute it at one input. -/
def fnSettleWrong : ChangeSpec := { name := "fnSettle", fn := fun _ => fun
  | [d1, d2] => { results := [.lit (.bool false)], args := [d1, d2] }
  | _ => none }
def FnSettleWrongFalsely : Prop := fnSettleRow.holds Tryz.pinned (OpenSpec.ofChange fnSettleWrong)

/-- 'laws.FnSafety': WHATEVER THE INPUT: true; the input reads as it did. -/
def fnSafetySpec : ChangeSpec := { name := "fnSafety", fn := fun _ => fun
  | [d1, d2] => { results := [.lit (.bool true)], args := [d1, d2] }
  | _ => none }
def fnSafetyRow : OpenClaim := { program := "ythogljppoiekaaagreat", sum := "834495d422bb94a09f545ae74ab4ff3b7921d5c2b8206821b540d1eb84d175b2", func := "loop.example/g00308/laws.FnSafety", spec := "fnSafety", inPlace := ["slices.overlaps[int]", "internal/abi.NoEscape"], unfollowed := true, recurses := true, apart := false }
def FnSafetySaid : Prop := fnSafetyRow.holds Tryz.pinned (OpenSpec.ofChange fnSafetySpec)

/-- ITS FALSE NEIGHBOUR: 'it returns false'. Refute it at one input. -/
def fnSafetyWrong : ChangeSpec := { name := "fnSafety", fn := fun _ => fun
  | [d1, d2] => { results := [.lit (.bool false)], args := [d1, d2] }
  | _ => none }
def FnSafetyWrongFalsely : Prop := fnSafetyRow.holds Tryz.pinned (OpenSpec.ofChange fnSafetyWrong)

/-- 'laws.FnQuiet': WHATEVER THE INPUT: true; the input reads as it did. -/
def fnQuietSpec : ChangeSpec := { name := "fnQuiet", fn := fun _ => fun
  | [d1, d2] => { results := [.lit (.bool true)], args := [d1, d2] }
  | _ => none }
def fnQuietRow : OpenClaim := { program := "ythogljppoiekaaagreat", sum := "834495d422bb94a09f545ae74ab4ff3b7921d5c2b8206821b540d1eb84d175b2", func := "loop.example/g00308/laws.FnQuiet", spec := "fnQuiet", inPlace := ["slices.overlaps[int]", "internal/abi.NoEscape"], unfollowed := true, recurses := true, apart := false }
def FnQuietSaid : Prop := fnQuietRow.holds Tryz.pinned (OpenSpec.ofChange fnQuietSpec)

/-- ITS FALSE NEIGHBOUR: 'it returns false'. Refute it at one input. -/
def fnQuietWrong : ChangeSpec := { name := "fnQuiet", fn := fun _ => fun
  | [d1, d2] => { results := [.lit (.bool false)], args := [d1, d2] }
  | _ => none }
def FnQuietWrongFalsely : Prop := fnQuietRow.holds Tryz.pinned (OpenSpec.ofChange fnQuietWrong)

/- THE SECOND FORM. 'bulk': how many values and letters a reading holds, each counted each time it is reached (what is shared counts as often as it is met; a slice's spare places count too). A statement '..UptoSaid' is the law's where the arguments, and the package variables that the reading takes, are together of bulk at most 1048576: NARROWER than '..Said'. Prove '..Said' where nothing that the law and all that it calls make is longer than what came in: it says more and counts as full. Else prove '..UptoSaid'. A law counts once. -/
mutual
def uptoBulk {H : Type} : DataW H → Nat
  | .lit (.string bytes) => bytes.length + 1
  | .lit _ => 1
  | .nil => 1
  | .ptr d => uptoBulk d + 1
  | .slice elems spare => uptoBulkAll elems + uptoBulkAll spare + 1
  | .agg parts => uptoBulkAll parts + 1
  | .iface _ d => uptoBulk d + 1
  | .map entries => uptoBulkEntries entries + 1
  | .held _ => 1
def uptoBulkAll {H : Type} : List (DataW H) → Nat
  | [] => 0
  | d :: r => uptoBulk d + uptoBulkAll r
def uptoBulkEntries {H : Type} : List (Lit × DataW H) → Nat
  | [] => 0
  | x :: r => uptoBulkEntry x + uptoBulkEntries r
def uptoBulkEntry {H : Type} : Lit × DataW H → Nat
  | (.string bytes, d) => bytes.length + uptoBulk d + 1
  | (_, d) => uptoBulk d + 1
 end
def uptoSmall : (H : Type) → List (DataW H) → Bool := fun _ ds => decide (uptoBulkAll ds ≤ 1048576)
def OpenSpec.upto (s : _root_.Go.ChangeSpec) : _root_.Go.OpenSpec := { _root_.Go.OpenSpec.ofChange s with cond := some uptoSmall }

/-- 'laws.FnExactClusterRun', WHERE WHAT IT READS IS OF BULK AT MOST 1048576: true; the input reads as it did. -/
def fnExactClusterRunUptoRow : OpenClaim := { program := "ythogljppoiekaaagreat", sum := "834495d422bb94a09f545ae74ab4ff3b7921d5c2b8206821b540d1eb84d175b2", func := "loop.example/g00308/laws.FnExactClusterRun", spec := "fnExactClusterRun", inPlace := ["slices.overlaps[int]", "internal/abi.NoEscape"], unfollowed := true, recurses := true, apart := false, narrowed := true }
def FnExactClusterRunUptoSaid : Prop := fnExactClusterRunUptoRow.holds Tryz.pinned (OpenSpec.upto fnExactClusterRunSpec)

/-- 'laws.FnExactClusterStep', WHERE WHAT IT READS IS OF BULK AT MOST 1048576: true; the input reads as it did. -/
def fnExactClusterStepUptoRow : OpenClaim := { program := "ythogljppoiekaaagreat", sum := "834495d422bb94a09f545ae74ab4ff3b7921d5c2b8206821b540d1eb84d175b2", func := "loop.example/g00308/laws.FnExactClusterStep", spec := "fnExactClusterStep", inPlace := ["slices.overlaps[int]", "internal/abi.NoEscape"], unfollowed := true, recurses := true, apart := false, narrowed := true }
def FnExactClusterStepUptoSaid : Prop := fnExactClusterStepUptoRow.holds Tryz.pinned (OpenSpec.upto fnExactClusterStepSpec)

/-- 'laws.FnExactSettle', WHERE WHAT IT READS IS OF BULK AT MOST 1048576: true; the input reads as it did. -/
def fnExactSettleUptoRow : OpenClaim := { program := "ythogljppoiekaaagreat", sum := "834495d422bb94a09f545ae74ab4ff3b7921d5c2b8206821b540d1eb84d175b2", func := "loop.example/g00308/laws.FnExactSettle", spec := "fnExactSettle", inPlace := ["slices.overlaps[int]", "internal/abi.NoEscape"], unfollowed := true, recurses := true, apart := false, narrowed := true }
def FnExactSettleUptoSaid : Prop := fnExactSettleUptoRow.holds Tryz.pinned (OpenSpec.upto fnExactSettleSpec)

/-- 'laws.FnGrows', WHERE WHAT IT READS IS OF BULK AT MOST 1048576: true; the input reads as it did. -/
def fnGrowsUptoRow : OpenClaim := { program := "ythogljppoiekaaagreat", sum := "834495d422bb94a09f545ae74ab4ff3b7921d5c2b8206821b540d1eb84d175b2", func := "loop.example/g00308/laws.FnGrows", spec := "fnGrows", inPlace := ["slices.overlaps[int]", "internal/abi.NoEscape"], unfollowed := true, recurses := true, apart := false, narrowed := true }
def FnGrowsUptoSaid : Prop := fnGrowsUptoRow.holds Tryz.pinned (OpenSpec.upto fnGrowsSpec)

/-- 'laws.FnDurable', WHERE WHAT IT READS IS OF BULK AT MOST 1048576: true; the input reads as it did. -/
def fnDurableUptoRow : OpenClaim := { program := "ythogljppoiekaaagreat", sum := "834495d422bb94a09f545ae74ab4ff3b7921d5c2b8206821b540d1eb84d175b2", func := "loop.example/g00308/laws.FnDurable", spec := "fnDurable", inPlace := ["slices.overlaps[int]", "internal/abi.NoEscape"], unfollowed := true, recurses := true, apart := false, narrowed := true }
def FnDurableUptoSaid : Prop := fnDurableUptoRow.holds Tryz.pinned (OpenSpec.upto fnDurableSpec)

/-- 'laws.FnSettle', WHERE WHAT IT READS IS OF BULK AT MOST 1048576: true; the input reads as it did. -/
def fnSettleUptoRow : OpenClaim := { program := "ythogljppoiekaaagreat", sum := "834495d422bb94a09f545ae74ab4ff3b7921d5c2b8206821b540d1eb84d175b2", func := "loop.example/g00308/laws.FnSettle", spec := "fnSettle", inPlace := ["slices.overlaps[int]", "internal/abi.NoEscape"], unfollowed := true, recurses := true, apart := false, narrowed := true }
def FnSettleUptoSaid : Prop := fnSettleUptoRow.holds Tryz.pinned (OpenSpec.upto fnSettleSpec)

/-- 'laws.FnSafety', WHERE WHAT IT READS IS OF BULK AT MOST 1048576: true; the input reads as it did. -/
def fnSafetyUptoRow : OpenClaim := { program := "ythogljppoiekaaagreat", sum := "834495d422bb94a09f545ae74ab4ff3b7921d5c2b8206821b540d1eb84d175b2", func := "loop.example/g00308/laws.FnSafety", spec := "fnSafety", inPlace := ["slices.overlaps[int]", "internal/abi.NoEscape"], unfollowed := true, recurses := true, apart := false, narrowed := true }
def FnSafetyUptoSaid : Prop := fnSafetyUptoRow.holds Tryz.pinned (OpenSpec.upto fnSafetySpec)

/-- 'laws.FnQuiet', WHERE WHAT IT READS IS OF BULK AT MOST 1048576: true; the input reads as it did. -/
def fnQuietUptoRow : OpenClaim := { program := "ythogljppoiekaaagreat", sum := "834495d422bb94a09f545ae74ab4ff3b7921d5c2b8206821b540d1eb84d175b2", func := "loop.example/g00308/laws.FnQuiet", spec := "fnQuiet", inPlace := ["slices.overlaps[int]", "internal/abi.NoEscape"], unfollowed := true, recurses := true, apart := false, narrowed := true }
def FnQuietUptoSaid : Prop := fnQuietUptoRow.holds Tryz.pinned (OpenSpec.upto fnQuietSpec)

end Rows
end Go.Proofs.YthogljppoiekaaaGreat
