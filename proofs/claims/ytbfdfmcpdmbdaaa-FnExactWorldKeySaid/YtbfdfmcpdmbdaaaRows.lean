/-
  No cell of these rows narrows 'for every input' (looked for: loops, veiled, ifaces, maps, wideKeys, modest, calm, conditions, laid).
  DERIVED. THE GIVEN ROWS OF THIS SEAT. 12 by the template 'for every input the law returns true; each argument reads behind the call as it read before'; 0 by the template 'total and deterministic' (their statements: YtbfdfmcpdmbdaaaTotals.lean).
  GIVEN WITH THE SEED: the statements are not yours to turn. If you find one false, say at which input.
  Laid BY PROGRAM, IN A SANDBOX (cutbox-rows.mjs): the forced cells as the released guide's own fill.sh prints them over the translation 05a58882ee7759cb… (all of the seat's roots in one cut). By AI agents, Wed Nov 11 2026. No macro, syntax, notation, axiom, sorry.
-/
import Derived.Test.YtbfdfmcpdmbdaaaChecked
import GoSem.Claim
import GoSem.ClaimJoined
import GoSem.ClaimMapViews
import Derived.JoinedTies
import Derived.KernelRfl
namespace Go.Proofs.Ytbfdfmcpdmbdaaa
/- THE CELL 'sum', in the pinned program and in every row, IS THE sha256 OF THE DUMP (.gsa) THAT YtbfdfmcpdmbdaaaProg.lean LOADS. Nothing in Lean hashes anything: it is a label: what it is worth is what the hold of that sum in a sandbox is worth. -/
noncomputable def Try.pinned : Pinned := { name := "ytbfdfmcpdmbdaaa", sum := "05a58882ee7759cb5a848ae1c3801dd86f5ffe199d275ce3516666a9babc9431", checked := Try.checked }
namespace Rows
def none {H : Type} : Left H := { results := [], args := [] }

/-- 'laws.FnExactWorldKey': WHATEVER THE INPUT: true; the input reads as it did. -/
def fnExactWorldKeySpec : ChangeSpec := { name := "fnExactWorldKey", fn := fun _ => fun
  | [] => { results := [.lit (.bool true)], args := [] }
  | _ => none }
def fnExactWorldKeyRow : OpenClaim := { program := "ytbfdfmcpdmbdaaa", sum := "05a58882ee7759cb5a848ae1c3801dd86f5ffe199d275ce3516666a9babc9431", func := "loop.example/g00308/laws.FnExactWorldKey", spec := "fnExactWorldKey", apart := false }
def FnExactWorldKeySaid : Prop := fnExactWorldKeyRow.holds Try.pinned (OpenSpec.ofChange fnExactWorldKeySpec)

/-- ITS FALSE NEIGHBOUR: 'it returns false'. Refute it at one input. -/
def fnExactWorldKeyWrong : ChangeSpec := { name := "fnExactWorldKey", fn := fun _ => fun
  | [] => { results := [.lit (.bool false)], args := [] }
  | _ => none }
def FnExactWorldKeyWrongFalsely : Prop := fnExactWorldKeyRow.holds Try.pinned (OpenSpec.ofChange fnExactWorldKeyWrong)

/-- 'laws.FnExactMirrorOK': WHATEVER THE INPUT: true; the input reads as it did. -/
def fnExactMirrorOKSpec : ChangeSpec := { name := "fnExactMirrorOK", fn := fun _ => fun
  | [d] => { results := [.lit (.bool true)], args := [d] }
  | _ => none }
def fnExactMirrorOKRow : OpenClaim := { program := "ytbfdfmcpdmbdaaa", sum := "05a58882ee7759cb5a848ae1c3801dd86f5ffe199d275ce3516666a9babc9431", func := "loop.example/g00308/laws.FnExactMirrorOK", spec := "fnExactMirrorOK", unfollowed := true, recurses := true, apart := false }
def FnExactMirrorOKSaid : Prop := fnExactMirrorOKRow.holds Try.pinned (OpenSpec.ofChange fnExactMirrorOKSpec)

/-- ITS FALSE NEIGHBOUR: 'it returns false'. Refute it at one input. -/
def fnExactMirrorOKWrong : ChangeSpec := { name := "fnExactMirrorOK", fn := fun _ => fun
  | [d] => { results := [.lit (.bool false)], args := [d] }
  | _ => none }
def FnExactMirrorOKWrongFalsely : Prop := fnExactMirrorOKRow.holds Try.pinned (OpenSpec.ofChange fnExactMirrorOKWrong)

/-- 'laws.FnExactViewOK': WHATEVER THE INPUT: true; the input reads as it did. -/
def fnExactViewOKSpec : ChangeSpec := { name := "fnExactViewOK", fn := fun _ => fun
  | [d] => { results := [.lit (.bool true)], args := [d] }
  | _ => none }
def fnExactViewOKRow : OpenClaim := { program := "ytbfdfmcpdmbdaaa", sum := "05a58882ee7759cb5a848ae1c3801dd86f5ffe199d275ce3516666a9babc9431", func := "loop.example/g00308/laws.FnExactViewOK", spec := "fnExactViewOK", apart := false }
def FnExactViewOKSaid : Prop := fnExactViewOKRow.holds Try.pinned (OpenSpec.ofChange fnExactViewOKSpec)

/-- ITS FALSE NEIGHBOUR: 'it returns false'. Refute it at one input. -/
def fnExactViewOKWrong : ChangeSpec := { name := "fnExactViewOK", fn := fun _ => fun
  | [d] => { results := [.lit (.bool false)], args := [d] }
  | _ => none }
def FnExactViewOKWrongFalsely : Prop := fnExactViewOKRow.holds Try.pinned (OpenSpec.ofChange fnExactViewOKWrong)

/-- 'laws.FnExactFullView': WHATEVER THE INPUT: true; the input reads as it did. -/
def fnExactFullViewSpec : ChangeSpec := { name := "fnExactFullView", fn := fun _ => fun
  | [d1, d2, d3, d4] => { results := [.lit (.bool true)], args := [d1, d2, d3, d4] }
  | _ => none }
def fnExactFullViewRow : OpenClaim := { program := "ytbfdfmcpdmbdaaa", sum := "05a58882ee7759cb5a848ae1c3801dd86f5ffe199d275ce3516666a9babc9431", func := "loop.example/g00308/laws.FnExactFullView", spec := "fnExactFullView", unfollowed := true, recurses := true, apart := false }
def FnExactFullViewSaid : Prop := fnExactFullViewRow.holds Try.pinned (OpenSpec.ofChange fnExactFullViewSpec)

/-- ITS FALSE NEIGHBOUR: 'it returns false'. Refute it at one input. -/
def fnExactFullViewWrong : ChangeSpec := { name := "fnExactFullView", fn := fun _ => fun
  | [d1, d2, d3, d4] => { results := [.lit (.bool false)], args := [d1, d2, d3, d4] }
  | _ => none }
def FnExactFullViewWrongFalsely : Prop := fnExactFullViewRow.holds Try.pinned (OpenSpec.ofChange fnExactFullViewWrong)

/-- 'laws.FnExactDiffView': WHATEVER THE INPUT: true; the input reads as it did. -/
def fnExactDiffViewSpec : ChangeSpec := { name := "fnExactDiffView", fn := fun _ => fun
  | [d1, d2, d3, d4, d5, d6] => { results := [.lit (.bool true)], args := [d1, d2, d3, d4, d5, d6] }
  | _ => none }
def fnExactDiffViewRow : OpenClaim := { program := "ytbfdfmcpdmbdaaa", sum := "05a58882ee7759cb5a848ae1c3801dd86f5ffe199d275ce3516666a9babc9431", func := "loop.example/g00308/laws.FnExactDiffView", spec := "fnExactDiffView", unfollowed := true, recurses := true, apart := false }
def FnExactDiffViewSaid : Prop := fnExactDiffViewRow.holds Try.pinned (OpenSpec.ofChange fnExactDiffViewSpec)

/-- ITS FALSE NEIGHBOUR: 'it returns false'. Refute it at one input. -/
def fnExactDiffViewWrong : ChangeSpec := { name := "fnExactDiffView", fn := fun _ => fun
  | [d1, d2, d3, d4, d5, d6] => { results := [.lit (.bool false)], args := [d1, d2, d3, d4, d5, d6] }
  | _ => none }
def FnExactDiffViewWrongFalsely : Prop := fnExactDiffViewRow.holds Try.pinned (OpenSpec.ofChange fnExactDiffViewWrong)

/-- 'laws.FnExactViewBytes': WHATEVER THE INPUT: true; the input reads as it did. -/
def fnExactViewBytesSpec : ChangeSpec := { name := "fnExactViewBytes", fn := fun _ => fun
  | [d] => { results := [.lit (.bool true)], args := [d] }
  | _ => none }
def fnExactViewBytesRow : OpenClaim := { program := "ytbfdfmcpdmbdaaa", sum := "05a58882ee7759cb5a848ae1c3801dd86f5ffe199d275ce3516666a9babc9431", func := "loop.example/g00308/laws.FnExactViewBytes", spec := "fnExactViewBytes", inPlace := ["internal/abi.NoEscape"], unfollowed := true, recurses := true, apart := false }
def FnExactViewBytesSaid : Prop := fnExactViewBytesRow.holds Try.pinned (OpenSpec.ofChange fnExactViewBytesSpec)

/-- ITS FALSE NEIGHBOUR: 'it returns false'. Refute it at one input. -/
def fnExactViewBytesWrong : ChangeSpec := { name := "fnExactViewBytes", fn := fun _ => fun
  | [d] => { results := [.lit (.bool false)], args := [d] }
  | _ => none }
def FnExactViewBytesWrongFalsely : Prop := fnExactViewBytesRow.holds Try.pinned (OpenSpec.ofChange fnExactViewBytesWrong)

/-- 'laws.FnExactAcceptView': WHATEVER THE INPUT: true; the input reads as it did. -/
def fnExactAcceptViewSpec : ChangeSpec := { name := "fnExactAcceptView", fn := fun _ => fun
  | [d1, d2] => { results := [.lit (.bool true)], args := [d1, d2] }
  | _ => none }
def fnExactAcceptViewRow : OpenClaim := { program := "ytbfdfmcpdmbdaaa", sum := "05a58882ee7759cb5a848ae1c3801dd86f5ffe199d275ce3516666a9babc9431", func := "loop.example/g00308/laws.FnExactAcceptView", spec := "fnExactAcceptView", unfollowed := true, recurses := true, apart := false }
def FnExactAcceptViewSaid : Prop := fnExactAcceptViewRow.holds Try.pinned (OpenSpec.ofChange fnExactAcceptViewSpec)

/-- ITS FALSE NEIGHBOUR: 'it returns false'. Refute it at one input. -/
def fnExactAcceptViewWrong : ChangeSpec := { name := "fnExactAcceptView", fn := fun _ => fun
  | [d1, d2] => { results := [.lit (.bool false)], args := [d1, d2] }
  | _ => none }
def FnExactAcceptViewWrongFalsely : Prop := fnExactAcceptViewRow.holds Try.pinned (OpenSpec.ofChange fnExactAcceptViewWrong)

/-- 'laws.FnExactReadView': WHATEVER THE INPUT: true; the input reads as it did. -/
def fnExactReadViewSpec : ChangeSpec := { name := "fnExactReadView", fn := fun _ => fun
  | [d] => { results := [.lit (.bool true)], args := [d] }
  | _ => none }
def fnExactReadViewRow : OpenClaim := { program := "ytbfdfmcpdmbdaaa", sum := "05a58882ee7759cb5a848ae1c3801dd86f5ffe199d275ce3516666a9babc9431", func := "loop.example/g00308/laws.FnExactReadView", spec := "fnExactReadView", inPlace := ["internal/abi.NoEscape"], unfollowed := true, recurses := true, apart := false }
def FnExactReadViewSaid : Prop := fnExactReadViewRow.holds Try.pinned (OpenSpec.ofChange fnExactReadViewSpec)

/-- ITS FALSE NEIGHBOUR: 'it returns false'. Refute it at one input. -/
def fnExactReadViewWrong : ChangeSpec := { name := "fnExactReadView", fn := fun _ => fun
  | [d] => { results := [.lit (.bool false)], args := [d] }
  | _ => none }
def FnExactReadViewWrongFalsely : Prop := fnExactReadViewRow.holds Try.pinned (OpenSpec.ofChange fnExactReadViewWrong)

/-- 'laws.FnExactNodeTick': WHATEVER THE INPUT: true; the input reads as it did. -/
def fnExactNodeTickSpec : ChangeSpec := { name := "fnExactNodeTick", fn := fun _ => fun
  | [d1, d2] => { results := [.lit (.bool true)], args := [d1, d2] }
  | _ => none }
def fnExactNodeTickRow : OpenClaim := { program := "ytbfdfmcpdmbdaaa", sum := "05a58882ee7759cb5a848ae1c3801dd86f5ffe199d275ce3516666a9babc9431", func := "loop.example/g00308/laws.FnExactNodeTick", spec := "fnExactNodeTick", apart := false }
def FnExactNodeTickSaid : Prop := fnExactNodeTickRow.holds Try.pinned (OpenSpec.ofChange fnExactNodeTickSpec)

/-- ITS FALSE NEIGHBOUR: 'it returns false'. Refute it at one input. -/
def fnExactNodeTickWrong : ChangeSpec := { name := "fnExactNodeTick", fn := fun _ => fun
  | [d1, d2] => { results := [.lit (.bool false)], args := [d1, d2] }
  | _ => none }
def FnExactNodeTickWrongFalsely : Prop := fnExactNodeTickRow.holds Try.pinned (OpenSpec.ofChange fnExactNodeTickWrong)

/-- 'laws.FnNode': WHATEVER THE INPUT: true; the input reads as it did. -/
def fnNodeSpec : ChangeSpec := { name := "fnNode", fn := fun _ => fun
  | [d1, d2] => { results := [.lit (.bool true)], args := [d1, d2] }
  | _ => none }
def fnNodeRow : OpenClaim := { program := "ytbfdfmcpdmbdaaa", sum := "05a58882ee7759cb5a848ae1c3801dd86f5ffe199d275ce3516666a9babc9431", func := "loop.example/g00308/laws.FnNode", spec := "fnNode", inPlace := ["slices.overlaps[int]"], apart := false }
def FnNodeSaid : Prop := fnNodeRow.holds Try.pinned (OpenSpec.ofChange fnNodeSpec)

/-- ITS FALSE NEIGHBOUR: 'it returns false'. Refute it at one input. -/
def fnNodeWrong : ChangeSpec := { name := "fnNode", fn := fun _ => fun
  | [d1, d2] => { results := [.lit (.bool false)], args := [d1, d2] }
  | _ => none }
def FnNodeWrongFalsely : Prop := fnNodeRow.holds Try.pinned (OpenSpec.ofChange fnNodeWrong)

/-- 'laws.FnViewBytes': WHATEVER THE INPUT: true; the input reads as it did. -/
def fnViewBytesSpec : ChangeSpec := { name := "fnViewBytes", fn := fun _ => fun
  | [d1, d2] => { results := [.lit (.bool true)], args := [d1, d2] }
  | _ => none }
def fnViewBytesRow : OpenClaim := { program := "ytbfdfmcpdmbdaaa", sum := "05a58882ee7759cb5a848ae1c3801dd86f5ffe199d275ce3516666a9babc9431", func := "loop.example/g00308/laws.FnViewBytes", spec := "fnViewBytes", inPlace := ["internal/abi.NoEscape"], unfollowed := true, recurses := true, apart := false }
def FnViewBytesSaid : Prop := fnViewBytesRow.holds Try.pinned (OpenSpec.ofChange fnViewBytesSpec)

/-- ITS FALSE NEIGHBOUR: 'it returns false'. Refute it at one input. -/
def fnViewBytesWrong : ChangeSpec := { name := "fnViewBytes", fn := fun _ => fun
  | [d1, d2] => { results := [.lit (.bool false)], args := [d1, d2] }
  | _ => none }
def FnViewBytesWrongFalsely : Prop := fnViewBytesRow.holds Try.pinned (OpenSpec.ofChange fnViewBytesWrong)

/-- 'laws.FnExactNodeTake': WHATEVER THE INPUT: true; the input reads as it did. -/
def fnExactNodeTakeSpec : ChangeSpec := { name := "fnExactNodeTake", fn := fun _ => fun
  | [d1, d2] => { results := [.lit (.bool true)], args := [d1, d2] }
  | _ => none }
def fnExactNodeTakeRow : OpenClaim := { program := "ytbfdfmcpdmbdaaa", sum := "05a58882ee7759cb5a848ae1c3801dd86f5ffe199d275ce3516666a9babc9431", func := "loop.example/g00308/laws.FnExactNodeTake", spec := "fnExactNodeTake", inPlace := ["slices.overlaps[int]"], apart := false }
def FnExactNodeTakeSaid : Prop := fnExactNodeTakeRow.holds Try.pinned (OpenSpec.ofChange fnExactNodeTakeSpec)

/-- ITS FALSE NEIGHBOUR: 'it returns false'. Refute it at one input. -/
def fnExactNodeTakeWrong : ChangeSpec := { name := "fnExactNodeTake", fn := fun _ => fun
  | [d1, d2] => { results := [.lit (.bool false)], args := [d1, d2] }
  | _ => none }
def FnExactNodeTakeWrongFalsely : Prop := fnExactNodeTakeRow.holds Try.pinned (OpenSpec.ofChange fnExactNodeTakeWrong)

/- THE SECOND FORM. 'bulk': how many values and letters a reading holds, each counted each time it is reached (what is shared counts as often as it is met; a slice's spare places count too). A statement '..UptoSaid' is the law's where the arguments, and the package variables that the reading takes, are together of bulk at most 1048576: NARROWER than '..Said'. Prove '..Said' where nothing that the law and all that it calls make is longer than what came in: it says more and counts as full. Else prove '..UptoSaid'. A law counts once. -/
mutual
def uptoBulk {H : Type} : DataW H → Nat
  | .lit (.string bytes) => bytes.length + 1
  | .lit _ => 1
  | .nil => 1
  | .ptr d => uptoBulk d + 1
  | .slice elems spare => uptoBulkAll elems + uptoBulkAll spare + 1
  | .agg parts => uptoBulkAll parts + 1
  | .iface _ d => uptoBulk d + 1
  | .map entries => uptoBulkEntries entries + 1
  | .held _ => 1
def uptoBulkAll {H : Type} : List (DataW H) → Nat
  | [] => 0
  | d :: r => uptoBulk d + uptoBulkAll r
def uptoBulkEntries {H : Type} : List (Lit × DataW H) → Nat
  | [] => 0
  | x :: r => uptoBulkEntry x + uptoBulkEntries r
def uptoBulkEntry {H : Type} : Lit × DataW H → Nat
  | (.string bytes, d) => bytes.length + uptoBulk d + 1
  | (_, d) => uptoBulk d + 1
 end
def uptoSmall : (H : Type) → List (DataW H) → Bool := fun _ ds => decide (uptoBulkAll ds ≤ 1048576)
def OpenSpec.upto (s : _root_.Go.ChangeSpec) : _root_.Go.OpenSpec := { _root_.Go.OpenSpec.ofChange s with cond := some uptoSmall }

/-- 'laws.FnExactWorldKey', WHERE WHAT IT READS IS OF BULK AT MOST 1048576: true; the input reads as it did. -/
def fnExactWorldKeyUptoRow : OpenClaim := { program := "ytbfdfmcpdmbdaaa", sum := "05a58882ee7759cb5a848ae1c3801dd86f5ffe199d275ce3516666a9babc9431", func := "loop.example/g00308/laws.FnExactWorldKey", spec := "fnExactWorldKey", apart := false, narrowed := true }
def FnExactWorldKeyUptoSaid : Prop := fnExactWorldKeyUptoRow.holds Try.pinned (OpenSpec.upto fnExactWorldKeySpec)

/-- 'laws.FnExactMirrorOK', WHERE WHAT IT READS IS OF BULK AT MOST 1048576: true; the input reads as it did. -/
def fnExactMirrorOKUptoRow : OpenClaim := { program := "ytbfdfmcpdmbdaaa", sum := "05a58882ee7759cb5a848ae1c3801dd86f5ffe199d275ce3516666a9babc9431", func := "loop.example/g00308/laws.FnExactMirrorOK", spec := "fnExactMirrorOK", unfollowed := true, recurses := true, apart := false, narrowed := true }
def FnExactMirrorOKUptoSaid : Prop := fnExactMirrorOKUptoRow.holds Try.pinned (OpenSpec.upto fnExactMirrorOKSpec)

/-- 'laws.FnExactViewOK', WHERE WHAT IT READS IS OF BULK AT MOST 1048576: true; the input reads as it did. -/
def fnExactViewOKUptoRow : OpenClaim := { program := "ytbfdfmcpdmbdaaa", sum := "05a58882ee7759cb5a848ae1c3801dd86f5ffe199d275ce3516666a9babc9431", func := "loop.example/g00308/laws.FnExactViewOK", spec := "fnExactViewOK", apart := false, narrowed := true }
def FnExactViewOKUptoSaid : Prop := fnExactViewOKUptoRow.holds Try.pinned (OpenSpec.upto fnExactViewOKSpec)

/-- 'laws.FnExactFullView', WHERE WHAT IT READS IS OF BULK AT MOST 1048576: true; the input reads as it did. -/
def fnExactFullViewUptoRow : OpenClaim := { program := "ytbfdfmcpdmbdaaa", sum := "05a58882ee7759cb5a848ae1c3801dd86f5ffe199d275ce3516666a9babc9431", func := "loop.example/g00308/laws.FnExactFullView", spec := "fnExactFullView", unfollowed := true, recurses := true, apart := false, narrowed := true }
def FnExactFullViewUptoSaid : Prop := fnExactFullViewUptoRow.holds Try.pinned (OpenSpec.upto fnExactFullViewSpec)

/-- 'laws.FnExactDiffView', WHERE WHAT IT READS IS OF BULK AT MOST 1048576: true; the input reads as it did. -/
def fnExactDiffViewUptoRow : OpenClaim := { program := "ytbfdfmcpdmbdaaa", sum := "05a58882ee7759cb5a848ae1c3801dd86f5ffe199d275ce3516666a9babc9431", func := "loop.example/g00308/laws.FnExactDiffView", spec := "fnExactDiffView", unfollowed := true, recurses := true, apart := false, narrowed := true }
def FnExactDiffViewUptoSaid : Prop := fnExactDiffViewUptoRow.holds Try.pinned (OpenSpec.upto fnExactDiffViewSpec)

/-- 'laws.FnExactViewBytes', WHERE WHAT IT READS IS OF BULK AT MOST 1048576: true; the input reads as it did. -/
def fnExactViewBytesUptoRow : OpenClaim := { program := "ytbfdfmcpdmbdaaa", sum := "05a58882ee7759cb5a848ae1c3801dd86f5ffe199d275ce3516666a9babc9431", func := "loop.example/g00308/laws.FnExactViewBytes", spec := "fnExactViewBytes", inPlace := ["internal/abi.NoEscape"], unfollowed := true, recurses := true, apart := false, narrowed := true }
def FnExactViewBytesUptoSaid : Prop := fnExactViewBytesUptoRow.holds Try.pinned (OpenSpec.upto fnExactViewBytesSpec)

/-- 'laws.FnExactAcceptView', WHERE WHAT IT READS IS OF BULK AT MOST 1048576: true; the input reads as it did. -/
def fnExactAcceptViewUptoRow : OpenClaim := { program := "ytbfdfmcpdmbdaaa", sum := "05a58882ee7759cb5a848ae1c3801dd86f5ffe199d275ce3516666a9babc9431", func := "loop.example/g00308/laws.FnExactAcceptView", spec := "fnExactAcceptView", unfollowed := true, recurses := true, apart := false, narrowed := true }
def FnExactAcceptViewUptoSaid : Prop := fnExactAcceptViewUptoRow.holds Try.pinned (OpenSpec.upto fnExactAcceptViewSpec)

/-- 'laws.FnExactReadView', WHERE WHAT IT READS IS OF BULK AT MOST 1048576: true; the input reads as it did. -/
def fnExactReadViewUptoRow : OpenClaim := { program := "ytbfdfmcpdmbdaaa", sum := "05a58882ee7759cb5a848ae1c3801dd86f5ffe199d275ce3516666a9babc9431", func := "loop.example/g00308/laws.FnExactReadView", spec := "fnExactReadView", inPlace := ["internal/abi.NoEscape"], unfollowed := true, recurses := true, apart := false, narrowed := true }
def FnExactReadViewUptoSaid : Prop := fnExactReadViewUptoRow.holds Try.pinned (OpenSpec.upto fnExactReadViewSpec)

/-- 'laws.FnExactNodeTick', WHERE WHAT IT READS IS OF BULK AT MOST 1048576: true; the input reads as it did. -/
def fnExactNodeTickUptoRow : OpenClaim := { program := "ytbfdfmcpdmbdaaa", sum := "05a58882ee7759cb5a848ae1c3801dd86f5ffe199d275ce3516666a9babc9431", func := "loop.example/g00308/laws.FnExactNodeTick", spec := "fnExactNodeTick", apart := false, narrowed := true }
def FnExactNodeTickUptoSaid : Prop := fnExactNodeTickUptoRow.holds Try.pinned (OpenSpec.upto fnExactNodeTickSpec)

/-- 'laws.FnNode', WHERE WHAT IT READS IS OF BULK AT MOST 1048576: true; the input reads as it did. -/
def fnNodeUptoRow : OpenClaim := { program := "ytbfdfmcpdmbdaaa", sum := "05a58882ee7759cb5a848ae1c3801dd86f5ffe199d275ce3516666a9babc9431", func := "loop.example/g00308/laws.FnNode", spec := "fnNode", inPlace := ["slices.overlaps[int]"], apart := false, narrowed := true }
def FnNodeUptoSaid : Prop := fnNodeUptoRow.holds Try.pinned (OpenSpec.upto fnNodeSpec)

/-- 'laws.FnViewBytes', WHERE WHAT IT READS IS OF BULK AT MOST 1048576: true; the input reads as it did. -/
def fnViewBytesUptoRow : OpenClaim := { program := "ytbfdfmcpdmbdaaa", sum := "05a58882ee7759cb5a848ae1c3801dd86f5ffe199d275ce3516666a9babc9431", func := "loop.example/g00308/laws.FnViewBytes", spec := "fnViewBytes", inPlace := ["internal/abi.NoEscape"], unfollowed := true, recurses := true, apart := false, narrowed := true }
def FnViewBytesUptoSaid : Prop := fnViewBytesUptoRow.holds Try.pinned (OpenSpec.upto fnViewBytesSpec)

/-- 'laws.FnExactNodeTake', WHERE WHAT IT READS IS OF BULK AT MOST 1048576: true; the input reads as it did. -/
def fnExactNodeTakeUptoRow : OpenClaim := { program := "ytbfdfmcpdmbdaaa", sum := "05a58882ee7759cb5a848ae1c3801dd86f5ffe199d275ce3516666a9babc9431", func := "loop.example/g00308/laws.FnExactNodeTake", spec := "fnExactNodeTake", inPlace := ["slices.overlaps[int]"], apart := false, narrowed := true }
def FnExactNodeTakeUptoSaid : Prop := fnExactNodeTakeUptoRow.holds Try.pinned (OpenSpec.upto fnExactNodeTakeSpec)

end Rows
end Go.Proofs.Ytbfdfmcpdmbdaaa
