/-
  No cell of these rows narrows 'for every input' (looked for: loops, veiled, ifaces, maps, wideKeys, modest, calm, conditions, laid).
  DERIVED. THE GIVEN ROWS OF THIS SEAT. 6 by the template 'for every input the law returns true; each argument reads behind the call as it read before'; 0 by the template 'total and deterministic' (their statements: YtmjjdfhpnckacaaTotals.lean).
  GIVEN WITH THE SEED: the statements are not yours to turn. If you find one false, say at which input.
  Laid BY PROGRAM, IN A SANDBOX (cutbox-rows.mjs): the forced cells as the released guide's own fill.sh prints them over the translation c63cbd5c4a3c78da… (all of the seat's roots in one cut). By AI agents, Wed Nov 11 2026. No macro, syntax, notation, axiom, sorry.
-/
import Derived.Test.YtmjjdfhpnckacaaChecked
import GoSem.Claim
import GoSem.ClaimJoined
import GoSem.ClaimMapViews
import Derived.JoinedTies
import Derived.KernelRfl
namespace Go.Proofs.Ytmjjdfhpnckacaa
/- THE CELL 'sum', in the pinned program and in every row, IS THE sha256 OF THE DUMP (.gsa) THAT YtmjjdfhpnckacaaProg.lean LOADS. Nothing in Lean hashes anything: it is a label: what it is worth is what the hold of that sum in a sandbox is worth. -/
noncomputable def Try.pinned : Pinned := { name := "ytmjjdfhpnckacaa", sum := "c63cbd5c4a3c78da5f7eb213d74aec12fcbdac8cd004ed2732c29d00d5bb822d", checked := Try.checked }
namespace Rows
def none {H : Type} : Left H := { results := [], args := [] }

/-- 'laws.FnExactMirrorOK': WHATEVER THE INPUT: true; the input reads as it did. -/
def fnExactMirrorOKSpec : ChangeSpec := { name := "fnExactMirrorOK", fn := fun _ => fun
  | [d] => { results := [.lit (.bool true)], args := [d] }
  | _ => none }
def fnExactMirrorOKRow : OpenClaim := { program := "ytmjjdfhpnckacaa", sum := "c63cbd5c4a3c78da5f7eb213d74aec12fcbdac8cd004ed2732c29d00d5bb822d", func := "loop.example/g00308/laws.FnExactMirrorOK", spec := "fnExactMirrorOK", unfollowed := true, recurses := true, apart := false }
def FnExactMirrorOKSaid : Prop := fnExactMirrorOKRow.holds Try.pinned (OpenSpec.ofChange fnExactMirrorOKSpec)

/-- ITS FALSE NEIGHBOUR: 'it returns false'. Refute it at one input. -/
def fnExactMirrorOKWrong : ChangeSpec := { name := "fnExactMirrorOK", fn := fun _ => fun
  | [d] => { results := [.lit (.bool false)], args := [d] }
  | _ => none }
def FnExactMirrorOKWrongFalsely : Prop := fnExactMirrorOKRow.holds Try.pinned (OpenSpec.ofChange fnExactMirrorOKWrong)

/-- 'laws.FnExactViewOK': WHATEVER THE INPUT: true; the input reads as it did. -/
def fnExactViewOKSpec : ChangeSpec := { name := "fnExactViewOK", fn := fun _ => fun
  | [d] => { results := [.lit (.bool true)], args := [d] }
  | _ => none }
def fnExactViewOKRow : OpenClaim := { program := "ytmjjdfhpnckacaa", sum := "c63cbd5c4a3c78da5f7eb213d74aec12fcbdac8cd004ed2732c29d00d5bb822d", func := "loop.example/g00308/laws.FnExactViewOK", spec := "fnExactViewOK", apart := false }
def FnExactViewOKSaid : Prop := fnExactViewOKRow.holds Try.pinned (OpenSpec.ofChange fnExactViewOKSpec)

/-- ITS FALSE NEIGHBOUR: 'it returns false'. Refute it at one input. -/
def fnExactViewOKWrong : ChangeSpec := { name := "fnExactViewOK", fn := fun _ => fun
  | [d] => { results := [.lit (.bool false)], args := [d] }
  | _ => none }
def FnExactViewOKWrongFalsely : Prop := fnExactViewOKRow.holds Try.pinned (OpenSpec.ofChange fnExactViewOKWrong)

/-- 'laws.FnExactFullView': WHATEVER THE INPUT: true; the input reads as it did. -/
def fnExactFullViewSpec : ChangeSpec := { name := "fnExactFullView", fn := fun _ => fun
  | [d1, d2, d3, d4] => { results := [.lit (.bool true)], args := [d1, d2, d3, d4] }
  | _ => none }
def fnExactFullViewRow : OpenClaim := { program := "ytmjjdfhpnckacaa", sum := "c63cbd5c4a3c78da5f7eb213d74aec12fcbdac8cd004ed2732c29d00d5bb822d", func := "loop.example/g00308/laws.FnExactFullView", spec := "fnExactFullView", unfollowed := true, recurses := true, apart := false }
def FnExactFullViewSaid : Prop := fnExactFullViewRow.holds Try.pinned (OpenSpec.ofChange fnExactFullViewSpec)

/-- ITS FALSE NEIGHBOUR: 'it returns false'. Refute it at one input. -/
def fnExactFullViewWrong : ChangeSpec := { name := "fnExactFullView", fn := fun _ => fun
  | [d1, d2, d3, d4] => { results := [.lit (.bool false)], args := [d1, d2, d3, d4] }
  | _ => none }
def FnExactFullViewWrongFalsely : Prop := fnExactFullViewRow.holds Try.pinned (OpenSpec.ofChange fnExactFullViewWrong)

/-- 'laws.FnExactDiffView': WHATEVER THE INPUT: true; the input reads as it did. -/
def fnExactDiffViewSpec : ChangeSpec := { name := "fnExactDiffView", fn := fun _ => fun
  | [d1, d2, d3, d4, d5, d6] => { results := [.lit (.bool true)], args := [d1, d2, d3, d4, d5, d6] }
  | _ => none }
def fnExactDiffViewRow : OpenClaim := { program := "ytmjjdfhpnckacaa", sum := "c63cbd5c4a3c78da5f7eb213d74aec12fcbdac8cd004ed2732c29d00d5bb822d", func := "loop.example/g00308/laws.FnExactDiffView", spec := "fnExactDiffView", unfollowed := true, recurses := true, apart := false }
def FnExactDiffViewSaid : Prop := fnExactDiffViewRow.holds Try.pinned (OpenSpec.ofChange fnExactDiffViewSpec)

/-- ITS FALSE NEIGHBOUR: 'it returns false'. Refute it at one input. -/
def fnExactDiffViewWrong : ChangeSpec := { name := "fnExactDiffView", fn := fun _ => fun
  | [d1, d2, d3, d4, d5, d6] => { results := [.lit (.bool false)], args := [d1, d2, d3, d4, d5, d6] }
  | _ => none }
def FnExactDiffViewWrongFalsely : Prop := fnExactDiffViewRow.holds Try.pinned (OpenSpec.ofChange fnExactDiffViewWrong)

/-- 'laws.FnExactViewBytes': WHATEVER THE INPUT: true; the input reads as it did. -/
def fnExactViewBytesSpec : ChangeSpec := { name := "fnExactViewBytes", fn := fun _ => fun
  | [d] => { results := [.lit (.bool true)], args := [d] }
  | _ => none }
def fnExactViewBytesRow : OpenClaim := { program := "ytmjjdfhpnckacaa", sum := "c63cbd5c4a3c78da5f7eb213d74aec12fcbdac8cd004ed2732c29d00d5bb822d", func := "loop.example/g00308/laws.FnExactViewBytes", spec := "fnExactViewBytes", inPlace := ["internal/abi.NoEscape"], unfollowed := true, recurses := true, apart := false }
def FnExactViewBytesSaid : Prop := fnExactViewBytesRow.holds Try.pinned (OpenSpec.ofChange fnExactViewBytesSpec)

/-- ITS FALSE NEIGHBOUR: 'it returns false'. Refute it at one input. -/
def fnExactViewBytesWrong : ChangeSpec := { name := "fnExactViewBytes", fn := fun _ => fun
  | [d] => { results := [.lit (.bool false)], args := [d] }
  | _ => none }
def FnExactViewBytesWrongFalsely : Prop := fnExactViewBytesRow.holds Try.pinned (OpenSpec.ofChange fnExactViewBytesWrong)

/-- 'laws.FnExactAcceptView': WHATEVER THE INPUT: true; the input reads as it did. -/
def fnExactAcceptViewSpec : ChangeSpec := { name := "fnExactAcceptView", fn := fun _ => fun
  | [d1, d2] => { results := [.lit (.bool true)], args := [d1, d2] }
  | _ => none }
def fnExactAcceptViewRow : OpenClaim := { program := "ytmjjdfhpnckacaa", sum := "c63cbd5c4a3c78da5f7eb213d74aec12fcbdac8cd004ed2732c29d00d5bb822d", func := "loop.example/g00308/laws.FnExactAcceptView", spec := "fnExactAcceptView", unfollowed := true, recurses := true, apart := false }
def FnExactAcceptViewSaid : Prop := fnExactAcceptViewRow.holds Try.pinned (OpenSpec.ofChange fnExactAcceptViewSpec)

/-- ITS FALSE NEIGHBOUR: 'it returns false'. Refute it at one input. -/
def fnExactAcceptViewWrong : ChangeSpec := { name := "fnExactAcceptView", fn := fun _ => fun
  | [d1, d2] => { results := [.lit (.bool false)], args := [d1, d2] }
  | _ => none }
def FnExactAcceptViewWrongFalsely : Prop := fnExactAcceptViewRow.holds Try.pinned (OpenSpec.ofChange fnExactAcceptViewWrong)

/- THE SECOND FORM. 'bulk': how many values and letters a reading holds, each counted each time it is reached (what is shared counts as often as it is met; a slice's spare places count too). A statement '..UptoSaid' is the law's where the arguments, and the package variables that the reading takes, are together of bulk at most 1048576: NARROWER than '..Said'. Prove '..Said' where nothing that the law and all that it calls make is longer than what came in: it says more and counts as full. Else prove '..UptoSaid'. A law counts once. -/
mutual
def uptoBulk {H : Type} : DataW H → Nat
  | .lit (.string bytes) => bytes.length + 1
  | .lit _ => 1
  | .nil => 1
  | .ptr d => uptoBulk d + 1
  | .slice elems spare => uptoBulkAll elems + uptoBulkAll spare + 1
  | .agg parts => uptoBulkAll parts + 1
  | .iface _ d => uptoBulk d + 1
  | .map entries => uptoBulkEntries entries + 1
  | .held _ => 1
def uptoBulkAll {H : Type} : List (DataW H) → Nat
  | [] => 0
  | d :: r => uptoBulk d + uptoBulkAll r
def uptoBulkEntries {H : Type} : List (Lit × DataW H) → Nat
  | [] => 0
  | x :: r => uptoBulkEntry x + uptoBulkEntries r
def uptoBulkEntry {H : Type} : Lit × DataW H → Nat
  | (.string bytes, d) => bytes.length + uptoBulk d + 1
  | (_, d) => uptoBulk d + 1
 end
def uptoSmall : (H : Type) → List (DataW H) → Bool := fun _ ds => decide (uptoBulkAll ds ≤ 1048576)
def OpenSpec.upto (s : _root_.Go.ChangeSpec) : _root_.Go.OpenSpec := { _root_.Go.OpenSpec.ofChange s with cond := some uptoSmall }

/-- 'laws.FnExactMirrorOK', WHERE WHAT IT READS IS OF BULK AT MOST 1048576: true; the input reads as it did. -/
def fnExactMirrorOKUptoRow : OpenClaim := { program := "ytmjjdfhpnckacaa", sum := "c63cbd5c4a3c78da5f7eb213d74aec12fcbdac8cd004ed2732c29d00d5bb822d", func := "loop.example/g00308/laws.FnExactMirrorOK", spec := "fnExactMirrorOK", unfollowed := true, recurses := true, apart := false, narrowed := true }
def FnExactMirrorOKUptoSaid : Prop := fnExactMirrorOKUptoRow.holds Try.pinned (OpenSpec.upto fnExactMirrorOKSpec)

/-- 'laws.FnExactViewOK', WHERE WHAT IT READS IS OF BULK AT MOST 1048576: true; the input reads as it did. -/
def fnExactViewOKUptoRow : OpenClaim := { program := "ytmjjdfhpnckacaa", sum := "c63cbd5c4a3c78da5f7eb213d74aec12fcbdac8cd004ed2732c29d00d5bb822d", func := "loop.example/g00308/laws.FnExactViewOK", spec := "fnExactViewOK", apart := false, narrowed := true }
def FnExactViewOKUptoSaid : Prop := fnExactViewOKUptoRow.holds Try.pinned (OpenSpec.upto fnExactViewOKSpec)

/-- 'laws.FnExactFullView', WHERE WHAT IT READS IS OF BULK AT MOST 1048576: true; the input reads as it did. -/
def fnExactFullViewUptoRow : OpenClaim := { program := "ytmjjdfhpnckacaa", sum := "c63cbd5c4a3c78da5f7eb213d74aec12fcbdac8cd004ed2732c29d00d5bb822d", func := "loop.example/g00308/laws.FnExactFullView", spec := "fnExactFullView", unfollowed := true, recurses := true, apart := false, narrowed := true }
def FnExactFullViewUptoSaid : Prop := fnExactFullViewUptoRow.holds Try.pinned (OpenSpec.upto fnExactFullViewSpec)

/-- 'laws.FnExactDiffView', WHERE WHAT IT READS IS OF BULK AT MOST 1048576: true; the input reads as it did. -/
def fnExactDiffViewUptoRow : OpenClaim := { program := "ytmjjdfhpnckacaa", sum := "c63cbd5c4a3c78da5f7eb213d74aec12fcbdac8cd004ed2732c29d00d5bb822d", func := "loop.example/g00308/laws.FnExactDiffView", spec := "fnExactDiffView", unfollowed := true, recurses := true, apart := false, narrowed := true }
def FnExactDiffViewUptoSaid : Prop := fnExactDiffViewUptoRow.holds Try.pinned (OpenSpec.upto fnExactDiffViewSpec)

/-- 'laws.FnExactViewBytes', WHERE WHAT IT READS IS OF BULK AT MOST 1048576: true; the input reads as it did. -/
def fnExactViewBytesUptoRow : OpenClaim := { program := "ytmjjdfhpnckacaa", sum := "c63cbd5c4a3c78da5f7eb213d74aec12fcbdac8cd004ed2732c29d00d5bb822d", func := "loop.example/g00308/laws.FnExactViewBytes", spec := "fnExactViewBytes", inPlace := ["internal/abi.NoEscape"], unfollowed := true, recurses := true, apart := false, narrowed := true }
def FnExactViewBytesUptoSaid : Prop := fnExactViewBytesUptoRow.holds Try.pinned (OpenSpec.upto fnExactViewBytesSpec)

/-- 'laws.FnExactAcceptView', WHERE WHAT IT READS IS OF BULK AT MOST 1048576: true; the input reads as it did. -/
def fnExactAcceptViewUptoRow : OpenClaim := { program := "ytmjjdfhpnckacaa", sum := "c63cbd5c4a3c78da5f7eb213d74aec12fcbdac8cd004ed2732c29d00d5bb822d", func := "loop.example/g00308/laws.FnExactAcceptView", spec := "fnExactAcceptView", unfollowed := true, recurses := true, apart := false, narrowed := true }
def FnExactAcceptViewUptoSaid : Prop := fnExactAcceptViewUptoRow.holds Try.pinned (OpenSpec.upto fnExactAcceptViewSpec)

end Rows
end Go.Proofs.Ytmjjdfhpnckacaa
