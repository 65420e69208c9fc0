/-
  DERIVED. GIVEN WITH THE SEED: THE CARDS: each row of YtolgjekokdimoaaDoorRows.lean that lists a variable, with what it lists TIED to the program's text (the seventh form; the later family's looks); each row that meets fmt, with fmt's text TOLD by the authors' own Lean function (tested against real Go, not proved from fmt's source: count such statements apart). THE CARD IS WHAT COUNTS. Prove the row's statement (the work); the ties are given (YtolgjekokdimoaaDoorTie.lean); close each card by the builder's one call (the guide's Derived/Test/ToyasCard.lean, 'card_holds'). Laid BY PROGRAM, IN A SANDBOX (cutbox-door.mjs). By AI agents, Wed Nov 11 2026. No macro, syntax, notation, axiom, sorry.
-/
import Derived.Test.YtolgjekokdimoaaDoorRows
import GoSem.ClaimSeven
namespace Go.Proofs.YtolgjekokdimoaaDoor
namespace Rows

/-- THE TIED CARD OF 'laws.FnExactIssueToken'. -/
def fnExactIssueTokenCard : Claim7 := { stood := { row := fnExactIssueTokenRow, standIns := [], harness := (true, "c4b03cecb316235ffbec490633791e7773486720a5a69595ecb4784658033b8b"), looks := true }, kinds := [], alts := [], laidByText := true, laidKinds := [.data, .data, .data, .data, .data], laidTests := true, laidLooks := .later }
def FnExactIssueTokenCardSaid : Prop := Claim7.holds Tryd.pinned (.plain (OpenSpec.ofChange fnExactIssueTokenSpec)) fnExactIssueTokenCard

/-- THE TIED CARD OF 'laws.FnExactNewClient'. -/
def fnExactNewClientCard : Claim7 := { stood := { row := fnExactNewClientRow, standIns := [], harness := (true, "c4b03cecb316235ffbec490633791e7773486720a5a69595ecb4784658033b8b"), looks := true }, kinds := [], alts := [], laidByText := true, laidKinds := [.data, .data, .data, .data, .data], laidTests := true, laidLooks := .later }
def FnExactNewClientCardSaid : Prop := Claim7.holds Tryd.pinned (.plain (OpenSpec.ofChange fnExactNewClientSpec)) fnExactNewClientCard

/-- THE TIED CARD OF 'laws.FnExactClientOK'. -/
def fnExactClientOKCard : Claim7 := { stood := { row := fnExactClientOKRow, standIns := [], harness := (true, "c4b03cecb316235ffbec490633791e7773486720a5a69595ecb4784658033b8b"), looks := true }, kinds := [], alts := [], laidByText := true, laidKinds := [.data, .data, .data, .data, .data], laidTests := true, laidLooks := .later }
def FnExactClientOKCardSaid : Prop := Claim7.holds Tryd.pinned (.plain (OpenSpec.ofChange fnExactClientOKSpec)) fnExactClientOKCard

/-- THE TIED CARD OF 'laws.FnExactReadLine'. -/
def fnExactReadLineCard : Claim7 := { stood := { row := fnExactReadLineRow, standIns := [], harness := (true, "c4b03cecb316235ffbec490633791e7773486720a5a69595ecb4784658033b8b"), looks := true }, kinds := [], alts := [], laidByText := true, laidKinds := [.data, .data, .data, .data, .sentinel, .sentinel, .pinned], laidTests := true, laidLooks := .later }
def FnExactReadLineCardSaid : Prop := Claim7.holds Tryd.pinned (.plain (OpenSpec.ofChange fnExactReadLineSpec)) fnExactReadLineCard

/-- THE SECOND FORM's CARD OF 'laws.FnExactIssueToken'. -/
def fnExactIssueTokenUptoCard : Claim7 := { stood := { row := fnExactIssueTokenUptoRow, standIns := [], harness := (true, "c4b03cecb316235ffbec490633791e7773486720a5a69595ecb4784658033b8b"), looks := true }, kinds := [], alts := [], laidByText := true, laidKinds := [.data, .data, .data, .data, .data], laidTests := true, laidLooks := .later }
def FnExactIssueTokenUptoCardSaid : Prop := Claim7.holds Tryd.pinned (.plain (OpenSpec.upto fnExactIssueTokenSpec)) fnExactIssueTokenUptoCard

/-- THE SECOND FORM's CARD OF 'laws.FnExactNewClient'. -/
def fnExactNewClientUptoCard : Claim7 := { stood := { row := fnExactNewClientUptoRow, standIns := [], harness := (true, "c4b03cecb316235ffbec490633791e7773486720a5a69595ecb4784658033b8b"), looks := true }, kinds := [], alts := [], laidByText := true, laidKinds := [.data, .data, .data, .data, .data], laidTests := true, laidLooks := .later }
def FnExactNewClientUptoCardSaid : Prop := Claim7.holds Tryd.pinned (.plain (OpenSpec.upto fnExactNewClientSpec)) fnExactNewClientUptoCard

/-- THE SECOND FORM's CARD OF 'laws.FnExactClientOK'. -/
def fnExactClientOKUptoCard : Claim7 := { stood := { row := fnExactClientOKUptoRow, standIns := [], harness := (true, "c4b03cecb316235ffbec490633791e7773486720a5a69595ecb4784658033b8b"), looks := true }, kinds := [], alts := [], laidByText := true, laidKinds := [.data, .data, .data, .data, .data], laidTests := true, laidLooks := .later }
def FnExactClientOKUptoCardSaid : Prop := Claim7.holds Tryd.pinned (.plain (OpenSpec.upto fnExactClientOKSpec)) fnExactClientOKUptoCard

/-- THE SECOND FORM's CARD OF 'laws.FnExactReadLine'. -/
def fnExactReadLineUptoCard : Claim7 := { stood := { row := fnExactReadLineUptoRow, standIns := [], harness := (true, "c4b03cecb316235ffbec490633791e7773486720a5a69595ecb4784658033b8b"), looks := true }, kinds := [], alts := [], laidByText := true, laidKinds := [.data, .data, .data, .data, .sentinel, .sentinel, .pinned], laidTests := true, laidLooks := .later }
def FnExactReadLineUptoCardSaid : Prop := Claim7.holds Tryd.pinned (.plain (OpenSpec.upto fnExactReadLineSpec)) fnExactReadLineUptoCard
end Rows
end Go.Proofs.YtolgjekokdimoaaDoor
