/-
  DERIVED. GIVEN WITH THE SEED: THE CARDS: each row of YtkdkiffpbeekcaaDoorRows.lean that lists a variable, with what it lists TIED to the program's text (the seventh form; the later family's looks); each row that meets fmt, with fmt's text TOLD by the authors' own Lean function (tested against real Go, not proved from fmt's source: count such statements apart). THE CARD IS WHAT COUNTS. Prove the row's statement (the work); the ties are given (YtkdkiffpbeekcaaDoorTie.lean); close each card by the builder's one call (the guide's Derived/Test/ToyasCard.lean, 'card_holds'). Laid BY PROGRAM, IN A SANDBOX (cutbox-door.mjs). By AI agents, Wed Nov 11 2026. No macro, syntax, notation, axiom, sorry.
-/
import Derived.Test.YtkdkiffpbeekcaaDoorRows
import GoSem.ClaimSeven
namespace Go.Proofs.YtkdkiffpbeekcaaDoor
namespace Rows

/-- THE TIED CARD OF 'laws.FnExactTokenMark'. -/
def fnExactTokenMarkCard : Claim7 := { stood := { row := fnExactTokenMarkRow, standIns := [], harness := (true, "52d8ca243935fccf914a81725a983f2fe6ead40c2c6812ae5e361f86ba834e32"), looks := false }, kinds := [], alts := [], laidByText := true, laidKinds := [.data, .data, .data, .data, .data], laidTests := true, laidLooks := .later }
def FnExactTokenMarkCardSaid : Prop := Claim7.holds Tryd.pinned (.plain (OpenSpec.ofChange fnExactTokenMarkSpec)) fnExactTokenMarkCard

/-- THE TIED CARD OF 'laws.FnExactIssueToken'. -/
def fnExactIssueTokenCard : Claim7 := { stood := { row := fnExactIssueTokenRow, standIns := [], harness := (true, "52d8ca243935fccf914a81725a983f2fe6ead40c2c6812ae5e361f86ba834e32"), looks := false }, kinds := [], alts := [], laidByText := true, laidKinds := [.data, .data, .data, .data, .data], laidTests := true, laidLooks := .later }
def FnExactIssueTokenCardSaid : Prop := Claim7.holds Tryd.pinned (.plain (OpenSpec.ofChange fnExactIssueTokenSpec)) fnExactIssueTokenCard

/-- THE TIED CARD OF 'laws.FnExactNewClient'. -/
def fnExactNewClientCard : Claim7 := { stood := { row := fnExactNewClientRow, standIns := [], harness := (true, "52d8ca243935fccf914a81725a983f2fe6ead40c2c6812ae5e361f86ba834e32"), looks := false }, kinds := [], alts := [], laidByText := true, laidKinds := [.data, .data, .data, .data, .data], laidTests := true, laidLooks := .later }
def FnExactNewClientCardSaid : Prop := Claim7.holds Tryd.pinned (.plain (OpenSpec.ofChange fnExactNewClientSpec)) fnExactNewClientCard

/-- THE TIED CARD OF 'laws.FnExactClientOK'. -/
def fnExactClientOKCard : Claim7 := { stood := { row := fnExactClientOKRow, standIns := [], harness := (true, "52d8ca243935fccf914a81725a983f2fe6ead40c2c6812ae5e361f86ba834e32"), looks := false }, kinds := [], alts := [], laidByText := true, laidKinds := [.data, .data, .data, .data, .data], laidTests := true, laidLooks := .later }
def FnExactClientOKCardSaid : Prop := Claim7.holds Tryd.pinned (.plain (OpenSpec.ofChange fnExactClientOKSpec)) fnExactClientOKCard

/-- THE SECOND FORM's CARD OF 'laws.FnExactTokenMark'. -/
def fnExactTokenMarkUptoCard : Claim7 := { stood := { row := fnExactTokenMarkUptoRow, standIns := [], harness := (true, "52d8ca243935fccf914a81725a983f2fe6ead40c2c6812ae5e361f86ba834e32"), looks := false }, kinds := [], alts := [], laidByText := true, laidKinds := [.data, .data, .data, .data, .data], laidTests := true, laidLooks := .later }
def FnExactTokenMarkUptoCardSaid : Prop := Claim7.holds Tryd.pinned (.plain (OpenSpec.upto fnExactTokenMarkSpec)) fnExactTokenMarkUptoCard

/-- THE SECOND FORM's CARD OF 'laws.FnExactIssueToken'. -/
def fnExactIssueTokenUptoCard : Claim7 := { stood := { row := fnExactIssueTokenUptoRow, standIns := [], harness := (true, "52d8ca243935fccf914a81725a983f2fe6ead40c2c6812ae5e361f86ba834e32"), looks := false }, kinds := [], alts := [], laidByText := true, laidKinds := [.data, .data, .data, .data, .data], laidTests := true, laidLooks := .later }
def FnExactIssueTokenUptoCardSaid : Prop := Claim7.holds Tryd.pinned (.plain (OpenSpec.upto fnExactIssueTokenSpec)) fnExactIssueTokenUptoCard

/-- THE SECOND FORM's CARD OF 'laws.FnExactNewClient'. -/
def fnExactNewClientUptoCard : Claim7 := { stood := { row := fnExactNewClientUptoRow, standIns := [], harness := (true, "52d8ca243935fccf914a81725a983f2fe6ead40c2c6812ae5e361f86ba834e32"), looks := false }, kinds := [], alts := [], laidByText := true, laidKinds := [.data, .data, .data, .data, .data], laidTests := true, laidLooks := .later }
def FnExactNewClientUptoCardSaid : Prop := Claim7.holds Tryd.pinned (.plain (OpenSpec.upto fnExactNewClientSpec)) fnExactNewClientUptoCard

/-- THE SECOND FORM's CARD OF 'laws.FnExactClientOK'. -/
def fnExactClientOKUptoCard : Claim7 := { stood := { row := fnExactClientOKUptoRow, standIns := [], harness := (true, "52d8ca243935fccf914a81725a983f2fe6ead40c2c6812ae5e361f86ba834e32"), looks := false }, kinds := [], alts := [], laidByText := true, laidKinds := [.data, .data, .data, .data, .data], laidTests := true, laidLooks := .later }
def FnExactClientOKUptoCardSaid : Prop := Claim7.holds Tryd.pinned (.plain (OpenSpec.upto fnExactClientOKSpec)) fnExactClientOKUptoCard
end Rows
end Go.Proofs.YtkdkiffpbeekcaaDoor
