/-
  DERIVED. GIVEN WITH THE SEED: THE CARDS: each row of YtolgjekokdimoaaGreatDoorRows.lean that lists a variable, with what it lists TIED to the program's text (the seventh form; the later family's looks); each row that meets fmt, with fmt's text TOLD by the authors' own Lean function (tested against real Go, not proved from fmt's source: count such statements apart). THE CARD IS WHAT COUNTS. Prove the row's statement (the work); the ties are given (YtolgjekokdimoaaGreatDoorTie.lean); close each card by the builder's one call (the guide's Derived/Test/ToyasCard.lean, 'card_holds'). Laid BY PROGRAM, IN A SANDBOX (cutbox-door.mjs). By AI agents, Wed Nov 11 2026. No macro, syntax, notation, axiom, sorry.
-/
import Derived.Test.YtolgjekokdimoaaGreatDoorRows
import GoSem.ClaimSeven
namespace Go.Proofs.YtolgjekokdimoaaGreatDoor
namespace Rows

/-- THE TIED CARD OF 'laws.FnExactClientAccept'. -/
def fnExactClientAcceptCard : Claim7 := { stood := { row := fnExactClientAcceptRow, standIns := [], harness := (true, "a0f4ce53ea7091078f7e4f1ac3759073d3c88889420d5277f76f25fc34ffda72"), looks := true }, kinds := [], alts := [], laidByText := true, laidKinds := [.data, .data, .data, .data, .data], laidTests := true, laidLooks := .later }
def FnExactClientAcceptCardSaid : Prop := Claim7.holds Tryz.pinned (.plain (OpenSpec.ofChange fnExactClientAcceptSpec)) fnExactClientAcceptCard

/-- THE TIED CARD OF 'laws.FnExactReadToken'. -/
def fnExactReadTokenCard : Claim7 := { stood := { row := fnExactReadTokenRow, standIns := [], harness := (true, "a0f4ce53ea7091078f7e4f1ac3759073d3c88889420d5277f76f25fc34ffda72"), looks := true }, kinds := [], alts := [], laidByText := true, laidKinds := [.data, .data, .data, .data, .sentinel, .sentinel, .data, .data, .pinned], laidTests := true, laidLooks := .later }
def FnExactReadTokenCardSaid : Prop := Claim7.holds Tryz.pinned (.plain (OpenSpec.ofChange fnExactReadTokenSpec)) fnExactReadTokenCard

/-- THE TIED CARD OF 'laws.FnTokens'. -/
def fnTokensCard : Claim7 := { stood := { row := fnTokensRow, standIns := [], harness := (true, "a0f4ce53ea7091078f7e4f1ac3759073d3c88889420d5277f76f25fc34ffda72"), looks := true }, kinds := [], alts := [], laidByText := true, laidKinds := [.data, .data, .data, .data, .sentinel, .sentinel, .data, .data, .pinned], laidTests := true, laidLooks := .later }
def FnTokensCardSaid : Prop := Claim7.holds Tryz.pinned (.plain (OpenSpec.ofChange fnTokensSpec)) fnTokensCard

/-- THE TIED CARD OF 'laws.FnViews'. -/
def fnViewsCard : Claim7 := { stood := { row := fnViewsRow, standIns := [], harness := (true, "a0f4ce53ea7091078f7e4f1ac3759073d3c88889420d5277f76f25fc34ffda72"), looks := true }, kinds := [], alts := [], laidByText := true, laidKinds := [.data, .pinned], laidTests := true, laidLooks := .later }
def FnViewsCardSaid : Prop := Claim7.holds Tryz.pinned (.plain (OpenSpec.ofChange fnViewsSpec)) fnViewsCard

/-- THE SECOND FORM's CARD OF 'laws.FnExactClientAccept'. -/
def fnExactClientAcceptUptoCard : Claim7 := { stood := { row := fnExactClientAcceptUptoRow, standIns := [], harness := (true, "a0f4ce53ea7091078f7e4f1ac3759073d3c88889420d5277f76f25fc34ffda72"), looks := true }, kinds := [], alts := [], laidByText := true, laidKinds := [.data, .data, .data, .data, .data], laidTests := true, laidLooks := .later }
def FnExactClientAcceptUptoCardSaid : Prop := Claim7.holds Tryz.pinned (.plain (OpenSpec.upto fnExactClientAcceptSpec)) fnExactClientAcceptUptoCard

/-- THE SECOND FORM's CARD OF 'laws.FnExactReadToken'. -/
def fnExactReadTokenUptoCard : Claim7 := { stood := { row := fnExactReadTokenUptoRow, standIns := [], harness := (true, "a0f4ce53ea7091078f7e4f1ac3759073d3c88889420d5277f76f25fc34ffda72"), looks := true }, kinds := [], alts := [], laidByText := true, laidKinds := [.data, .data, .data, .data, .sentinel, .sentinel, .data, .data, .pinned], laidTests := true, laidLooks := .later }
def FnExactReadTokenUptoCardSaid : Prop := Claim7.holds Tryz.pinned (.plain (OpenSpec.upto fnExactReadTokenSpec)) fnExactReadTokenUptoCard

/-- THE SECOND FORM's CARD OF 'laws.FnTokens'. -/
def fnTokensUptoCard : Claim7 := { stood := { row := fnTokensUptoRow, standIns := [], harness := (true, "a0f4ce53ea7091078f7e4f1ac3759073d3c88889420d5277f76f25fc34ffda72"), looks := true }, kinds := [], alts := [], laidByText := true, laidKinds := [.data, .data, .data, .data, .sentinel, .sentinel, .data, .data, .pinned], laidTests := true, laidLooks := .later }
def FnTokensUptoCardSaid : Prop := Claim7.holds Tryz.pinned (.plain (OpenSpec.upto fnTokensSpec)) fnTokensUptoCard

/-- THE SECOND FORM's CARD OF 'laws.FnViews'. -/
def fnViewsUptoCard : Claim7 := { stood := { row := fnViewsUptoRow, standIns := [], harness := (true, "a0f4ce53ea7091078f7e4f1ac3759073d3c88889420d5277f76f25fc34ffda72"), looks := true }, kinds := [], alts := [], laidByText := true, laidKinds := [.data, .pinned], laidTests := true, laidLooks := .later }
def FnViewsUptoCardSaid : Prop := Claim7.holds Tryz.pinned (.plain (OpenSpec.upto fnViewsSpec)) fnViewsUptoCard
end Rows
end Go.Proofs.YtolgjekokdimoaaGreatDoor
