/-
  DERIVED. GIVEN WITH THE SEED: THE CARDS: each row of YtkofjkjcbljkdaaGreatDoorRows.lean that lists a variable, with what it lists TIED to the program's text (the seventh form; the later family's looks); each row that meets fmt, with fmt's text TOLD by the authors' own Lean function (tested against real Go, not proved from fmt's source: count such statements apart). THE CARD IS WHAT COUNTS. Prove the row's statement (the work); the ties are given (YtkofjkjcbljkdaaGreatDoorTie.lean); close each card by the builder's one call (the guide's Derived/Test/ToyasCard.lean, 'card_holds'). Laid BY PROGRAM, IN A SANDBOX (cutbox-door.mjs). By AI agents, Wed Nov 11 2026. No macro, syntax, notation, axiom, sorry.
-/
import Derived.Test.YtkofjkjcbljkdaaGreatDoorRows
import GoSem.ClaimSeven
namespace Go.Proofs.YtkofjkjcbljkdaaGreatDoor
namespace Rows

/-- THE TIED CARD OF 'laws.FnViews'. -/
def fnViewsCard : Claim7 := { stood := { row := fnViewsRow, standIns := [], harness := (true, "6ede247ebfb5dd13c7dc66627455661f57e04a16b090e40d966d03ed702e3255"), looks := false }, kinds := [], alts := [], laidByText := true, laidKinds := [.data, .pinned], laidTests := true, laidLooks := .later }
def FnViewsCardSaid : Prop := Claim7.holds Tryz.pinned (.plain (OpenSpec.ofChange fnViewsSpec)) fnViewsCard

/-- THE TIED CARD OF 'laws.FnExactNewWorld'. -/
def fnExactNewWorldCard : Claim7 := { stood := { row := fnExactNewWorldRow, standIns := [], harness := (true, "6ede247ebfb5dd13c7dc66627455661f57e04a16b090e40d966d03ed702e3255"), looks := false }, kinds := [], alts := [], laidByText := true, laidKinds := [.data, .data, .data, .data, .data], laidTests := true, laidLooks := .later }
def FnExactNewWorldCardSaid : Prop := Claim7.holds Tryz.pinned (.plain (OpenSpec.ofChange fnExactNewWorldSpec)) fnExactNewWorldCard

/-- THE TIED CARD OF 'laws.FnExactWorldOK'. -/
def fnExactWorldOKCard : Claim7 := { stood := { row := fnExactWorldOKRow, standIns := [], harness := (true, "6ede247ebfb5dd13c7dc66627455661f57e04a16b090e40d966d03ed702e3255"), looks := false }, kinds := [], alts := [], laidByText := true, laidKinds := [.data, .data, .data, .data, .data], laidTests := true, laidLooks := .later }
def FnExactWorldOKCardSaid : Prop := Claim7.holds Tryz.pinned (.plain (OpenSpec.ofChange fnExactWorldOKSpec)) fnExactWorldOKCard

/-- THE SECOND FORM's CARD OF 'laws.FnViews'. -/
def fnViewsUptoCard : Claim7 := { stood := { row := fnViewsUptoRow, standIns := [], harness := (true, "6ede247ebfb5dd13c7dc66627455661f57e04a16b090e40d966d03ed702e3255"), looks := false }, kinds := [], alts := [], laidByText := true, laidKinds := [.data, .pinned], laidTests := true, laidLooks := .later }
def FnViewsUptoCardSaid : Prop := Claim7.holds Tryz.pinned (.plain (OpenSpec.upto fnViewsSpec)) fnViewsUptoCard

/-- THE SECOND FORM's CARD OF 'laws.FnExactNewWorld'. -/
def fnExactNewWorldUptoCard : Claim7 := { stood := { row := fnExactNewWorldUptoRow, standIns := [], harness := (true, "6ede247ebfb5dd13c7dc66627455661f57e04a16b090e40d966d03ed702e3255"), looks := false }, kinds := [], alts := [], laidByText := true, laidKinds := [.data, .data, .data, .data, .data], laidTests := true, laidLooks := .later }
def FnExactNewWorldUptoCardSaid : Prop := Claim7.holds Tryz.pinned (.plain (OpenSpec.upto fnExactNewWorldSpec)) fnExactNewWorldUptoCard

/-- THE SECOND FORM's CARD OF 'laws.FnExactWorldOK'. -/
def fnExactWorldOKUptoCard : Claim7 := { stood := { row := fnExactWorldOKUptoRow, standIns := [], harness := (true, "6ede247ebfb5dd13c7dc66627455661f57e04a16b090e40d966d03ed702e3255"), looks := false }, kinds := [], alts := [], laidByText := true, laidKinds := [.data, .data, .data, .data, .data], laidTests := true, laidLooks := .later }
def FnExactWorldOKUptoCardSaid : Prop := Claim7.holds Tryz.pinned (.plain (OpenSpec.upto fnExactWorldOKSpec)) fnExactWorldOKUptoCard
end Rows
end Go.Proofs.YtkofjkjcbljkdaaGreatDoor
