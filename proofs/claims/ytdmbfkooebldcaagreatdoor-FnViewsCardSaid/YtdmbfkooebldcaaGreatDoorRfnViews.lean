/-
  FnViews: for every input the law returns true, and what it reads reads as it did; the tied card.
  Conditions: those of the given row and card alone (the listed tables start as the program's text and the form lay them).
-/
import Derived.Test.YtdmbfkooebldcaaGreatDoorCards
import Derived.Test.YtdmbfkooebldcaaGreatDoorTie
import Derived.Test.YtdmbfkooebldcaaGreatDoorWXfnViews
import Derived.WalkKit
import Derived.ProofKit
import Derived.OpenShut
import Derived.LaidMore
import Derived.Lay
import Derived.SevenTiedAt
import Derived.Stop.Joined
namespace Go.Proofs.YtdmbfkooebldcaaGreatDoor.fnViews
open Go.ChangeShapes Go.WideShapes Go.ChangeAt Go.RowKit
set_option linter.unusedVariables false
set_option linter.unusedSectionVars false


instance : zZ := ⟨fun g => decide (g ∈ ([] : List Nat))⟩
theorem glob {W : World} (h : laidMet Tryz.prog Rows.fnViewsRow.laid W) : zPG W [] := by
  constructor
  rotate_left
  · intro g b hg hl
    cases hg
  intro g T es hg hl
  match g, hg, hl with
  | (g + 0), hg, _ => simp [lk, GT] at hg

set_option maxRecDepth 100000 in
theorem lifted (os : Os) (started : os.Started) (H : Type) (enc : TypeId × Value → H) :
    ReturnsInHanded {} Tryz.checked os 3 .any (fun w args => (Rows.fnViewsSpec.pre enc Tryz.prog Tryz.f3 Rows.fnViewsRow.domain false w args ∧ laidMetH Tryz.prog Rows.fnViewsRow.laid w) ∧ sizedMet enc Tryz.prog Tryz.f3 (OpenSpec.ofChange Rows.fnViewsSpec) false w args)
      (Rows.fnViewsSpec.post enc Tryz.prog Tryz.f3 false true false false) := by
  refine returnsInHanded_of_change_and (C := Tryz.checked) (X := fun w _ => laidMetH Tryz.prog Rows.fnViewsRow.laid w) (fun _ _ _ hh h => h.of_heap hh) own_knob started (by kernel_rfl) Tryz.func3
    (ChangeSpec.witness_shaped (enc := enc) (C := Tryz.checked) (os := os) (X := fun w _ => laidMetH Tryz.prog Rows.fnViewsRow.laid w) false (World.laidAll Tryz.prog os Rows.fnViewsRow.laid) #[.slice none 0 0, .slice none 0 0] 8 (World.laidAll_os _ _ _)
      (World.shaped_of_ZipB (by kernel_rfl) (by kernel_rfl)) (by kernel_rfl) (by kernel_rfl) (by kernel_rfl)
      (by rw [MakeChecks.laidMetH_plain _ _ _ (by kernel_rfl)]; exact laidMet_laidAll _ (by kernel_rfl) (by kernel_rfl))) ?_
  intro W base args ds gs before hval hW hx1 hwt hx2 hx3
  have hX : laidMetH Tryz.prog Rows.fnViewsRow.laid W := by first | exact hx1 | exact hx2 | exact hx3 | exact hx1.2 | exact hx2.2 | exact hx3.2
  rw [MakeChecks.laidMetH_plain _ _ _ (by kernel_rfl)] at hX
  refine zSW (base := base) laid_all zSL zRd dat_lt zSa.1 (glob hX) ?_ ?_ Tryz.underlying4 rfl ?_ ?_ ⟨rfl, rfl, fun _ => trivial, fun _ => rfl⟩ rfl hval hW hwt
  · exact (.cons D22 (.cons D22 .nil))
  · intro t ht
    rw [Tryz.params3] at ht
    simp only [List.mem_cons, List.not_mem_nil, or_false] at ht
    rcases ht with rfl | rfl
    all_goals exact of_decide_eq_true (by kernel_rfl)
  · exact fun n hn g t hg ht => zRi (by kernel_rfl) hn hg ht
  · intro H ds gs hds hgs
    match ds, hds, gs, hgs with
    | [d0, d1], _, [], _ => exact ⟨rfl, rfl, rfl⟩

theorem over : Rows.fnViewsRow.holds Tryz.pinned (OpenSpec.ofChange Rows.fnViewsSpec) :=
  OpenClaim.holds_of_wide 3 Tryz.f3 rfl rfl rfl rfl rfl rfl rfl ⟨rfl, rfl, rfl, rfl, rfl⟩ rfl rfl rfl rfl rfl (by kernel_rfl) Tryz.func3 (by kernel_rfl)
    (of_decide_eq_true (by kernel_rfl)) (by unfold Func.isWrapper; first | (rw [if_pos (by decide +kernel)]; kernel_rfl) | (rw [if_neg (by decide +kernel)]; exact ⟨rfl, rfl⟩))
    (fun os started H enc _ => lifted os started H enc)

theorem proved : Rows.FnViewsCardSaid :=
  Claim7.holds_tied_plain_at .later [] [.data, .pinned] true (true, "2716d4d1c6ad014967d41a9a1cc06687ab03945fff5c94da9b361b3729b7db17") false over (fun _ h => by cases h) (by kernel_rfl) (fun _ h => by cases h) fnViews_row_tie rfl ⟨rfl, rfl⟩ (by kernel_rfl) rfl
    (fun f fn hf hfn => by
      obtain rfl : f = 3 := Option.some.inj ((show Tryz.prog.funcNamed "loop.example/g00308/laws.FnViews" = some 3 by kernel_rfl).symm.trans hf) |>.symm
      obtain rfl : fn = Tryz.f3 := (Option.some.inj (Tryz.func3.symm.trans hfn)).symm
      exact ⟨by kernel_rfl, fun j t ht => by
        rw [Tryz.params3] at ht
        have hm : t ∈ [22, 22] := by simpa using Array.mem_of_getElem? ht
        have hall : ([22, 22].all fun u => !Tryz.prog.wantsStandIn u) = true := by kernel_rfl
        exact (show Tryz.prog.wantsStandIn t = false by simpa using List.all_eq_true.1 hall t hm)⟩)
    (by kernel_rfl)
end Go.Proofs.YtdmbfkooebldcaaGreatDoor.fnViews
