/-
  FnExactMirrorText: for every input the law returns true, and what it reads reads as it did; the tied card.
  Conditions: those of the given row and card alone (the listed tables start as the program's text and the form lay them).
-/
import Derived.Test.YtdbkjmigdabifaaDoorCards
import Derived.Test.YtdbkjmigdabifaaDoorTie
import Derived.Test.YtdbkjmigdabifaaDoorFs
import Derived.Test.YtdbkjmigdabifaaDoorDat
import Derived.WalkKit
import Derived.ProofKit
import Derived.OpenShut
import Derived.LaidMore
import Derived.Lay
import Derived.SevenTiedAt
import Derived.Stop.Joined
namespace Go.Proofs.YtdbkjmigdabifaaDoor.fnExactMirrorText
open Go.ChangeShapes Go.WideShapes Go.ChangeAt Go.RowKit
set_option linter.unusedVariables false

set_option maxRecDepth 100000 in
theorem lifted (os : Os) (started : os.Started) (H : Type) (enc : TypeId × Value → H) :
    ReturnsInHanded {} Tryd.checked os 3 .any (fun w args => (Rows.fnExactMirrorTextSpec.pre enc Tryd.prog Tryd.f3 Rows.fnExactMirrorTextRow.domain false w args ∧ laidMetH Tryd.prog Rows.fnExactMirrorTextRow.laid w) ∧ sizedMet enc Tryd.prog Tryd.f3 (OpenSpec.ofChange Rows.fnExactMirrorTextSpec) false w args)
      (Rows.fnExactMirrorTextSpec.post enc Tryd.prog Tryd.f3 false true false false) := by
  refine returnsInHanded_of_change_and (C := Tryd.checked) (X := fun w _ => laidMetH Tryd.prog Rows.fnExactMirrorTextRow.laid w) (fun _ _ _ hh h => h.of_heap hh) own_knob started (by kernel_rfl) Tryd.func3
    (ChangeSpec.witness_shaped (enc := enc) (C := Tryd.checked) (os := os) (X := fun w _ => laidMetH Tryd.prog Rows.fnExactMirrorTextRow.laid w) false (World.laidAll Tryd.prog os Rows.fnExactMirrorTextRow.laid) #[.agg #[.int .i64 0, .int .i64 0, .int .i64 0, .slice none 0 0]] 8 (World.laidAll_os _ _ _)
      (World.shaped_of_ZipB (by kernel_rfl) (by kernel_rfl)) (by kernel_rfl) (by kernel_rfl) (by kernel_rfl)
      (by rw [MakeChecks.laidMetH_plain _ _ _ (by kernel_rfl)]; exact laidMet_laidAll _ (by kernel_rfl) (by kernel_rfl))) ?_
  intro W base args ds gs before hval hW _ hwt _ _
  refine law_post (base := base) laid_all rowed_all slices_all dat_lt k_exMirrorText.1 ?_ ?_ Tryd.underlying4 rfl rfl ?_ ⟨rfl, rfl, fun _ => trivial, fun _ => rfl⟩ rfl hval hW hwt
  · exact (.cons D24 .nil)
  · intro t ht
    rw [Tryd.params3] at ht
    simp only [List.mem_cons, List.not_mem_nil, or_false] at ht
    rcases ht with rfl
    all_goals exact of_decide_eq_true (by kernel_rfl)
  · intro H ds hds
    match ds, hds with
    | [d0], _ => exact ⟨rfl, rfl, rfl⟩

theorem over : Rows.fnExactMirrorTextRow.holds Tryd.pinned (OpenSpec.ofChange Rows.fnExactMirrorTextSpec) :=
  OpenClaim.holds_of_wide 3 Tryd.f3 rfl rfl rfl rfl rfl rfl rfl ⟨rfl, rfl, rfl, rfl, rfl⟩ rfl rfl rfl rfl rfl (by kernel_rfl) Tryd.func3 (by kernel_rfl)
    (of_decide_eq_true (by kernel_rfl)) (by unfold Func.isWrapper; first | (rw [if_pos (by decide +kernel)]; kernel_rfl) | (rw [if_neg (by decide +kernel)]; exact ⟨rfl, rfl⟩))
    (fun os started H enc _ => lifted os started H enc)

theorem proved : Rows.FnExactMirrorTextCardSaid :=
  Claim7.holds_tied_plain_at .later [] [.data, .pinned] true (true, "d109f975903cb1d4517b5729d5939597d2de1d29e169e734ad81ca3b1846b667") false over (fun _ h => by cases h) (by kernel_rfl) (fun _ h => by cases h) fnExactMirrorText_row_tie rfl ⟨rfl, rfl⟩ (by kernel_rfl) rfl
    (fun f fn hf hfn => by
      obtain rfl : f = 3 := Option.some.inj ((show Tryd.prog.funcNamed "loop.example/g00308/laws.FnExactMirrorText" = some 3 by kernel_rfl).symm.trans hf) |>.symm
      obtain rfl : fn = Tryd.f3 := (Option.some.inj (Tryd.func3.symm.trans hfn)).symm
      exact ⟨by kernel_rfl, fun j t ht => by
        rw [Tryd.params3] at ht
        have hm : t ∈ [24] := by simpa using Array.mem_of_getElem? ht
        have hall : ([24].all fun u => !Tryd.prog.wantsStandIn u) = true := by kernel_rfl
        exact (show Tryd.prog.wantsStandIn t = false by simpa using List.all_eq_true.1 hall t hm)⟩)
    (by kernel_rfl)
end Go.Proofs.YtdbkjmigdabifaaDoor.fnExactMirrorText
