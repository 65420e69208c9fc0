/-
  FnExactDiffView: for every input the law returns true, and what it reads reads as it did.
  Conditions: those of the given row alone.
-/
import Derived.Test.YtmjjdfhpnckacaaRows
import Derived.Test.YtmjjdfhpnckacaaFi
import Derived.Test.YtmjjdfhpnckacaaDat
import Derived.WalkKit
import Derived.ProofKit
import Derived.OpenShut
import Derived.HandedShaped
namespace Go.Proofs.Ytmjjdfhpnckacaa.fnExactDiffView
open Go.ChangeShapes Go.WideShapes Go.ChangeAt Go.RowKit
set_option linter.unusedVariables false

set_option maxRecDepth 100000 in
theorem lifted (os : Os) (started : os.Started) (H : Type) (enc : TypeId × Value → H) :
    ReturnsInHanded {} Try.checked os 6 .any (Rows.fnExactDiffViewSpec.pre6 enc Try.prog Try.f6 Rows.fnExactDiffViewRow.domain false) (Rows.fnExactDiffViewSpec.post enc Try.prog Try.f6 false true false false) := by
  refine returnsInHanded_of_change_shaped (C := Try.checked) own_knob started (by kernel_rfl) Try.func6
    (ChangeSpec.witness6 (enc := enc) (C := Try.checked) false ⟨#[], #[.int .i64 0, .int .i64 0, .int .i64 0, .int .i64 0, .slice none 0 0, .slice none 0 0], []⟩ 8 (by kernel_rfl) (by kernel_rfl) (by kernel_rfl) (by kernel_rfl)) ?_
  intro W base args ds gs before hval hW _ hwt _ _
  refine law_post (base := base) laid_all rowed_all slices_all dat_lt k_exDiffView.1 ?_ ?_ Try.underlying4 rfl rfl ?_ ⟨rfl, rfl, fun _ => trivial, fun _ => rfl⟩ rfl hval hW hwt
  · exact (.cons D3 (.cons D3 (.cons D3 (.cons D3 (.cons D22 (.cons D22 .nil))))))
  · intro t ht
    rw [Try.params6] at ht
    simp only [List.mem_cons, List.not_mem_nil, or_false] at ht
    rcases ht with rfl | rfl | rfl | rfl | rfl | rfl
    all_goals exact of_decide_eq_true (by kernel_rfl)
  · intro H ds hds
    match ds, hds with
    | [d0, d1, d2, d3, d4, d5], _ => exact ⟨rfl, rfl, rfl⟩

theorem over : Rows.fnExactDiffViewRow.holds Try.pinned (OpenSpec.ofChange Rows.fnExactDiffViewSpec) :=
  OpenClaim.holds_of_wide 6 Try.f6 rfl rfl rfl rfl rfl rfl rfl ⟨rfl, rfl, rfl, rfl, rfl⟩ rfl rfl rfl rfl rfl (by kernel_rfl) Try.func6 (by kernel_rfl)
    (of_decide_eq_true (by kernel_rfl)) (by unfold Func.isWrapper; first | (rw [if_pos (by decide +kernel)]; kernel_rfl) | (rw [if_neg (by decide +kernel)]; exact ⟨rfl, rfl⟩))
    (fun os started H enc _ => lifted os started H enc)

theorem proved : Rows.FnExactDiffViewSaid :=
  over
end Go.Proofs.Ytmjjdfhpnckacaa.fnExactDiffView
