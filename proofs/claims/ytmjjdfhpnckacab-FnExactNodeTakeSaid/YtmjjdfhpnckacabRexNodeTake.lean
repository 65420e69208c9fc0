/-
  FnExactNodeTake: for every input the law returns true, and what it reads reads as it did.
  Conditions: those of the given row alone.
-/
import Derived.Test.YtmjjdfhpnckacabRows
import Derived.Test.YtmjjdfhpnckacabM9
import Derived.WalkKit
import Derived.ProofKit
import Derived.OpenShut
import Derived.HandedShaped
namespace Go.Proofs.Ytmjjdfhpnckacab.fnExactNodeTake
open Go.ChangeShapes Go.WideShapes Go.ChangeAt Go.RowKit
set_option linter.unusedVariables false

set_option maxRecDepth 100000 in
theorem lifted (os : Os) (started : os.Started) (H : Type) (enc : TypeId × Value → H) :
    ReturnsInHanded {} Try.checked os 7 .any (Rows.fnExactNodeTakeSpec.pre6 enc Try.prog Try.f7 Rows.fnExactNodeTakeRow.domain false) (Rows.fnExactNodeTakeSpec.post enc Try.prog Try.f7 false true false false) := by
  refine returnsInHanded_of_change_shaped (C := Try.checked) own_knob started (by kernel_rfl) Try.func7
    (ChangeSpec.witness6 (enc := enc) (C := Try.checked) false ⟨#[], #[.agg #[.int .i64 0, .int .i64 0, .int .i64 0, .int .i64 0, .int .i64 0, .bool false, .slice none 0 0, .int .i64 0, .int .i64 0, .int .i64 0, .slice none 0 0, .slice none 0 0, .slice none 0 0], .agg #[.int .i64 0, .int .i64 0, .int .i64 0, .int .i64 0, .int .i64 0, .int .i64 0, .int .i64 0, .bool false, .slice none 0 0]], []⟩ 8 (by kernel_rfl) (by kernel_rfl) (by kernel_rfl) (by kernel_rfl)) ?_
  intro W base args ds gs before hval hW _ hwt _ _
  refine law_post (base := base) laid_all rowed_all slices_all dat_lt k_exNodeTake.1 ?_ ?_ Try.underlying4 rfl rfl ?_ ⟨rfl, rfl, fun _ => trivial, fun _ => rfl⟩ rfl hval hW hwt
  · exact (.cons D37 (.cons D70 .nil))
  · intro t ht
    rw [Try.params7] at ht
    simp only [List.mem_cons, List.not_mem_nil, or_false] at ht
    rcases ht with rfl | rfl
    all_goals exact of_decide_eq_true (by kernel_rfl)
  · intro H ds hds
    match ds, hds with
    | [d0, d1], _ => exact ⟨rfl, rfl, rfl⟩

theorem over : Rows.fnExactNodeTakeRow.holds Try.pinned (OpenSpec.ofChange Rows.fnExactNodeTakeSpec) :=
  OpenClaim.holds_of_wide 7 Try.f7 rfl rfl rfl rfl rfl rfl rfl ⟨rfl, rfl, rfl, rfl, rfl⟩ rfl rfl rfl rfl rfl (by kernel_rfl) Try.func7 (by kernel_rfl)
    (of_decide_eq_true (by kernel_rfl)) (by unfold Func.isWrapper; first | (rw [if_pos (by decide +kernel)]; kernel_rfl) | (rw [if_neg (by decide +kernel)]; exact ⟨rfl, rfl⟩))
    (fun os started H enc _ => lifted os started H enc)

theorem proved : Rows.FnExactNodeTakeSaid :=
  over
end Go.Proofs.Ytmjjdfhpnckacab.fnExactNodeTake
