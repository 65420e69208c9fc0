/-
  FnViewBytes: for every input the law returns true, and what it reads reads as it did.
  Conditions: those of the given row alone.
-/
import Derived.Test.YtdmbfkooebldcaaRows
import Derived.Test.YtdmbfkooebldcaaWXfnViewBytes
import Derived.WalkKit
import Derived.ProofKit
import Derived.OpenShut
import Derived.HandedShaped
namespace Go.Proofs.Ytdmbfkooebldcaa.fnViewBytes
open Go.ChangeShapes Go.WideShapes Go.ChangeAt Go.RowKit
set_option linter.unusedVariables false
set_option linter.unusedSectionVars false
instance : ze := ⟨fun _ => false⟩

set_option maxRecDepth 100000 in
theorem lifted (os : Os) (started : os.Started) (H : Type) (enc : TypeId × Value → H) :
    ReturnsInHanded {} Try.checked os 3 .any (Rows.fnViewBytesSpec.pre6 enc Try.prog Try.f3 Rows.fnViewBytesRow.domain false) (Rows.fnViewBytesSpec.post enc Try.prog Try.f3 false true false false) := by
  refine returnsInHanded_of_change_shaped (C := Try.checked) own_knob started (by kernel_rfl) Try.func3
    (ChangeSpec.witness6 (enc := enc) (C := Try.checked) false ⟨#[], #[.slice none 0 0, .slice none 0 0], []⟩ 8 (by kernel_rfl) (by kernel_rfl) (by kernel_rfl) (by kernel_rfl)) ?_
  intro W base args ds gs before hval hW _ hwt _ _
  refine law_post (base := base) laid_all zSh zRz dat_lt zOZ.1 ⟨fun g T es _ hl => absurd (show false = true from hl) (by decide), fun g b _ hl => absurd (show false = true from hl) (by decide)⟩ ?_ ?_ Try.underlying4 rfl rfl ?_ ⟨rfl, rfl, fun _ => trivial, fun _ => rfl⟩ rfl hval hW hwt
  · exact (.cons D22 (.cons D22 .nil))
  · intro t ht
    rw [Try.params3] at ht
    simp only [List.mem_cons, List.not_mem_nil, or_false] at ht
    rcases ht with rfl | rfl
    all_goals exact of_decide_eq_true (by kernel_rfl)
  · intro H ds hds
    match ds, hds with
    | [d0, d1], _ => exact ⟨rfl, rfl, rfl⟩

theorem over : Rows.fnViewBytesRow.holds Try.pinned (OpenSpec.ofChange Rows.fnViewBytesSpec) :=
  OpenClaim.holds_of_wide 3 Try.f3 rfl rfl rfl rfl rfl rfl rfl ⟨rfl, rfl, rfl, rfl, rfl⟩ rfl rfl rfl rfl rfl (by kernel_rfl) Try.func3 (by kernel_rfl)
    (of_decide_eq_true (by kernel_rfl)) (by unfold Func.isWrapper; first | (rw [if_pos (by decide +kernel)]; kernel_rfl) | (rw [if_neg (by decide +kernel)]; exact ⟨rfl, rfl⟩))
    (fun os started H enc _ => lifted os started H enc)

theorem proved : Rows.FnViewBytesSaid :=
  over
end Go.Proofs.Ytdmbfkooebldcaa.fnViewBytes
