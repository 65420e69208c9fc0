/-
  FnExactReadLine: for every input the law returns true, and what it reads reads as it did; the tied card.
  Conditions: those of the given row and card alone (the listed tables start as the program's text and the form lay them).
-/
import Derived.Test.YtolgjekokdimoaaDoorCards
import Derived.Test.YtolgjekokdimoaaDoorTie
import Derived.Test.YtolgjekokdimoaaDoorM7
import Derived.WalkKit
import Derived.ProofKit
import Derived.OpenShut
import Derived.LaidMore
import Derived.Lay
import Derived.SevenTiedAt
import Derived.Stop.Joined
namespace Go.Proofs.YtolgjekokdimoaaDoor.fnExactReadLine
open Go.ChangeShapes Go.WideShapes Go.ChangeAt Go.RowKit
set_option linter.unusedVariables false
set_option linter.unusedSectionVars false


instance : LaidG := ⟨fun g => decide (g ∈ ([5, 4, 2, 3] : List Nat))⟩
instance : LaidN 5 := ⟨by decide⟩
instance : LaidN 4 := ⟨by decide⟩
instance : LaidN 2 := ⟨by decide⟩
instance : LaidN 3 := ⟨by decide⟩
theorem glob {W : World} (h : laidMet Tryd.prog Rows.fnExactReadLineRow.laid W) (hsh : W.ShapedOpen Tryd.prog) : GlOk W [] := by
  constructor
  rotate_left
  · intro g b hg hl
    match g, hg, hl with
    | 0, hg, _ => cases (show none = some b from hg)
    | 1, hg, _ => cases (show none = some b from hg)
    | 2, hg, _ =>
      cases (show some true = some b from hg)
      exact gl_ifc (name := "strconv.ErrSyntax") (dat := Rows.laid_strconv_ErrSyntax) (g := 2) (t := 85) h ⟨_, _, rfl⟩ (List.mem_of_getElem? (i := 5) (by kernel_rfl)) (by kernel_rfl) (by kernel_rfl) Tryd.underlying85
    | 3, hg, _ =>
      cases (show some true = some b from hg)
      exact gl_ifc (name := "strconv.ErrRange") (dat := Rows.laid_strconv_ErrRange) (g := 3) (t := 85) h ⟨_, _, rfl⟩ (List.mem_of_getElem? (i := 4) (by kernel_rfl)) (by kernel_rfl) (by kernel_rfl) Tryd.underlying85
    | 4, hg, _ =>
      cases (show some false = some b from hg)
      exact gl_int (g := 4) (t := 3) (zero := #[.int .i64 0]) hsh (of_decide_eq_true (by kernel_rfl)) (by kernel_rfl) rfl (by kernel_rfl) (by kernel_rfl) Tryd.underlying3
    | (g + 5), hg, _ => simp [lk, GE] at hg
  intro g T es hg hl
  match g, hg, hl with
  | 0, hg, hl => exact absurd hl (by decide)
  | 1, hg, hl => exact absurd hl (by decide)
  | 2, hg, _ => cases (show none = some (T, es) from hg)
  | 3, hg, _ => cases (show none = some (T, es) from hg)
  | 4, hg, _ => cases (show none = some (T, es) from hg)
  | 5, hg, _ =>
    cases (show some (PTy.int .u64, G5) = some (T, es) from hg)
    exact gl_one (name := "internal/strconv.uint64pow10") (k := .u64) (z0 := 1) (zs := [10, 100, 1000, 10000, 100000, 1000000, 10000000, 100000000, 1000000000, 10000000000, 100000000000, 1000000000000, 10000000000000, 100000000000000, 1000000000000000, 10000000000000000, 100000000000000000, 1000000000000000000, 10000000000000000000]) (g := 5) (t := 146) (e := 124) (n := 20) h (List.mem_of_getElem? (i := 2) (by kernel_rfl)) (by kernel_rfl) (by kernel_rfl) Tryd.underlying146 Tryd.underlying124 (by kernel_rfl) (by kernel_rfl) (of_decide_eq_true (by kernel_rfl))
  | (g + 6), hg, _ => simp [lk, GT] at hg

set_option maxRecDepth 100000 in
theorem lifted (os : Os) (started : os.Started) (H : Type) (enc : TypeId × Value → H) :
    ReturnsInHanded {} Tryd.checked os 6 .any (fun w args => (Rows.fnExactReadLineSpec.pre enc Tryd.prog Tryd.f6 Rows.fnExactReadLineRow.domain false w args ∧ laidMetH Tryd.prog Rows.fnExactReadLineRow.laid w) ∧ sizedMet enc Tryd.prog Tryd.f6 (OpenSpec.ofChange Rows.fnExactReadLineSpec) false w args)
      (Rows.fnExactReadLineSpec.post enc Tryd.prog Tryd.f6 false true false false) := by
  refine returns_shaped (C := Tryd.checked) (X := fun w _ => laidMetH Tryd.prog Rows.fnExactReadLineRow.laid w) (fun _ _ _ hh h => h.of_heap hh) own_knob started (by kernel_rfl) Tryd.func6
    (ChangeSpec.witness_shaped (enc := enc) (C := Tryd.checked) (os := os) (X := fun w _ => laidMetH Tryd.prog Rows.fnExactReadLineRow.laid w) false (World.laidAll Tryd.prog os Rows.fnExactReadLineRow.laid) #[.string ⟨#[]⟩, .int .i64 0] 8 (World.laidAll_os _ _ _)
      (World.shaped_of_ZipB (by kernel_rfl) (by kernel_rfl)) (by kernel_rfl) (by kernel_rfl) (by kernel_rfl)
      (by rw [MakeChecks.laidMetH_plain _ _ _ (by kernel_rfl)]; exact laidMet_laidAll _ (by kernel_rfl) (by kernel_rfl))) ?_
  intro W base args ds gs before hval hW hx1 hwt hx2 hsh
  have hX : laidMetH Tryd.prog Rows.fnExactReadLineRow.laid W := hx2
  rw [MakeChecks.laidMetH_plain _ _ _ (by kernel_rfl)] at hX
  refine law_postV (base := base) laid_all rowed_all slices_all dat_lt k_exReadLine.1 (glob hX hsh) ?_ ?_ Tryd.underlying4 rfl ?_ ?_ ⟨rfl, rfl, fun _ => trivial, fun _ => rfl⟩ rfl hval hW hwt
  · exact (.cons D9 (.cons D3 .nil))
  · intro t ht
    rw [Tryd.params6] at ht
    simp only [List.mem_cons, List.not_mem_nil, or_false] at ht
    rcases ht with rfl | rfl
    all_goals exact of_decide_eq_true (by kernel_rfl)
  · exact fun n hn g t hg ht => lt_of_name (by kernel_rfl) hn hg ht
  · intro H ds gs hds hgs
    match ds, hds, gs, hgs with
    | [d0, d1], _, [], _ => exact ⟨rfl, rfl, rfl⟩

theorem over : Rows.fnExactReadLineRow.holds Tryd.pinned (OpenSpec.ofChange Rows.fnExactReadLineSpec) :=
  OpenClaim.holds_of_wide 6 Tryd.f6 rfl rfl rfl rfl rfl rfl rfl ⟨rfl, rfl, rfl, rfl, rfl⟩ rfl rfl rfl rfl rfl (by kernel_rfl) Tryd.func6 (by kernel_rfl)
    (of_decide_eq_true (by kernel_rfl)) (by unfold Func.isWrapper; first | (rw [if_pos (by decide +kernel)]; kernel_rfl) | (rw [if_neg (by decide +kernel)]; exact ⟨rfl, rfl⟩))
    (fun os started H enc _ => lifted os started H enc)

theorem proved : Rows.FnExactReadLineCardSaid :=
  Claim7.holds_tied_plain_at .later [] [.data, .data, .data, .data, .sentinel, .sentinel, .pinned] true (true, "c4b03cecb316235ffbec490633791e7773486720a5a69595ecb4784658033b8b") true over (fun _ h => by cases h) (by kernel_rfl) (fun _ h => by cases h) fnExactReadLine_row_tie rfl ⟨rfl, rfl⟩ (by kernel_rfl) rfl
    (fun f fn hf hfn => by
      obtain rfl : f = 6 := Option.some.inj ((show Tryd.prog.funcNamed "loop.example/g00308/laws.FnExactReadLine" = some 6 by kernel_rfl).symm.trans hf) |>.symm
      obtain rfl : fn = Tryd.f6 := (Option.some.inj (Tryd.func6.symm.trans hfn)).symm
      exact ⟨by kernel_rfl, fun j t ht => by
        rw [Tryd.params6] at ht
        have hm : t ∈ [9, 3] := by simpa using Array.mem_of_getElem? ht
        have hall : ([9, 3].all fun u => !Tryd.prog.wantsStandIn u) = true := by kernel_rfl
        exact (show Tryd.prog.wantsStandIn t = false by simpa using List.all_eq_true.1 hall t hm)⟩)
    (by kernel_rfl)
end Go.Proofs.YtolgjekokdimoaaDoor.fnExactReadLine
