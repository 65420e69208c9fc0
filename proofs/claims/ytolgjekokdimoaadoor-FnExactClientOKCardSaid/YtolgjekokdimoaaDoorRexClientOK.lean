/-
  FnExactClientOK: for every input the law returns true, and what it reads reads as it did; the tied card.
  Conditions: those of the given row and card alone (the listed tables start as the program's text and the form lay them).
-/
import Derived.Test.YtolgjekokdimoaaDoorCards
import Derived.Test.YtolgjekokdimoaaDoorTie
import Derived.Test.YtolgjekokdimoaaDoorM8
import Derived.WalkKit
import Derived.ProofKit
import Derived.OpenShut
import Derived.LaidMore
import Derived.Lay
import Derived.SevenTiedAt
import Derived.Stop.Joined
namespace Go.Proofs.YtolgjekokdimoaaDoor.fnExactClientOK
open Go.ChangeShapes Go.WideShapes Go.ChangeAt Go.RowKit
set_option linter.unusedVariables false


theorem glob {W : World} (h : laidMet Tryd.prog Rows.fnExactClientOKRow.laid W) : GlOk W [] := by
  constructor
  rotate_left
  · intro g b hg
    cases hg
  intro g T es hg
  match g, hg with
  | 0, hg =>
    cases (show some (PTy.int .u32, G0) = some (T, es) from hg)
    exact gl_one (name := "loop.example/g00308/impl.hashStart") (k := .u32) (z0 := 1779033703) (zs := [3144134277, 1013904242, 2773480762, 1359893119, 2600822924, 528734635, 1541459225]) (g := 0) (t := 107) (e := 102) (n := 8) h (List.mem_of_getElem? (i := 3) (by kernel_rfl)) (by kernel_rfl) (by kernel_rfl) Tryd.underlying107 Tryd.underlying102 (by kernel_rfl) (by kernel_rfl) (of_decide_eq_true (by kernel_rfl))
  | 1, hg =>
    cases (show some (PTy.int .u32, G1) = some (T, es) from hg)
    exact gl_one (name := "loop.example/g00308/impl.hashRounds") (k := .u32) (z0 := 1116352408) (zs := [1899447441, 3049323471, 3921009573, 961987163, 1508970993, 2453635748, 2870763221, 3624381080, 310598401, 607225278, 1426881987, 1925078388, 2162078206, 2614888103, 3248222580, 3835390401, 4022224774, 264347078, 604807628, 770255983, 1249150122, 1555081692, 1996064986, 2554220882, 2821834349, 2952996808, 3210313671, 3336571891, 3584528711, 113926993, 338241895, 666307205, 773529912, 1294757372, 1396182291, 1695183700, 1986661051, 2177026350, 2456956037, 2730485921, 2820302411, 3259730800, 3345764771, 3516065817, 3600352804, 4094571909, 275423344, 430227734, 506948616, 659060556, 883997877, 958139571, 1322822218, 1537002063, 1747873779, 1955562222, 2024104815, 2227730452, 2361852424, 2428436474, 2756734187, 3204031479, 3329325298]) (g := 1) (t := 137) (e := 102) (n := 64) h (List.mem_of_getElem? (i := 4) (by kernel_rfl)) (by kernel_rfl) (by kernel_rfl) Tryd.underlying137 Tryd.underlying102 (by kernel_rfl) (by kernel_rfl) (of_decide_eq_true (by kernel_rfl))
  | 2, hg => cases (show none = some (T, es) from hg)
  | 3, hg => cases (show none = some (T, es) from hg)
  | 4, hg => cases (show none = some (T, es) from hg)
  | 5, hg =>
    cases (show some (PTy.int .u64, G5) = some (T, es) from hg)
    exact gl_one (name := "internal/strconv.uint64pow10") (k := .u64) (z0 := 1) (zs := [10, 100, 1000, 10000, 100000, 1000000, 10000000, 100000000, 1000000000, 10000000000, 100000000000, 1000000000000, 10000000000000, 100000000000000, 1000000000000000, 10000000000000000, 100000000000000000, 1000000000000000000, 10000000000000000000]) (g := 5) (t := 146) (e := 124) (n := 20) h (List.mem_of_getElem? (i := 2) (by kernel_rfl)) (by kernel_rfl) (by kernel_rfl) Tryd.underlying146 Tryd.underlying124 (by kernel_rfl) (by kernel_rfl) (of_decide_eq_true (by kernel_rfl))
  | (g + 6), hg => simp [lk, GT] at hg

set_option maxRecDepth 100000 in
theorem lifted (os : Os) (started : os.Started) (H : Type) (enc : TypeId × Value → H) :
    ReturnsInHanded {} Tryd.checked os 5 .any (fun w args => (Rows.fnExactClientOKSpec.pre enc Tryd.prog Tryd.f5 Rows.fnExactClientOKRow.domain false w args ∧ laidMetH Tryd.prog Rows.fnExactClientOKRow.laid w) ∧ sizedMet enc Tryd.prog Tryd.f5 (OpenSpec.ofChange Rows.fnExactClientOKSpec) false w args)
      (Rows.fnExactClientOKSpec.post enc Tryd.prog Tryd.f5 false true false false) := by
  refine returnsInHanded_of_change_and (C := Tryd.checked) (X := fun w _ => laidMetH Tryd.prog Rows.fnExactClientOKRow.laid w) (fun _ _ _ hh h => h.of_heap hh) own_knob started (by kernel_rfl) Tryd.func5
    (ChangeSpec.witness_shaped (enc := enc) (C := Tryd.checked) (os := os) (X := fun w _ => laidMetH Tryd.prog Rows.fnExactClientOKRow.laid w) false (World.laidAll Tryd.prog os Rows.fnExactClientOKRow.laid) #[.string ⟨#[]⟩, .agg #[.int .i64 0, .string ⟨#[]⟩, .string ⟨#[]⟩, .int .i64 0, .int .i64 0, .int .i64 0, .slice none 0 0]] 8 (World.laidAll_os _ _ _)
      (World.shaped_of_ZipB (by kernel_rfl) (by kernel_rfl)) (by kernel_rfl) (by kernel_rfl) (by kernel_rfl)
      (by rw [MakeChecks.laidMetH_plain _ _ _ (by kernel_rfl)]; exact laidMet_laidAll _ (by kernel_rfl) (by kernel_rfl))) ?_
  intro W base args ds gs before hval hW hx1 hwt hx2 hx3
  have hX : laidMetH Tryd.prog Rows.fnExactClientOKRow.laid W := by first | exact hx1 | exact hx2 | exact hx3 | exact hx1.2 | exact hx2.2 | exact hx3.2
  rw [MakeChecks.laidMetH_plain _ _ _ (by kernel_rfl)] at hX
  refine law_postV (base := base) laid_all rowed_all slices_all dat_lt k_exClientOK.1 (glob hX) ?_ ?_ Tryd.underlying4 rfl ?_ ?_ ⟨rfl, rfl, fun _ => trivial, fun _ => rfl⟩ rfl hval hW hwt
  · exact (.cons D9 (.cons D37 .nil))
  · intro t ht
    rw [Tryd.params5] at ht
    simp only [List.mem_cons, List.not_mem_nil, or_false] at ht
    rcases ht with rfl | rfl
    all_goals exact of_decide_eq_true (by kernel_rfl)
  · exact fun n hn g t hg ht => lt_of_name (by kernel_rfl) hn hg ht
  · intro H ds gs hds hgs
    match ds, hds, gs, hgs with
    | [d0, d1], _, [e0, e1], _ => exact ⟨rfl, rfl, rfl⟩

theorem over : Rows.fnExactClientOKRow.holds Tryd.pinned (OpenSpec.ofChange Rows.fnExactClientOKSpec) :=
  OpenClaim.holds_of_wide 5 Tryd.f5 rfl rfl rfl rfl rfl rfl rfl ⟨rfl, rfl, rfl, rfl, rfl⟩ rfl rfl rfl rfl rfl (by kernel_rfl) Tryd.func5 (by kernel_rfl)
    (of_decide_eq_true (by kernel_rfl)) (by unfold Func.isWrapper; first | (rw [if_pos (by decide +kernel)]; kernel_rfl) | (rw [if_neg (by decide +kernel)]; exact ⟨rfl, rfl⟩))
    (fun os started H enc _ => lifted os started H enc)

theorem proved : Rows.FnExactClientOKCardSaid :=
  Claim7.holds_tied_plain_at .later [] [.data, .data, .data, .data, .data] true (true, "c4b03cecb316235ffbec490633791e7773486720a5a69595ecb4784658033b8b") true over (fun _ h => by cases h) (by kernel_rfl) (fun _ h => by cases h) fnExactClientOK_row_tie rfl ⟨rfl, rfl⟩ (by kernel_rfl) rfl
    (fun f fn hf hfn => by
      obtain rfl : f = 5 := Option.some.inj ((show Tryd.prog.funcNamed "loop.example/g00308/laws.FnExactClientOK" = some 5 by kernel_rfl).symm.trans hf) |>.symm
      obtain rfl : fn = Tryd.f5 := (Option.some.inj (Tryd.func5.symm.trans hfn)).symm
      exact ⟨by kernel_rfl, fun j t ht => by
        rw [Tryd.params5] at ht
        have hm : t ∈ [9, 37] := by simpa using Array.mem_of_getElem? ht
        have hall : ([9, 37].all fun u => !Tryd.prog.wantsStandIn u) = true := by kernel_rfl
        exact (show Tryd.prog.wantsStandIn t = false by simpa using List.all_eq_true.1 hall t hm)⟩)
    (by kernel_rfl)
end Go.Proofs.YtolgjekokdimoaaDoor.fnExactClientOK
