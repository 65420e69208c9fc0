/-
  FnExactWorldOK: for every input the law returns true, and what it reads reads as it did; the tied card.
  Conditions: those of the given row and card alone (the listed tables start as the program's text and the form lay them).
-/
import Derived.Test.YtkofjkjcbljkdaaGreatDoorCards
import Derived.Test.YtkofjkjcbljkdaaGreatDoorTie
import Derived.Test.YtkofjkjcbljkdaaGreatDoorM9
import Derived.WalkKit
import Derived.ProofKit
import Derived.OpenShut
import Derived.LaidMore
import Derived.Lay
import Derived.SevenTiedAt
import Derived.Stop.Joined
namespace Go.Proofs.YtkofjkjcbljkdaaGreatDoor.fnExactWorldOK
open Go.ChangeShapes Go.WideShapes Go.ChangeAt Go.RowKit
set_option linter.unusedVariables false
set_option linter.unusedSectionVars false


instance : LaidG := ⟨fun g => decide (g ∈ ([3, 4, 5] : List Nat))⟩
instance : LaidN 3 := ⟨by decide⟩
instance : LaidN 4 := ⟨by decide⟩
instance : LaidN 5 := ⟨by decide⟩
theorem glob {W : World} (h : laidMet Tryz.prog Rows.fnExactWorldOKRow.laid W) : GlOk W [] := by
  constructor
  rotate_left
  · intro g b hg hl
    cases hg
  intro g T es hg hl
  match g, hg, hl with
  | 0, hg, _ => cases (show none = some (T, es) from hg)
  | 1, hg, _ => cases (show none = some (T, es) from hg)
  | 2, hg, _ => cases (show none = some (T, es) from hg)
  | 3, hg, _ =>
    cases (show some (PTy.int .u32, G3) = some (T, es) from hg)
    exact gl_one (name := "loop.example/g00308/impl.hashStart") (k := .u32) (z0 := 1779033703) (zs := [3144134277, 1013904242, 2773480762, 1359893119, 2600822924, 528734635, 1541459225]) (g := 3) (t := 275) (e := 229) (n := 8) h (List.mem_of_getElem? (i := 3) (by kernel_rfl)) (by kernel_rfl) (by kernel_rfl) Tryz.underlying275 Tryz.underlying229 (by kernel_rfl) (by kernel_rfl) (of_decide_eq_true (by kernel_rfl))
  | 4, hg, _ =>
    cases (show some (PTy.int .u32, G4) = some (T, es) from hg)
    exact gl_one (name := "loop.example/g00308/impl.hashRounds") (k := .u32) (z0 := 1116352408) (zs := [1899447441, 3049323471, 3921009573, 961987163, 1508970993, 2453635748, 2870763221, 3624381080, 310598401, 607225278, 1426881987, 1925078388, 2162078206, 2614888103, 3248222580, 3835390401, 4022224774, 264347078, 604807628, 770255983, 1249150122, 1555081692, 1996064986, 2554220882, 2821834349, 2952996808, 3210313671, 3336571891, 3584528711, 113926993, 338241895, 666307205, 773529912, 1294757372, 1396182291, 1695183700, 1986661051, 2177026350, 2456956037, 2730485921, 2820302411, 3259730800, 3345764771, 3516065817, 3600352804, 4094571909, 275423344, 430227734, 506948616, 659060556, 883997877, 958139571, 1322822218, 1537002063, 1747873779, 1955562222, 2024104815, 2227730452, 2361852424, 2428436474, 2756734187, 3204031479, 3329325298]) (g := 4) (t := 293) (e := 229) (n := 64) h (List.mem_of_getElem? (i := 4) (by kernel_rfl)) (by kernel_rfl) (by kernel_rfl) Tryz.underlying293 Tryz.underlying229 (by kernel_rfl) (by kernel_rfl) (of_decide_eq_true (by kernel_rfl))
  | 5, hg, _ =>
    cases (show some (PTy.int .u64, G5) = some (T, es) from hg)
    exact gl_one (name := "internal/strconv.uint64pow10") (k := .u64) (z0 := 1) (zs := [10, 100, 1000, 10000, 100000, 1000000, 10000000, 100000000, 1000000000, 10000000000, 100000000000, 1000000000000, 10000000000000, 100000000000000, 1000000000000000, 10000000000000000, 100000000000000000, 1000000000000000000, 10000000000000000000]) (g := 5) (t := 296) (e := 283) (n := 20) h (List.mem_of_getElem? (i := 2) (by kernel_rfl)) (by kernel_rfl) (by kernel_rfl) Tryz.underlying296 Tryz.underlying283 (by kernel_rfl) (by kernel_rfl) (of_decide_eq_true (by kernel_rfl))
  | (g + 6), hg, _ => simp [lk, GT] at hg

set_option maxRecDepth 100000 in
theorem lifted (os : Os) (started : os.Started) (H : Type) (enc : TypeId × Value → H) :
    ReturnsInHanded {} Tryz.checked os 5 .any (fun w args => (Rows.fnExactWorldOKSpec.pre enc Tryz.prog Tryz.f5 Rows.fnExactWorldOKRow.domain false w args ∧ laidMetH Tryz.prog Rows.fnExactWorldOKRow.laid w) ∧ sizedMet enc Tryz.prog Tryz.f5 (OpenSpec.ofChange Rows.fnExactWorldOKSpec) false w args)
      (Rows.fnExactWorldOKSpec.post enc Tryz.prog Tryz.f5 false true false false) := by
  refine returnsInHanded_of_change_and (C := Tryz.checked) (X := fun w _ => laidMetH Tryz.prog Rows.fnExactWorldOKRow.laid w) (fun _ _ _ hh h => h.of_heap hh) own_knob started (by kernel_rfl) Tryz.func5
    (ChangeSpec.witness_shaped (enc := enc) (C := Tryz.checked) (os := os) (X := fun w _ => laidMetH Tryz.prog Rows.fnExactWorldOKRow.laid w) false (World.laidAll Tryz.prog os Rows.fnExactWorldOKRow.laid) #[.agg #[.int .i64 0, .int .i64 0, .slice none 0 0, .slice none 0 0, .slice none 0 0, .slice none 0 0, .slice none 0 0]] 8 (World.laidAll_os _ _ _)
      (World.shaped_of_ZipB (by kernel_rfl) (by kernel_rfl)) (by kernel_rfl) (by kernel_rfl) (by kernel_rfl)
      (by rw [MakeChecks.laidMetH_plain _ _ _ (by kernel_rfl)]; exact laidMet_laidAll _ (by kernel_rfl) (by kernel_rfl))) ?_
  intro W base args ds gs before hval hW hx1 hwt hx2 hx3
  have hX : laidMetH Tryz.prog Rows.fnExactWorldOKRow.laid W := by first | exact hx1 | exact hx2 | exact hx3 | exact hx1.2 | exact hx2.2 | exact hx3.2
  rw [MakeChecks.laidMetH_plain _ _ _ (by kernel_rfl)] at hX
  refine law_postV (base := base) laid_all rowed_all slices_all dat_lt k_exWorldOK.1 (glob hX) ?_ ?_ Tryz.underlying4 rfl ?_ ?_ ⟨rfl, rfl, fun _ => trivial, fun _ => rfl⟩ rfl hval hW hwt
  · exact (.cons D63 .nil)
  · intro t ht
    rw [Tryz.params5] at ht
    simp only [List.mem_cons, List.not_mem_nil, or_false] at ht
    rcases ht with rfl
    all_goals exact of_decide_eq_true (by kernel_rfl)
  · exact fun n hn g t hg ht => lt_of_name (by kernel_rfl) hn hg ht
  · intro H ds gs hds hgs
    match ds, hds, gs, hgs with
    | [d0], _, [e0, e1], _ => exact ⟨rfl, rfl, rfl⟩

theorem over : Rows.fnExactWorldOKRow.holds Tryz.pinned (OpenSpec.ofChange Rows.fnExactWorldOKSpec) :=
  OpenClaim.holds_of_wide 5 Tryz.f5 rfl rfl rfl rfl rfl rfl rfl ⟨rfl, rfl, rfl, rfl, rfl⟩ rfl rfl rfl rfl rfl (by kernel_rfl) Tryz.func5 (by kernel_rfl)
    (of_decide_eq_true (by kernel_rfl)) (by unfold Func.isWrapper; first | (rw [if_pos (by decide +kernel)]; kernel_rfl) | (rw [if_neg (by decide +kernel)]; exact ⟨rfl, rfl⟩))
    (fun os started H enc _ => lifted os started H enc)

theorem proved : Rows.FnExactWorldOKCardSaid :=
  Claim7.holds_tied_plain_at .later [] [.data, .data, .data, .data, .data] true (true, "6ede247ebfb5dd13c7dc66627455661f57e04a16b090e40d966d03ed702e3255") false over (fun _ h => by cases h) (by kernel_rfl) (fun _ h => by cases h) fnExactWorldOK_row_tie rfl ⟨rfl, rfl⟩ (by kernel_rfl) rfl
    (fun f fn hf hfn => by
      obtain rfl : f = 5 := Option.some.inj ((show Tryz.prog.funcNamed "loop.example/g00308/laws.FnExactWorldOK" = some 5 by kernel_rfl).symm.trans hf) |>.symm
      obtain rfl : fn = Tryz.f5 := (Option.some.inj (Tryz.func5.symm.trans hfn)).symm
      exact ⟨by kernel_rfl, fun j t ht => by
        rw [Tryz.params5] at ht
        have hm : t ∈ [63] := by simpa using Array.mem_of_getElem? ht
        have hall : ([63].all fun u => !Tryz.prog.wantsStandIn u) = true := by kernel_rfl
        exact (show Tryz.prog.wantsStandIn t = false by simpa using List.all_eq_true.1 hall t hm)⟩)
    (by kernel_rfl)
end Go.Proofs.YtkofjkjcbljkdaaGreatDoor.fnExactWorldOK
