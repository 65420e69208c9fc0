/-
  FnTokens: for every input the law returns true, and what it reads reads as it did; the tied card.
  Conditions: those of the given row and card alone (the listed tables start as the program's text and the form lay them).
-/
import Derived.Test.YtolgjekokdimoaaGreatDoorCards
import Derived.Test.YtolgjekokdimoaaGreatDoorTie
import Derived.Test.YtolgjekokdimoaaGreatDoorM9
import Derived.WalkKit
import Derived.ProofKit
import Derived.OpenShut
import Derived.LaidMore
import Derived.Lay
import Derived.SevenTiedAt
import Derived.Stop.Joined
namespace Go.Proofs.YtolgjekokdimoaaGreatDoor.fnTokens
open Go.ChangeShapes Go.WideShapes Go.ChangeAt Go.RowKit
set_option linter.unusedVariables false
set_option linter.unusedSectionVars false


instance : LaidG := ⟨fun g => decide (g ∈ ([0, 1, 5, 2, 3, 4] : List Nat))⟩
instance : LaidN 0 := ⟨by decide⟩
instance : LaidN 1 := ⟨by decide⟩
instance : LaidN 5 := ⟨by decide⟩
instance : LaidN 2 := ⟨by decide⟩
instance : LaidN 3 := ⟨by decide⟩
instance : LaidN 4 := ⟨by decide⟩
theorem glob {W : World} (h : laidMet Tryz.prog Rows.fnTokensRow.laid W) (hsh : W.ShapedOpen Tryz.prog) : GlOk W [] := by
  constructor
  rotate_left
  · intro g b hg hl
    match g, hg, hl with
    | 0, hg, _ => cases (show none = some b from hg)
    | 1, hg, _ => cases (show none = some b from hg)
    | 2, hg, _ =>
      cases (show some false = some b from hg)
      exact gl_int (g := 2) (t := 3) (zero := #[.int .i64 0]) hsh (of_decide_eq_true (by kernel_rfl)) (by kernel_rfl) rfl (by kernel_rfl) (by kernel_rfl) Tryz.underlying3
    | 3, hg, _ =>
      cases (show some true = some b from hg)
      exact gl_ifc (name := "strconv.ErrSyntax") (dat := Rows.laid_strconv_ErrSyntax) (g := 3) (t := 131) h ⟨_, _, rfl⟩ (List.mem_of_getElem? (i := 5) (by kernel_rfl)) (by kernel_rfl) (by kernel_rfl) Tryz.underlying131
    | 4, hg, _ =>
      cases (show some true = some b from hg)
      exact gl_ifc (name := "strconv.ErrRange") (dat := Rows.laid_strconv_ErrRange) (g := 4) (t := 131) h ⟨_, _, rfl⟩ (List.mem_of_getElem? (i := 4) (by kernel_rfl)) (by kernel_rfl) (by kernel_rfl) Tryz.underlying131
    | (g + 5), hg, _ => simp [lk, GE] at hg
  intro g T es hg hl
  match g, hg, hl with
  | 0, hg, _ =>
    cases (show some (PTy.int .u32, G0) = some (T, es) from hg)
    exact gl_one (name := "loop.example/g00308/impl.hashStart") (k := .u32) (z0 := 1779033703) (zs := [3144134277, 1013904242, 2773480762, 1359893119, 2600822924, 528734635, 1541459225]) (g := 0) (t := 172) (e := 171) (n := 8) h (List.mem_of_getElem? (i := 6) (by kernel_rfl)) (by kernel_rfl) (by kernel_rfl) Tryz.underlying172 Tryz.underlying171 (by kernel_rfl) (by kernel_rfl) (of_decide_eq_true (by kernel_rfl))
  | 1, hg, _ =>
    cases (show some (PTy.int .u32, G1) = some (T, es) from hg)
    exact gl_one (name := "loop.example/g00308/impl.hashRounds") (k := .u32) (z0 := 1116352408) (zs := [1899447441, 3049323471, 3921009573, 961987163, 1508970993, 2453635748, 2870763221, 3624381080, 310598401, 607225278, 1426881987, 1925078388, 2162078206, 2614888103, 3248222580, 3835390401, 4022224774, 264347078, 604807628, 770255983, 1249150122, 1555081692, 1996064986, 2554220882, 2821834349, 2952996808, 3210313671, 3336571891, 3584528711, 113926993, 338241895, 666307205, 773529912, 1294757372, 1396182291, 1695183700, 1986661051, 2177026350, 2456956037, 2730485921, 2820302411, 3259730800, 3345764771, 3516065817, 3600352804, 4094571909, 275423344, 430227734, 506948616, 659060556, 883997877, 958139571, 1322822218, 1537002063, 1747873779, 1955562222, 2024104815, 2227730452, 2361852424, 2428436474, 2756734187, 3204031479, 3329325298]) (g := 1) (t := 200) (e := 171) (n := 64) h (List.mem_of_getElem? (i := 7) (by kernel_rfl)) (by kernel_rfl) (by kernel_rfl) Tryz.underlying200 Tryz.underlying171 (by kernel_rfl) (by kernel_rfl) (of_decide_eq_true (by kernel_rfl))
  | 2, hg, _ => cases (show none = some (T, es) from hg)
  | 3, hg, _ => cases (show none = some (T, es) from hg)
  | 4, hg, _ => cases (show none = some (T, es) from hg)
  | 5, hg, _ =>
    cases (show some (PTy.int .u64, G5) = some (T, es) from hg)
    exact gl_one (name := "internal/strconv.uint64pow10") (k := .u64) (z0 := 1) (zs := [10, 100, 1000, 10000, 100000, 1000000, 10000000, 100000000, 1000000000, 10000000000, 100000000000, 1000000000000, 10000000000000, 100000000000000, 1000000000000000, 10000000000000000, 100000000000000000, 1000000000000000000, 10000000000000000000]) (g := 5) (t := 224) (e := 203) (n := 20) h (List.mem_of_getElem? (i := 2) (by kernel_rfl)) (by kernel_rfl) (by kernel_rfl) Tryz.underlying224 Tryz.underlying203 (by kernel_rfl) (by kernel_rfl) (of_decide_eq_true (by kernel_rfl))
  | (g + 6), hg, _ => simp [lk, GT] at hg

set_option maxRecDepth 100000 in
theorem lifted (os : Os) (started : os.Started) (H : Type) (enc : TypeId × Value → H) :
    ReturnsInHanded {} Tryz.checked os 5 .any (fun w args => (Rows.fnTokensSpec.pre enc Tryz.prog Tryz.f5 Rows.fnTokensRow.domain false w args ∧ laidMetH Tryz.prog Rows.fnTokensRow.laid w) ∧ sizedMet enc Tryz.prog Tryz.f5 (OpenSpec.ofChange Rows.fnTokensSpec) false w args)
      (Rows.fnTokensSpec.post enc Tryz.prog Tryz.f5 false true false false) := by
  refine returns_shaped (C := Tryz.checked) (X := fun w _ => laidMetH Tryz.prog Rows.fnTokensRow.laid w) (fun _ _ _ hh h => h.of_heap hh) own_knob started (by kernel_rfl) Tryz.func5
    (ChangeSpec.witness_shaped (enc := enc) (C := Tryz.checked) (os := os) (X := fun w _ => laidMetH Tryz.prog Rows.fnTokensRow.laid w) false (World.laidAll Tryz.prog os Rows.fnTokensRow.laid) #[.slice none 0 0, .slice none 0 0] 8 (World.laidAll_os _ _ _)
      (World.shaped_of_ZipB (by kernel_rfl) (by kernel_rfl)) (by kernel_rfl) (by kernel_rfl) (by kernel_rfl)
      (by rw [MakeChecks.laidMetH_plain _ _ _ (by kernel_rfl)]; exact laidMet_laidAll _ (by kernel_rfl) (by kernel_rfl))) ?_
  intro W base args ds gs before hval hW hx1 hwt hx2 hsh
  have hX : laidMetH Tryz.prog Rows.fnTokensRow.laid W := hx2
  rw [MakeChecks.laidMetH_plain _ _ _ (by kernel_rfl)] at hX
  refine law_postV (base := base) laid_all rowed_all slices_all dat_lt k_tokens.1 (glob hX hsh) ?_ ?_ Tryz.underlying4 rfl ?_ ?_ ⟨rfl, rfl, fun _ => trivial, fun _ => rfl⟩ rfl hval hW hwt
  · exact (.cons D50 (.cons D50 .nil))
  · intro t ht
    rw [Tryz.params5] at ht
    simp only [List.mem_cons, List.not_mem_nil, or_false] at ht
    rcases ht with rfl | rfl
    all_goals exact of_decide_eq_true (by kernel_rfl)
  · exact fun n hn g t hg ht => lt_of_name (by kernel_rfl) hn hg ht
  · intro H ds gs hds hgs
    match ds, hds, gs, hgs with
    | [d0, d1], _, [e0, e1], _ => exact ⟨rfl, rfl, rfl⟩

theorem over : Rows.fnTokensRow.holds Tryz.pinned (OpenSpec.ofChange Rows.fnTokensSpec) :=
  OpenClaim.holds_of_wide 5 Tryz.f5 rfl rfl rfl rfl rfl rfl rfl ⟨rfl, rfl, rfl, rfl, rfl⟩ rfl rfl rfl rfl rfl (by kernel_rfl) Tryz.func5 (by kernel_rfl)
    (of_decide_eq_true (by kernel_rfl)) (by unfold Func.isWrapper; first | (rw [if_pos (by decide +kernel)]; kernel_rfl) | (rw [if_neg (by decide +kernel)]; exact ⟨rfl, rfl⟩))
    (fun os started H enc _ => lifted os started H enc)

theorem proved : Rows.FnTokensCardSaid :=
  Claim7.holds_tied_plain_at .later [] [.data, .data, .data, .data, .sentinel, .sentinel, .data, .data, .pinned] true (true, "a0f4ce53ea7091078f7e4f1ac3759073d3c88889420d5277f76f25fc34ffda72") true over (fun _ h => by cases h) (by kernel_rfl) (fun _ h => by cases h) fnTokens_row_tie rfl ⟨rfl, rfl⟩ (by kernel_rfl) rfl
    (fun f fn hf hfn => by
      obtain rfl : f = 5 := Option.some.inj ((show Tryz.prog.funcNamed "loop.example/g00308/laws.FnTokens" = some 5 by kernel_rfl).symm.trans hf) |>.symm
      obtain rfl : fn = Tryz.f5 := (Option.some.inj (Tryz.func5.symm.trans hfn)).symm
      exact ⟨by kernel_rfl, fun j t ht => by
        rw [Tryz.params5] at ht
        have hm : t ∈ [50, 50] := by simpa using Array.mem_of_getElem? ht
        have hall : ([50, 50].all fun u => !Tryz.prog.wantsStandIn u) = true := by kernel_rfl
        exact (show Tryz.prog.wantsStandIn t = false by simpa using List.all_eq_true.1 hall t hm)⟩)
    (by kernel_rfl)
end Go.Proofs.YtolgjekokdimoaaGreatDoor.fnTokens
