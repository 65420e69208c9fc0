/-
  Part 8 of the proof of FnTokens: a verification-condition generator over the program and the contracts of its functions, in the order of their use.
  Conditions: none.
-/
import Derived.Test.YtolgjekokdimoaaGreatDoorM7
import Derived.Shelf.Strings.Builder1
import Derived.Shelf.Strings.Builder2
import Derived.Shelf.Small.Utf8
import Derived.Shelf.Small.Strs
import Derived.Shelf.Strings.BuilderF
import Derived.Shelf.Strconv.Atoi
import Derived.Shelf.Strconv.Itoa0
import Derived.Shelf.Strconv.Itoa1
import Derived.Shelf.LaysM
import Derived.Shelf.Strconv.Itoa2
import Derived.Shelf.Strconv.Itoa3
import Derived.Shelf.Strconv.AtoiErrFast
import Derived.Shelf.Strconv.ParseIntEmpty
import Derived.Shelf.Strconv.AtoiFail
import Derived.Shelf.Strconv.Clone
import Derived.Shelf.Strconv.SyntaxError
import Derived.Shelf.LaysC
import Derived.Shelf.Strconv.ToError
import Derived.Shelf.Strconv.Lower
import Derived.Shelf.Strconv.ParseUint10
import Derived.Shelf.Strconv.ParseUint10Empty
import Derived.Shelf.Strconv.ParseUint10Any
import Derived.Shelf.Strconv.ParseInt10
import Derived.Shelf.Strconv.AtoiLong
import Derived.Shelf.Strconv.AtoiInnerAll
import Derived.Shelf.Strconv.RangeError
import Derived.Shelf.Strconv.ToErrorRange
import Derived.Shelf.Strconv.AtoiAll
import Derived.Shelf.Strconv.ErrVarAll
import Derived.Shelf.Strings.Search1
import Derived.Shelf.Strings.Search2
import Derived.Shelf.Strings.Search3
import Derived.Shelf.Strings.Count
import Derived.Shelf.Strings.Shaped
import Derived.Shelf.Strings.Prefix
import Derived.Shelf.Strings.Split
import Derived.Shelf.Strings.SplitShaped
import Derived.Shelf.Strings.Runes
import Derived.Shelf.Strings.AsciiSet
import Derived.Shelf.Bits.Mul64
import Derived.Shelf.Strings.Repeat
import Derived.Shelf.Unicode.DecodeSlow
import Derived.Test.YtolgjekokdimoaaGreatDoorProg
import Derived.Lib.ItoaNum
import Derived.Lib.Split
import Derived.Lib.AtoiAll
set_option linter.unusedVariables false
set_option linter.unusedSimpArgs false
set_option linter.unusedSectionVars false

section
namespace Go.Proofs.YtolgjekokdimoaaGreatDoor
variable [LaidG]
set_option maxRecDepth 100000
set_option linter.unusedSimpArgs false

def c_sViewOK : FSpec := c_isView
theorem k_sViewOK : FnOk Tryz.prog 39 c_sViewOK := by
  refine fn_mk [0, 1, 2, 3] [.tmp 2] (env_cons (cs := []) k_l11Row (env_cons (cs := []) k_l04Size (env_cons (cs := []) k_l01In (env_nil (tyTab_ok []))))) mixed Tryz.func39 rfl (by decide) rfl (by decide) rfl ?_
  intro ps hT hpre W hW
  simp only [c_sViewOK, TyA, Ty, Tys] at hT hpre
  simp only [c_isView, TyA, Ty, Tys] at hT
  obtain ⟨_, _, rfl, ⟨_, rfl, _, _, rfl, ⟨n, rfl, hn⟩, _, _, rfl, ⟨f, rfl, hf⟩, _, _, rfl, ⟨u, rfl⟩, _, _, rfl, ⟨w, rfl, hw⟩, _, _, rfl, ⟨h, rfl, hh⟩, _, _, rfl, ⟨es, rfl, hes, tes⟩, rfl⟩, rfl⟩ := hT
  refine hW.vc [(6, [], .take 0 <| .take 1 <| .take 2 <| .take 3 <| .take 4 <| .take 5 <| .take 6 <| .take 7 <| .take 8 <| .alt 9 (.take 10 <| .take 11 <| .take 12 <| .take 13 <| .take 14 <| .take 15 <| .take 16 <| .take 17 <| .take 18 <| .take 19 <| .alt 20 (.take 21 <| .take 22 <| .take 23 <| .take 24 <| .take 25 <| .take 26 <| .take 27 <| .take 28 <| .take 29 <| .take 30 <| .take 31 <| .take 32 <| .take 33 <| .take 34 <| .take 35 <| .take 36 <| .take 37 <| .take 38 <| .take 39 <| .take 40 <| .take 41 <| .take 42 <| .done) .stop) .stop)] _ _ ?_
  simp [-List.getD_eq_getElem?_getD, c_sViewOK, c_l01In, c_l04Size, c_l11Row, c_isView, c_within, c_isSize, c_within]
  intro h1
  refine ⟨view_no, fun h2 h3 h4 => ?_⟩
  obtain ⟨h6, h7⟩ := view_eq (u := u) (f := f) h2 h3 h4
  refine hW.loopS _ _ _ [.sl 3 .dp (.int .i64)] (fun ys => ∃ i : Nat, ys = [.int .i64 i] ∧ i ≤ es.length ∧ upB w h (-1) es = upB w h (pvY es i) (es.drop i)) (fun ys => es.length - (nth ys 0).I.toNat) ?_ ?_
  · simp [-List.getD_eq_getElem?_getD, c_sViewOK, c_l01In, c_l04Size, c_l11Row, c_isView, c_within, c_isSize]
    exact ⟨0, rfl, by simp, by simp [pvY]⟩
  · rintro ys ⟨i, rfl, g1, g2⟩
    refine hW.vc [(6, [], .take 0 <| .take 1 <| .take 2 <| .take 3 <| .take 4 <| .take 5 <| .take 6 <| .take 7 <| .take 8 <| .alt 9 (.take 10 <| .take 11 <| .take 12 <| .take 13 <| .take 14 <| .take 15 <| .take 16 <| .take 17 <| .take 18 <| .take 19 <| .alt 20 (.take 21 <| .take 22 <| .take 23 <| .take 24 <| .take 25 <| .take 26 <| .take 27 <| .take 28 <| .take 29 <| .take 30 <| .take 31 <| .take 32 <| .take 33 <| .take 34 <| .take 35 <| .take 36 <| .take 37 <| .take 38 <| .take 39 <| .take 40 <| .take 41 <| .take 42 <| .done) .stop) .stop)] _ _ ?_
    simp [-List.getD_eq_getElem?_getD, c_sViewOK, c_l01In, c_l04Size, c_l11Row, c_isView, c_within, c_isSize, c_within]
    have k1 : IntKind.i64.wrap (h - 1) = h - 1 := wrap64 (by omega)
    simp only [k1]
    have k2 : 0 < i → (IntKind.i64.wrap ((i : Int) - 1)).toNat = i - 1 := fun h => by rw [wrap64 (by omega)]; omega
    have k3 : 0 < i → IntKind.i64.wrap ((i : Int) - 1) = i - 1 := fun h => wrap64 (by omega)
    refine fun _ => ⟨fun g3 => ⟨by decide +kernel, g3, fun _ => ⟨fun g4 => ⟨g4, g3⟩, fun _ => ⟨fun _ => by omega, fun g4 g5 g6 => ⟨⟨⟨g4, g5⟩, g6⟩, by rw [k3 g6]; omega⟩,
      fun g4 g5 g6 => ⟨⟨⟨g4, g5⟩, g6⟩, by rw [k2 g6]; omega⟩, fun _ => ⟨fun g4 g5 g6 => ⟨⟨⟨g4, g5⟩, g6⟩, g3⟩, fun _ => ⟨fun g4 g5 => ⟨⟨g4, g5⟩, fun g6 => ⟨⟨g4, g5⟩, g6⟩⟩, ?_⟩⟩⟩⟩⟩, ?_⟩
    · rw [drop_nth g3, upB] at g2
      refine ⟨fun g4 => ?_, fun g4 g6 g5 => ?_⟩
      · rw [h7, g2]
        rcases g4 with (g4 | g4) | ⟨g4, g5⟩
        · simp [g4]
        · simp [g4]
        · rw [k2 g4] at g5
          have : ¬ pvY es i < (nth (nth es i).A 0).I := by rw [pvY_pos g4]; omega
          simp [this]
      · rw [wrap64 (by omega)]
        have k5 := pvY_lt g4 fun h0 => by have := g5 h0; rw [k2 h0] at this; exact this
        refine ⟨⟨i + 1, by omega, by omega, ?_⟩, by omega⟩
        rw [g2, g4, g6, pvY_succ]
        simp [k5]
    · intro g3
      rw [List.drop_eq_nil_of_le g3, upB] at g2
      rw [h7, g2]
      refine ⟨fun g4 _ => ?_, fun g4 => ?_⟩
      · subst g4
        rw [Bool.eq_iff_iff]; simp [selB]
      · subst g4
        rw [Bool.eq_iff_iff]
        simp [selB, inB] at h2 ⊢
        omega

theorem eqRows_refl (es : List PV) : eqL eqRow2 es es = true := eqL_refl eqRow2_refl
theorem eqVw_refl (v : List PV) : eqVw v v = true := by simp [eqVw, eqRows_refl]

def c_exViewOK : FSpec := ⟨[(.rd, .agg [.int .i64, .int .i64, .bool, .int .i64, .int .i64, .list (.agg [.int .i64, .str])])], [.bool], true, fun _ => True, fun _ => [.bool true], fun _ => []⟩
def fullGo (i : Nat) : List PV → List PV
  | [] => []
  | e :: es => .agg [.int .i64 i, .str e.S] :: fullGo (i + 1) es
theorem fullGo_len : ∀ (es : List PV) (i : Nat), (fullGo i es).length = es.length
  | [], _ => rfl
  | e :: es, i => by simp [fullGo, fullGo_len es]
theorem fullGo_snoc (x : PV) : ∀ (es : List PV) (i : Nat), fullGo i (es ++ [x]) = fullGo i es ++ [.agg [.int .i64 (i + es.length : Nat), .str x.S]]
  | [], i => by simp [fullGo]
  | e :: es, i => by simp [fullGo, fullGo_snoc x es]; omega

def c_fullView : FSpec := ⟨[(.rd, .int .i64), (.rd, .int .i64), (.rd, .int .i64), (.rd, .list .str)], [.agg [.int .i64, .int .i64, .bool, .int .i64, .int .i64, .list (.agg [.int .i64, .str])]], true, fun ps => (nth ps 3).L.length ≤ 1048576, fun ps => [.agg [.int .i64 (nth ps 0).I, .int .i64 0, .bool true, .int .i64 (nth ps 1).I, .int .i64 (nth ps 2).I, .list (fullGo 0 (nth ps 3).L)]], fun _ => []⟩
theorem k_fullView : FnOk Tryz.prog 67 c_fullView := by
  refine fn_mk [0, 1, 2, 3, 8, 9, 10, 11, 16, 17, 18] [.cell 8 40] (env_nil (tyTab_ok [])) mixed Tryz.func67 rfl (by decide) rfl (by decide) rfl ?_
  intro ps hT hpre W hW
  simp only [c_fullView, TyA, Ty, Tys] at hT hpre
  obtain ⟨_, _, rfl, ⟨n, rfl, hn⟩, _, _, rfl, ⟨w, rfl, hw⟩, _, _, rfl, ⟨h, rfl, hh⟩, _, _, rfl, ⟨es, rfl, hes, tes⟩, rfl⟩ := hT
  simp only [nth_zero, nth_succ, pv_L] at hpre
  refine hW.vc [] _ _ ?_
  simp [-List.getD_eq_getElem?_getD, c_fullView]
  refine fun h1 => hW.loopS _ _ _ [.bx 9 [.int .i64, .int .i64, .bool, .int .i64, .int .i64, .list (.agg [.int .i64, .str])], .sl 18 .dp (.int .i64)] (fun ys => ∃ (i : Nat), ys = [.agg [.int .i64 n, .int .i64 0, .bool true, .int .i64 w, .int .i64 h, .list (fullGo 0 (es.take i))], .int .i64 i] ∧ i ≤ es.length) (fun ys => es.length - (nth ys 1).I.toNat) ?_ ?_
  · simp [-List.getD_eq_getElem?_getD, c_fullView]
    exact ⟨0, ⟨by simp [fullGo], rfl⟩, by simp⟩
  · rintro ys ⟨i, rfl, g1⟩
    refine hW.vc [] _ _ ?_
    simp [-List.getD_eq_getElem?_getD, c_fullView]
    refine ⟨fun g2 => ⟨g2, fun _ => ⟨by rw [fullGo_len, List.length_take]; omega, fun _ => ⟨⟨i + 1, ⟨?_, by rw [wrap64 (by omega)]; omega⟩, by omega⟩, by rw [wrap64 (by omega)]; omega⟩⟩⟩, fun g2 => by rw [List.take_of_length_le g2]⟩
    rw [take_nth g2, fullGo_snoc, List.length_take, Nat.min_eq_left g1, Nat.zero_add]

def c_l11Full : FSpec := { c_fullView with pre := fun ps => (nth ps 3).L.length ≤ 1048576 ∧ ((nth ps 3).L.length : Int) = (nth ps 2).I }
/-- A view. -/
structure VW where
  n : Int
  f : Int
  u : Bool
  w : Int
  h : Int
  r : List PV
def VW.pv (v : VW) : PV := .agg [.int .i64 v.n, .int .i64 v.f, .bool v.u, .int .i64 v.w, .int .i64 v.h, .list v.r]
def VW.no : VW := ⟨0, 0, false, 0, 0, []⟩
def fullOf (n w h : Int) (es : List PV) : VW × Int :=
  if 4096 < (es.length : Int) then (VW.no, 2) else if inB n 0 60 = false ∨ sizeB w h = false then (VW.no, 4) else if rowsB es w h = false then (VW.no, 1) else (⟨n, 0, true, w, h, fullGo 0 es⟩, 0)
theorem rowsB_len' {es : List PV} {w h : Int} (hl : rowsB es w h = true) : (es.length : Int) = h := by simp [rowsB] at hl; exact hl.1
theorem not_or_ff {a b : Bool} (ha : a = true) (hb : b = true) : ¬ (a = false ∨ b = false) := by subst ha; subst hb; simp

def c_iFullView : FSpec := ⟨[(.rd, .int .i64), (.rd, .int .i64), (.rd, .int .i64), (.rd, .list .str)], [.agg [.int .i64, .int .i64, .bool, .int .i64, .int .i64, .list (.agg [.int .i64, .str])], .int .i64], true, fun _ => True,
  fun ps => [(fullOf (nth ps 0).I (nth ps 1).I (nth ps 2).I (nth ps 3).L).1.pv, .int .i64 (fullOf (nth ps 0).I (nth ps 1).I (nth ps 2).I (nth ps 3).L).2], fun _ => []⟩
theorem k_iFullView : FnOk Tryz.prog 26 c_iFullView := by
  refine fn_mk [0, 1, 2, 3, 8, 9] [.cell 8 40, .tmp 9] (env_cons (cs := []) k_fullView (env_cons (cs := []) k_areRows (env_cons (cs := []) k_isSize (env_cons (cs := []) k_isNumber (env_nil (tyTab_ok [])))))) mixed Tryz.func26 rfl (by decide) rfl (by decide) rfl ?_
  intro ps hT hpre W hW
  simp only [c_iFullView, TyA, Ty, Tys] at hT hpre
  obtain ⟨_, _, rfl, ⟨n, rfl, hn⟩, _, _, rfl, ⟨w, rfl, hw⟩, _, _, rfl, ⟨h, rfl, hh⟩, _, _, rfl, ⟨es, rfl, hes, tes⟩, rfl⟩ := hT
  refine hW.vc [] _ _ ?_
  simp [-List.getD_eq_getElem?_getD, c_iFullView, c_isNumber, c_isSize, c_areRows, c_fullView, VW.pv]
  refine fun _ => ⟨fun h1 => ?_, fun h1 => ⟨fun h2 => ?_, fun h2 h3 => ⟨size_wOk h3, fun h4 => ?_, fun h4 => ⟨by omega, ?_⟩⟩⟩⟩
  · rw [fullOf, if_pos h1]; simp [VW.no]
  · rw [fullOf, if_neg (Int.not_lt.2 h1), if_pos h2]; simp [VW.no]
  · rw [fullOf, if_neg (Int.not_lt.2 h1), if_neg (not_or_ff h2 h3), if_pos h4]; simp [VW.no]
  · rw [fullOf, if_neg (Int.not_lt.2 h1), if_neg (not_or_ff h2 h3), if_neg (by simp [h4])]; simp
def c_sFullView : FSpec := c_iFullView
end Go.Proofs.YtolgjekokdimoaaGreatDoor
end

section
namespace Go.Proofs.YtolgjekokdimoaaGreatDoor
variable [LaidG]
set_option maxRecDepth 100000
set_option linter.unusedSimpArgs false

def byteOf (x : Int) : UInt8 := UInt8.ofNat (x % 256).toNat
theorem byteOf_nat (x : Int) : ((byteOf x).toNat : Int) = x % 256 := by
  have h1 := Int.emod_nonneg x (show (256 : Int) ≠ 0 by omega)
  have h2 := Int.emod_lt_of_pos x (show (0 : Int) < 256 by omega)
  unfold byteOf
  rw [UInt8.toNat_ofNat', Nat.mod_eq_of_lt (by omega)]
  omega
theorem wrap8_byte (x : Int) : IntKind.u8.wrap x = (byteOf x).toNat := by
  rw [byteOf_nat]; simp [IntKind.wrap, IntKind.signed, IntKind.bits]

/-- A number's bytes, the greatest first. -/
def nB (n : Int) (k : Nat) : List UInt8 := (List.range k).map fun i => byteOf (n / 256 ^ (k - 1 - i))
theorem nB_len (n : Int) (k : Nat) : (nB n k).length = k := by simp [nB]
theorem nB_get {n : Int} {k i : Nat} (h : i < k) : (nB n k).getD i 0 = byteOf (n / 256 ^ (k - 1 - i)) := by
  simp [nB, h]
theorem nB_take {n : Int} {k i : Nat} (h : i < k) : (nB n k).take (i + 1) = (nB n k).take i ++ [byteOf (n / 256 ^ (k - 1 - i))] := by
  rw [List.take_succ_eq_append_getElem (by rw [nB_len]; exact h)]; simp [nB]
theorem nB_drop {n : Int} {k i : Nat} (h : i < k) : (nB n k).drop i = byteOf (n / 256 ^ (k - 1 - i)) :: (nB n k).drop (i + 1) := by
  rw [List.drop_eq_getElem_cons (by rw [nB_len]; exact h)]; simp [nB]

theorem bytesPV_len (l : List UInt8) : (bytesPV l).length = l.length := by simp [bytesPV]
theorem bytesPV_app (l m : List UInt8) : bytesPV (l ++ m) = bytesPV l ++ bytesPV m := by simp [bytesPV]
theorem bytesPV_one (b : UInt8) : bytesPV [b] = [.int .u8 b.toNat] := rfl
theorem pvBytes_bytes (l : List UInt8) : pvBytes (bytesPV l) = l := by
  simp only [pvBytes, bytesPV, List.map_map]
  conv => rhs; rw [← List.map_id l]
  exact List.map_congr_left fun b _ => by simp [pv_I]
theorem bytesPV_take (l : List UInt8) (i : Nat) : bytesPV (l.take i) = (bytesPV l).take i := by simp [bytesPV]

theorem shr8 {n : Int} {i : Nat} (h : 0 ≤ n) (hi : i ≤ 7) : shrI .i64 n (8 * i : Nat) = n / 256 ^ i := by
  unfold shrI
  have e : min (((8 * i : Nat) : Int).toNat) IntKind.i64.bits = 8 * i := by
    have : IntKind.i64.bits = 64 := rfl
    rw [this, Int.toNat_natCast]; omega
  rw [e, Int.fdiv_eq_ediv_of_nonneg _ (Int.pow_nonneg (by omega)), Int.pow_mul]
  rfl

def c_bigBytes : FSpec := ⟨[(.rd, .int .i64), (.rd, .int .i64)], [.str], true, fun ps => 0 ≤ (nth ps 0).I ∧ 0 ≤ (nth ps 1).I ∧ (nth ps 1).I ≤ 8, fun ps => [.str (nB (nth ps 0).I (nth ps 1).I.toNat)], fun _ => []⟩
theorem k_bigBytes : FnOk Tryz.prog 158 c_bigBytes := by
  refine fn_mk [0, 1, 4, 5, 6] [.tmp 4] (env_nil (tyTab_ok [])) mixed Tryz.func158 rfl (by decide) rfl (by decide) rfl ?_
  intro ps hT hpre W hW
  simp only [c_bigBytes, TyA, Ty, Tys] at hT hpre
  obtain ⟨_, _, rfl, ⟨n, rfl, hn⟩, _, _, rfl, ⟨k, rfl, hk⟩, rfl⟩ := hT
  simp only [nth_zero, nth_succ, pv_I] at hpre
  obtain ⟨hp1, hp2, hp3⟩ := hpre
  obtain ⟨m, rfl⟩ := Int.eq_ofNat_of_zero_le hp2
  rw [inR64] at hn
  refine hW.vc [] _ _ ?_
  simp [-List.getD_eq_getElem?_getD, c_bigBytes]
  refine ⟨by omega, hW.loopS _ _ _ [.sl 0 .dp (.int .i64), .sl 5 .dp (.list (.int .u8)), .sl 6 .dp (.int .i64)] (fun ys => ∃ j : Nat, ys = [.int .i64 (n / 256 ^ (m - j)), .list (List.replicate j (.int .u8 0) ++ (bytesPV (nB n m)).drop j), .int .i64 (j - 1)] ∧ j ≤ m) (fun ys => ((nth ys 2).I + 1).toNat) ?_ ?_⟩
  · simp [-List.getD_eq_getElem?_getD, c_bigBytes]
    refine ⟨m, ⟨by simp, by rw [List.drop_eq_nil_of_le (by rw [bytesPV_len, nB_len]; omega), List.append_nil], by rw [wrap64 (by omega)]⟩, by omega⟩
  · rintro ys ⟨j, rfl, h1⟩
    refine hW.vc [] _ _ ?_
    simp [-List.getD_eq_getElem?_getD, c_bigBytes]
    rw [bytesPV_len, nB_len]
    refine ⟨fun h2 => ⟨⟨h2, by omega⟩, by omega, ⟨j - 1, ⟨?_, ?_, by rw [wrap64 (by omega)]; omega⟩, by omega⟩, by rw [wrap64 (by omega)]; omega⟩, fun h2 => ?_⟩
    · have e : m - (j - 1) = (m - j) + 1 := by omega
      have := shr8 (n := n / 256 ^ (m - j)) (i := 1) (Int.ediv_nonneg hp1 (Int.pow_nonneg (by omega))) (by omega)
      rw [e, Int.pow_succ, ← Int.ediv_ediv_of_nonneg (Int.pow_nonneg (by omega))]
      simpa using this
    · have h3 : (bytesPV (nB n m)).drop (j - 1) = .int .u8 (byteOf (n / 256 ^ (m - j))).toNat :: (bytesPV (nB n m)).drop j := by
        have h4 := nB_drop (n := n) (show j - 1 < m by omega)
        have e1 : m - 1 - (j - 1) = m - j := by omega
        have e2 : j - 1 + 1 = j := by omega
        rw [e1, e2] at h4
        simp only [bytesPV, ← List.map_drop, h4, List.map_cons]
      have h5 : List.replicate j (PV.int IntKind.u8 0) = List.replicate (j - 1) (PV.int IntKind.u8 0) ++ [PV.int IntKind.u8 0] := by
        have : j = (j - 1) + 1 := by omega
        rw [this, List.replicate_succ']; simp
      rw [h3, wrap8_byte, h5, List.append_assoc, List.set_append_right _ _ (by simp), List.length_replicate, Nat.sub_self]
      rfl
    · have : j = 0 := by omega
      subst this
      simp [pvBytes_bytes]

def c_l02Number : FSpec := ⟨[(.rd, .int .i64), (.rd, .int .i64)], [.list (.int .u8)], true, fun ps => 0 ≤ (nth ps 0).I ∧ 0 ≤ (nth ps 1).I ∧ (nth ps 1).I ≤ 7, fun ps => [.list (bytesPV (nB (nth ps 0).I (nth ps 1).I.toNat))], fun _ => []⟩
theorem k_l02Number : FnOk Tryz.prog 139 c_l02Number := by
  refine fn_mk [0, 1, 4, 5, 6] [.tmp 4] (env_nil (tyTab_ok [])) mixed Tryz.func139 rfl (by decide) rfl (by decide) rfl ?_
  intro ps hT hpre W hW
  simp only [c_l02Number, TyA, Ty, Tys] at hT hpre
  obtain ⟨_, _, rfl, ⟨n, rfl, hn⟩, _, _, rfl, ⟨k, rfl, hk⟩, rfl⟩ := hT
  simp only [nth_zero, nth_succ, pv_I] at hpre
  obtain ⟨hp1, hp2, hp3⟩ := hpre
  obtain ⟨m, rfl⟩ := Int.eq_ofNat_of_zero_le hp2
  rw [inR64] at hn
  refine hW.vc [] _ _ ?_
  simp [-List.getD_eq_getElem?_getD, c_l02Number]
  refine hW.loopS _ _ _ [.sl 5 .dp (.list (.int .u8)), .sl 6 .dp (.int .i64)] (fun ys => ∃ j : Nat, ys = [.list (bytesPV ((nB n m).take (m - j))), .int .i64 (j - 1)] ∧ j ≤ m) (fun ys => ((nth ys 1).I + 1).toNat) ?_ ?_
  · simp [-List.getD_eq_getElem?_getD, c_l02Number]
    refine ⟨m, ⟨by simp [bytesPV], by rw [wrap64 (by omega)]⟩, by omega⟩
  · rintro ys ⟨j, rfl, h1⟩
    refine hW.vc [] _ _ ?_
    simp [-List.getD_eq_getElem?_getD, c_l02Number]
    refine ⟨fun h2 => ?_, fun h2 => ?_⟩
    · have e0 : (8 * ((j : Int) - 1)) = ((8 * (j - 1) : Nat) : Int) := by omega
      have e1 : IntKind.u64.wrap (IntKind.i64.wrap (8 * ((j : Int) - 1))) = ((8 * (j - 1) : Nat) : Int) := by
        rw [wrap64 (by omega), e0]
        simp [IntKind.wrap, IntKind.signed, IntKind.bits]; omega
      rw [e1, shr8 hp1 (by omega), wrap8_byte, wrap64 (by omega), bytesPV_len, List.length_take, nB_len]
      refine ⟨by omega, by omega, fun _ => ⟨⟨j - 1, ⟨?_, by omega⟩, by omega⟩, by omega⟩⟩
      have h4 := nB_take (n := n) (show m - j < m by omega)
      have e2 : m - 1 - (m - j) = j - 1 := by omega
      have e3 : m - j + 1 = m - (j - 1) := by omega
      rw [e2, e3] at h4
      rw [h4, bytesPV_app, bytesPV_one]
    · have : j = 0 := by omega
      subst this
      rw [Nat.sub_zero, List.take_of_length_le (by rw [nB_len]; omega)]

def bitI (b : Bool) : Int := if b then 1 else 0
def c_bit : FSpec := ⟨[(.rd, .bool)], [.int .i64], true, fun _ => True, fun ps => [.int .i64 (bitI (nth ps 0).B)], fun _ => []⟩
def c_l01Bit : FSpec := c_bit
def numsB (es : List PV) : List UInt8 := es.flatMap fun e => nB (e.I + 1) 3
theorem numsB_take {es : List PV} {i : Nat} (h : i < es.length) : numsB (es.take (i + 1)) = numsB (es.take i) ++ nB ((nth es i).I + 1) 3 := by
  rw [take_nth h]; simp [numsB]
theorem numsB_len : ∀ (es : List PV), (numsB es).length = 3 * es.length
  | [] => rfl
  | e :: es => by
    have := numsB_len es
    simp only [numsB, List.flatMap_cons, List.length_append, nB_len, List.length_cons] at this ⊢
    omega

def c_l02Numbers : FSpec := ⟨[(.rd, .list (.int .i64))], [.list (.int .u8)], true, fun ps => (nth ps 0).L.length ≤ 1048576 ∧ ∀ e ∈ (nth ps 0).L, -1 ≤ e.I ∧ e.I ≤ 1073741824, fun ps => [.list (bytesPV (numsB (nth ps 0).L))], fun _ => []⟩
def fieldsB (es : List PV) : List UInt8 := byteOf es.length :: es.flatMap fun e => nB e.S.length 2 ++ e.S
theorem fieldsB_take {es : List PV} {i : Nat} (n : Int) (h : i < es.length) : (es.take (i + 1)).flatMap (fun e => nB e.S.length 2 ++ e.S) = (es.take i).flatMap (fun e => nB e.S.length 2 ++ e.S) ++ (nB (nth es i).S.length 2 ++ (nth es i).S) := by
  rw [take_nth h]; simp
theorem flds_len {k : Nat} : ∀ {es : List PV}, (∀ e ∈ es, e.S.length ≤ k) → (es.flatMap fun e => nB e.S.length 2 ++ e.S).length ≤ es.length * (k + 2)
  | [], _ => by simp
  | e :: es, h => by
    have h1 := flds_len (es := es) fun x hx => h x (by simp [hx])
    have h2 := h e (by simp)
    simp only [List.flatMap_cons, List.length_append, nB_len, List.length_cons, Nat.add_mul] at h1 ⊢
    omega

def c_l02Fields : FSpec := ⟨[(.rd, .list .str)], [.list (.int .u8)], true, fun ps => (nth ps 0).L.length ≤ 1000 ∧ ∀ e ∈ (nth ps 0).L, e.S.length ≤ 1048576, fun ps => [.list (bytesPV (fieldsB (nth ps 0).L))], fun _ => []⟩
def eqB (x y : PV) : Bool := x.I == y.I
theorem eqB_refl (es : List PV) : eqL eqB es es = true := eqL_refl fun _ => by simp [eqB]
def c_eqByteS : FSpec := ⟨[(.rd, .list (.int .u8)), (.rd, .list (.int .u8))], [.bool], true, fun _ => True, fun ps => [.bool (eqL eqB (nth ps 0).L (nth ps 1).L)], fun _ => []⟩
/-- Bytes marked. -/
def markB (k : Int) : Nat → List PV
  | 0 => []
  | n + 1 => .int .u8 (byteOf k).toNat :: markB (k + 1) n
theorem markB_len : ∀ (n : Nat) (k : Int), (markB k n).length = n
  | 0, _ => rfl
  | n + 1, k => by simp [markB, markB_len n]
theorem markB_snoc : ∀ (n : Nat) (k : Int), markB k (n + 1) = markB k n ++ [.int .u8 (byteOf (k + n)).toNat]
  | 0, k => by simp [markB]
  | n + 1, k => by
    rw [markB, markB_snoc n (k + 1), markB, List.cons_append]
    have e : k + 1 + (n : Int) = k + ((n + 1 : Nat) : Int) := by omega
    rw [e]
def c_markByteS : FSpec := ⟨[(.mt, .list (.int .u8)), (.rd, .int .i64)], [.int .i64], true, fun ps => 0 ≤ (nth ps 1).I ∧ (nth ps 1).I + (nth ps 0).L.length ≤ 1073741823, fun ps => [.int .i64 ((nth ps 1).I + (nth ps 0).L.length)], fun ps => [.list (markB (nth ps 1).I (nth ps 0).L.length)]⟩
def heldB1 (k : Int) (e : PV) : Bool := e.I == (byteOf k).toNat
theorem heldB_mark (n : Nat) (k : Int) : heldGo heldB1 1 k (markB k n) = k + n := by
  rw [held_marked (m := markB) (fun _ => rfl) (fun k n => ⟨_, rfl, by simp [heldB1, pv_I]⟩), Int.one_mul]
def c_heldByteS : FSpec := ⟨[(.rd, .list (.int .u8)), (.rd, .int .i64)], [.int .i64], true, fun ps => 0 ≤ (nth ps 1).I ∧ (nth ps 1).I + (nth ps 0).L.length ≤ 1073741823, fun ps => [.int .i64 (heldGo heldB1 1 (nth ps 1).I (nth ps 0).L)], fun _ => []⟩
theorem up_get' {w h : Int} : ∀ {es : List PV} {p : Int}, upB w h p es = true → ∀ i, i < es.length → (0 ≤ (nth (nth es i).A 0).I ∧ (nth (nth es i).A 0).I < h) ∧ ((nth (nth es i).A 1).S.length : Int) = 4 * w
  | [], p, hu, i, hi => by simp at hi
  | e :: es, p, hu, 0, hi => by
    simp only [upB, Bool.and_eq_true, inB, decide_eq_true_eq, rowB] at hu
    rw [nth_zero]; omega
  | e :: es, p, hu, i + 1, hi => by
    simp only [upB, Bool.and_eq_true] at hu
    rw [nth_succ]
    exact up_get' hu.2 i (by simpa using hi)
theorem up_all {w h p : Int} {es : List PV} (hu : upB w h p es = true) : ∀ e ∈ es, (0 ≤ (nth e.A 0).I ∧ (nth e.A 0).I < h) ∧ ((nth e.A 1).S.length : Int) = 4 * w := by
  intro e he
  obtain ⟨i, hi, rfl⟩ := List.mem_iff_getElem.1 he
  have := up_get' hu i hi
  rwa [nth_eq hi] at this
theorem vw_facts {n f w h : Int} {u : Bool} {es : List PV} (hv : viewB [.int .i64 n, .int .i64 f, .bool u, .int .i64 w, .int .i64 h, .list es] = true) :
    (0 ≤ n ∧ n ≤ 60 ∧ 0 ≤ f ∧ f ≤ 60 ∧ 2 ≤ w ∧ w ≤ 24 ∧ 2 ≤ h ∧ h ≤ 10 ∧ (es.length : Int) ≤ h) ∧ upB w h (-1) es = true ∧ (u = true → (es.length : Int) = h ∧ f = 0) ∧ (u = false → f < n) := by
  have e1 : inB n 0 60 = true ∧ sizeB w h = true ∧ leB es.length h = true ∧ upB w h (-1) es = true ∧ selB u (f == 0 && (es.length : Int) == h) (inB f 0 (n - 1)) = true := by
    simpa [viewB, nth_zero, nth_succ, pv_I, pv_L, pv_B, and_assoc] using hv
  obtain ⟨h1, h2, h4, h5, h6⟩ := e1
  simp only [inB, sizeB, leB, Bool.and_eq_true, decide_eq_true_eq] at h1 h2 h4
  have h7 : (u = true → (es.length : Int) = h ∧ f = 0) ∧ (u = false → 0 ≤ f ∧ f < n) := by
    cases u
    · simp [selB, inB] at h6 ⊢; omega
    · simp [selB] at h6 ⊢; omega
  refine ⟨?_, h5, h7.1, fun hu => (h7.2 hu).2⟩
  cases u
  · have := h7.2 rfl; omega
  · have := h7.1 rfl; omega

def VW.ls' (v : VW) : List PV := [.int .i64 v.n, .int .i64 v.f, .bool v.u, .int .i64 v.w, .int .i64 v.h, .list v.r]
/-- The encoding of a view. -/
def viewT (v : VW) : List UInt8 := fieldsB (.str (numsB [.int .i64 v.n, .int .i64 v.f, .int .i64 (bitI v.u), .int .i64 v.w, .int .i64 v.h]) :: v.r.map fun e => .str (nB (nth e.A 0).I 1 ++ (nth e.A 1).S))
def c_l11Bytes : FSpec := ⟨[(.rd, .agg [.int .i64, .int .i64, .bool, .int .i64, .int .i64, .list (.agg [.int .i64, .str])])], [.str], true, fun ps => viewB (nth ps 0).A = true, fun ps => [.str (viewT ⟨(nth (nth ps 0).A 0).I, (nth (nth ps 0).A 1).I, (nth (nth ps 0).A 2).B, (nth (nth ps 0).A 3).I, (nth (nth ps 0).A 4).I, (nth (nth ps 0).A 5).L⟩)], fun _ => []⟩
theorem viewT_len {n f w h : Int} {u : Bool} {es : List PV} (hv : viewB [.int .i64 n, .int .i64 f, .bool u, .int .i64 w, .int .i64 h, .list es] = true) : (viewT ⟨n, f, u, w, h, es⟩).length ≤ 1100 := by
  obtain ⟨g1, g2, g3, g4⟩ := vw_facts hv
  unfold viewT fieldsB
  rw [List.length_cons]
  have := flds_len (k := 97) (es := .str (numsB [.int .i64 n, .int .i64 f, .int .i64 (bitI u), .int .i64 w, .int .i64 h]) :: es.map fun e => .str (nB (nth e.A 0).I 1 ++ (nth e.A 1).S)) fun x hx => by
    rcases List.mem_cons.1 hx with rfl | hx
    · rw [pv_S, numsB_len]; simp
    · obtain ⟨e, he, rfl⟩ := List.mem_map.1 hx
      have := (up_all g2 e he).2
      simp only [pv_S, List.length_append, nB_len]; omega
  rw [List.length_cons, List.length_map] at this
  refine Nat.le_trans (Nat.add_le_add_right this 1) ?_
  omega

def viewBytesOf (v : VW) : List PV × Int := if viewB v.ls' = true then (bytesPV (viewT v), 0) else ([], 1)
theorem vbo_a {v : VW} (h : viewB v.ls' = true) : viewBytesOf v = (bytesPV (viewT v), 0) := if_pos h
theorem vbo_b {v : VW} (h : viewB v.ls' = false) : viewBytesOf v = ([], 1) := if_neg (by simp [h])
theorem vbo_len (v : VW) : (viewBytesOf v).1.length ≤ 1100 := by
  cases h : viewB v.ls' with
  | true => rw [vbo_a h, bytesPV_len]; exact viewT_len h
  | false => rw [vbo_b h]; simp

def c_sViewBytes : FSpec := ⟨[(.rd, .agg [.int .i64, .int .i64, .bool, .int .i64, .int .i64, .list (.agg [.int .i64, .str])])], [.list (.int .u8), .int .i64], true, fun _ => True,
  fun ps => [.list (viewBytesOf ⟨(nth (nth ps 0).A 0).I, (nth (nth ps 0).A 1).I, (nth (nth ps 0).A 2).B, (nth (nth ps 0).A 3).I, (nth (nth ps 0).A 4).I, (nth (nth ps 0).A 5).L⟩).1,
    .int .i64 (viewBytesOf ⟨(nth (nth ps 0).A 0).I, (nth (nth ps 0).A 1).I, (nth (nth ps 0).A 2).B, (nth (nth ps 0).A 3).I, (nth (nth ps 0).A 4).I, (nth (nth ps 0).A 5).L⟩).2], fun _ => []⟩
end Go.Proofs.YtolgjekokdimoaaGreatDoor
end

section
namespace Go.Proofs.YtolgjekokdimoaaGreatDoor
open Go.Shelf
def lay_lays105_ren : Go.Shelf.Ren := ⟨fun | 105 => 157 | 212 => 184 | 99 => 185 | 165 => 186 | 166 => 187 | 170 => 188 | 169 => 117 | 263 => 219 | 264 => 220 | 206 => 183 | 240 => 141 | 241 => 221 | 276 => 167 | 277 => 241 | n => n, fun | 9 => 9 | 3 => 3 | 4 => 4 | 20 => 20 | 0 => 0 | 46 => 142 | 109 => 198 | 5 => 5 | 72 => 129 | 76 => 132 | 51 => 171 | 146 => 219 | 53 => 203 | 148 => 221 | 70 => 127 | 37 => 50 | 75 => 131 | 127 => 165 | 164 => 183 | 80 => 124 | n => n, fun | n => n⟩
theorem lay_lays105 : Go.Proofs.Lays.n105 Tryz.prog lay_lays105_ren := {
  mixed := by kernel_rfl
  f99 := Tryz.func185.trans (congrArg some (by kernel_rfl))
  f105 := Tryz.func157.trans (congrArg some (by kernel_rfl))
  f165 := Tryz.func186.trans (congrArg some (by kernel_rfl))
  f166 := Tryz.func187.trans (congrArg some (by kernel_rfl))
  f169 := Tryz.func117.trans (congrArg some (by kernel_rfl))
  f170 := Tryz.func188.trans (congrArg some (by kernel_rfl))
  f206 := Tryz.func183.trans (congrArg some (by kernel_rfl))
  f212 := Tryz.func184.trans (congrArg some (by kernel_rfl))
  f240 := Tryz.func141.trans (congrArg some (by kernel_rfl))
  f241 := Tryz.func221.trans (congrArg some (by kernel_rfl))
  f263 := Tryz.func219.trans (congrArg some (by kernel_rfl))
  f264 := Tryz.func220.trans (congrArg some (by kernel_rfl))
  f276 := Tryz.func167.trans (congrArg some (by kernel_rfl))
  f277 := Tryz.func241.trans (congrArg some (by kernel_rfl))
  t0 := Tryz.underlying0
  a0 := Tryz.isAgg0
  z0 := Tryz.sizeOf0
  v0 := Tryz.zeroValue0
  t3 := Tryz.underlying3
  a3 := Tryz.isAgg3
  z3 := Tryz.sizeOf3
  v3 := Tryz.zeroValue3
  t4 := Tryz.underlying4
  a4 := Tryz.isAgg4
  z4 := Tryz.sizeOf4
  v4 := Tryz.zeroValue4
  t5 := Tryz.underlying5
  a5 := Tryz.isAgg5
  z5 := Tryz.sizeOf5
  v5 := Tryz.zeroValue5
  t9 := Tryz.underlying9
  a9 := Tryz.isAgg9
  z9 := Tryz.sizeOf9
  v9 := Tryz.zeroValue9
  t20 := Tryz.underlying20
  a20 := Tryz.isAgg20
  z20 := Tryz.sizeOf20
  v20 := Tryz.zeroValue20
  t37 := Tryz.underlying50
  a37 := Tryz.isAgg50
  z37 := Tryz.sizeOf50
  v37 := Tryz.zeroValue50
  t46 := Tryz.underlying142
  a46 := Tryz.isAgg142
  z46 := Tryz.sizeOf142
  v46 := Tryz.zeroValue142
  t51 := Tryz.underlying171
  a51 := Tryz.isAgg171
  z51 := Tryz.sizeOf171
  v51 := Tryz.zeroValue171
  t53 := Tryz.underlying203
  a53 := Tryz.isAgg203
  z53 := Tryz.sizeOf203
  v53 := Tryz.zeroValue203
  t70 := Tryz.underlying127
  a70 := Tryz.isAgg127
  z70 := Tryz.sizeOf127
  v70 := Tryz.zeroValue127
  t72 := Tryz.underlying129
  a72 := Tryz.isAgg129
  z72 := Tryz.sizeOf129
  v72 := Tryz.zeroValue129
  t75 := Tryz.underlying131
  a75 := Tryz.isAgg131
  z75 := Tryz.sizeOf131
  v75 := Tryz.zeroValue131
  t76 := Tryz.underlying132
  a76 := Tryz.isAgg132
  z76 := Tryz.sizeOf132
  v76 := Tryz.zeroValue132
  t109 := Tryz.underlying198
  a109 := Tryz.isAgg198
  z109 := Tryz.sizeOf198
  v109 := Tryz.zeroValue198
  t127 := Tryz.underlying165
  a127 := Tryz.isAgg165
  z127 := Tryz.sizeOf165
  v127 := Tryz.zeroValue165
  t146 := Tryz.underlying219
  a146 := Tryz.isAgg219
  z146 := Tryz.sizeOf219
  v146 := Tryz.zeroValue219
  t148 := Tryz.underlying221
  a148 := Tryz.isAgg221
  z148 := Tryz.sizeOf221
  v148 := Tryz.zeroValue221
  t164 := Tryz.underlying183
  a164 := Tryz.isAgg183
  z164 := Tryz.sizeOf183
  v164 := Tryz.zeroValue183 }
theorem lay_Builder_Extra_105 : Builder.Extra Tryz.prog lay_lays105_ren := {
  sizeBuilder := by kernel_rfl
  liesBuilder := by kernel_rfl
  t5 := Tryz.underlying5
  a5 := Tryz.isAgg5
  z5 := Tryz.sizeOf5
  v5 := Tryz.zeroValue5
  infoByte := by kernel_rfl
  cellsByte := by kernel_rfl
  sizeByte := by kernel_rfl
  neB5 := by decide }
open Go.RowKit Go.Lib in
theorem lay_strings_Repeat (s : ByteArray) (c : Nat) (w : World) (hc : c ≤ 9223372036854775807) (hlen : s.size * c ≤ 140737488355328) :
    Calls Tryz.prog 157 #[.string s, .int .i64 c] w fun e w' => e = .returned (.string ⟨(Lib.repeatL s.data.toList c).toArray⟩) ∧ Below w.heap.size w w' := Any.strings_Repeat lay_lays105 lay_Builder_Extra_105 s c w hc hlen
def lay_laysM171_ren : Go.Shelf.Ren := ⟨fun | 171 => 106 | 243 => 133 | 246 => 160 | 283 => 190 | 284 => 191 | 285 => 192 | 286 => 193 | 129 => 224 | 317 => 223 | 318 => 225 | 319 => 226 | 320 => 227 | 337 => 242 | 338 => 243 | n => n, fun | 3 => 3 | 9 => 9 | 2 => 2 | 4 => 4 | 171 => 202 | 0 => 0 | 53 => 203 | 37 => 50 | 5 => 5 | 173 => 206 | 212 => 224 | 51 => 171 | 20 => 20 | 213 => 225 | 46 => 142 | 232 => 238 | 233 => 239 | n => n, fun | 17 => 5 | 18 => 8 | 19 => 9 | n => n⟩
theorem lay_laysM171 : Go.Proofs.LaysM.n171 Tryz.prog lay_laysM171_ren := {
  mixed := by kernel_rfl
  f129 := Tryz.func224.trans (congrArg some (by kernel_rfl))
  f171 := Tryz.func106.trans (congrArg some (by kernel_rfl))
  f243 := Tryz.func133.trans (congrArg some (by kernel_rfl))
  f246 := Tryz.func160.trans (congrArg some (by kernel_rfl))
  f283 := Tryz.func190.trans (congrArg some (by kernel_rfl))
  f284 := Tryz.func191.trans (congrArg some (by kernel_rfl))
  f285 := Tryz.func192.trans (congrArg some (by kernel_rfl))
  f286 := Tryz.func193.trans (congrArg some (by kernel_rfl))
  f317 := Tryz.func223.trans (congrArg some (by kernel_rfl))
  f318 := Tryz.func225.trans (congrArg some (by kernel_rfl))
  f319 := Tryz.func226.trans (congrArg some (by kernel_rfl))
  f320 := Tryz.func227.trans (congrArg some (by kernel_rfl))
  f337 := Tryz.func242.trans (congrArg some (by kernel_rfl))
  f338 := Tryz.func243.trans (congrArg some (by kernel_rfl))
  t0 := Tryz.underlying0
  a0 := Tryz.isAgg0
  z0 := Tryz.sizeOf0
  v0 := Tryz.zeroValue0
  t2 := Tryz.underlying2
  a2 := Tryz.isAgg2
  z2 := Tryz.sizeOf2
  v2 := Tryz.zeroValue2
  t3 := Tryz.underlying3
  a3 := Tryz.isAgg3
  z3 := Tryz.sizeOf3
  v3 := Tryz.zeroValue3
  t4 := Tryz.underlying4
  a4 := Tryz.isAgg4
  z4 := Tryz.sizeOf4
  v4 := Tryz.zeroValue4
  t5 := Tryz.underlying5
  a5 := Tryz.isAgg5
  z5 := Tryz.sizeOf5
  v5 := Tryz.zeroValue5
  t9 := Tryz.underlying9
  a9 := Tryz.isAgg9
  z9 := Tryz.sizeOf9
  v9 := Tryz.zeroValue9
  t20 := Tryz.underlying20
  a20 := Tryz.isAgg20
  z20 := Tryz.sizeOf20
  v20 := Tryz.zeroValue20
  t37 := Tryz.underlying50
  a37 := Tryz.isAgg50
  z37 := Tryz.sizeOf50
  v37 := Tryz.zeroValue50
  t46 := Tryz.underlying142
  a46 := Tryz.isAgg142
  z46 := Tryz.sizeOf142
  v46 := Tryz.zeroValue142
  t51 := Tryz.underlying171
  a51 := Tryz.isAgg171
  z51 := Tryz.sizeOf171
  v51 := Tryz.zeroValue171
  t53 := Tryz.underlying203
  a53 := Tryz.isAgg203
  z53 := Tryz.sizeOf203
  v53 := Tryz.zeroValue203
  t171 := Tryz.underlying202
  a171 := Tryz.isAgg202
  z171 := Tryz.sizeOf202
  v171 := Tryz.zeroValue202
  t173 := Tryz.underlying206
  a173 := Tryz.isAgg206
  z173 := Tryz.sizeOf206
  v173 := Tryz.zeroValue206
  t212 := Tryz.underlying224
  a212 := Tryz.isAgg224
  z212 := Tryz.sizeOf224
  v212 := Tryz.zeroValue224
  t213 := Tryz.underlying225
  a213 := Tryz.isAgg225
  z213 := Tryz.sizeOf225
  t232 := Tryz.underlying238
  a232 := Tryz.isAgg238
  z232 := Tryz.sizeOf238
  v232 := Tryz.zeroValue238
  t233 := Tryz.underlying239
  a233 := Tryz.isAgg239
  z233 := Tryz.sizeOf239
  v233 := Tryz.zeroValue239
  g17 := by kernel_rfl
  g18 := by kernel_rfl
  g19 := by kernel_rfl
  i0 := by kernel_rfl
  i2 := by kernel_rfl
  i3 := by kernel_rfl
  i4 := by kernel_rfl
  i5 := by kernel_rfl
  i9 := by kernel_rfl
  i20 := by kernel_rfl
  i37 := by kernel_rfl
  i46 := by kernel_rfl
  i51 := by kernel_rfl
  i53 := by kernel_rfl
  i171 := by kernel_rfl
  i173 := by kernel_rfl
  i212 := by kernel_rfl
  i232 := by kernel_rfl
  i233 := by kernel_rfl
  m17 := by kernel_rfl
  m18 := by kernel_rfl
  m19 := by kernel_rfl }
open Go.RowKit Go.Sort Go.Lib in
theorem lay_strconv_Itoa (n : Int) (h0 : -9223372036854775808 ≤ n) (h1 : n ≤ 9223372036854775807) (w : World) (htab : Lib.TabIs Tryz.prog w "internal/strconv.uint64pow10" .u64 Lib.pow10Tab) :
    Calls Tryz.prog 106 #[.int .i64 n] w fun e w' => e = .returned (.string ⟨(Lib.itoa n).toArray⟩) ∧ ∃ k os, w' = grow (w.drewN k) os := Any.strconv_Itoa lay_laysM171 n h0 h1 w htab
def lay_lays146_ren : Go.Shelf.Ren := ⟨fun | 146 => 97 | 221 => 125 | 268 => 149 | 138 => 150 | 143 => 151 | 195 => 174 | 197 => 175 | 218 => 176 | 219 => 177 | 260 => 211 | 217 => 212 | 225 => 213 | 224 => 214 | 267 => 215 | 266 => 237 | 314 => 238 | n => n, fun | 9 => 9 | 31 => 22 | 3 => 3 | 4 => 4 | 0 => 0 | 105 => 185 | 21 => 21 | 5 => 5 | 46 => 142 | 119 => 228 | 139 => 231 | 138 => 230 | 146 => 219 | 51 => 171 | n => n, fun | 1 => 2 | 3 => 6 | 4 => 7 | n => n⟩
theorem lay_lays146 : Go.Proofs.Lays.n146 Tryz.prog lay_lays146_ren := {
  mixed := by kernel_rfl
  f138 := Tryz.func150.trans (congrArg some (by kernel_rfl))
  f143 := Tryz.func151.trans (congrArg some (by kernel_rfl))
  f146 := Tryz.func97.trans (congrArg some (by kernel_rfl))
  f195 := Tryz.func174.trans (congrArg some (by kernel_rfl))
  f197 := Tryz.func175.trans (congrArg some (by kernel_rfl))
  f217 := Tryz.func212.trans (congrArg some (by kernel_rfl))
  f218 := Tryz.func176.trans (congrArg some (by kernel_rfl))
  f219 := Tryz.func177.trans (congrArg some (by kernel_rfl))
  f221 := Tryz.func125.trans (congrArg some (by kernel_rfl))
  f224 := Tryz.func214.trans (congrArg some (by kernel_rfl))
  f225 := Tryz.func213.trans (congrArg some (by kernel_rfl))
  f260 := Tryz.func211.trans (congrArg some (by kernel_rfl))
  f266 := Tryz.func237.trans (congrArg some (by kernel_rfl))
  f267 := Tryz.func215.trans (congrArg some (by kernel_rfl))
  f268 := Tryz.func149.trans (congrArg some (by kernel_rfl))
  f314 := Tryz.func238.trans (congrArg some (by kernel_rfl))
  t0 := Tryz.underlying0
  a0 := Tryz.isAgg0
  z0 := Tryz.sizeOf0
  v0 := Tryz.zeroValue0
  t3 := Tryz.underlying3
  a3 := Tryz.isAgg3
  z3 := Tryz.sizeOf3
  v3 := Tryz.zeroValue3
  t4 := Tryz.underlying4
  a4 := Tryz.isAgg4
  z4 := Tryz.sizeOf4
  v4 := Tryz.zeroValue4
  t5 := Tryz.underlying5
  a5 := Tryz.isAgg5
  z5 := Tryz.sizeOf5
  v5 := Tryz.zeroValue5
  t9 := Tryz.underlying9
  a9 := Tryz.isAgg9
  z9 := Tryz.sizeOf9
  v9 := Tryz.zeroValue9
  t21 := Tryz.underlying21
  a21 := Tryz.isAgg21
  z21 := Tryz.sizeOf21
  v21 := Tryz.zeroValue21
  t31 := Tryz.underlying22
  a31 := Tryz.isAgg22
  z31 := Tryz.sizeOf22
  v31 := Tryz.zeroValue22
  t46 := Tryz.underlying142
  a46 := Tryz.isAgg142
  z46 := Tryz.sizeOf142
  v46 := Tryz.zeroValue142
  t51 := Tryz.underlying171
  a51 := Tryz.isAgg171
  z51 := Tryz.sizeOf171
  v51 := Tryz.zeroValue171
  t105 := Tryz.underlying185
  a105 := Tryz.isAgg185
  z105 := Tryz.sizeOf185
  v105 := Tryz.zeroValue185
  t119 := Tryz.underlying228
  a119 := Tryz.isAgg228
  z119 := Tryz.sizeOf228
  t138 := Tryz.underlying230
  a138 := Tryz.isAgg230
  z138 := Tryz.sizeOf230
  v138 := Tryz.zeroValue230
  t139 := Tryz.underlying231
  a139 := Tryz.isAgg231
  z139 := Tryz.sizeOf231
  v139 := Tryz.zeroValue231
  t146 := Tryz.underlying219
  a146 := Tryz.isAgg219
  z146 := Tryz.sizeOf219
  v146 := Tryz.zeroValue219
  g1 := by kernel_rfl
  g3 := by kernel_rfl
  g4 := by kernel_rfl }
open Go.RowKit Go.Lib in
theorem lay_strings_Split (s sep : ByteArray) (m : Int) (w : World) (hs : s.size < 4294967281) (hm : w.cell? ⟨2, 0, none⟩ = some (.int .i64 m)) (h1 : 1 ≤ sep.size) :
    Calls Tryz.prog 97 #[.string s, .string sep] w fun e w' =>
      e = .returned (.slice (some ⟨w.heap.size, 0, none⟩) (Lib.countB s sep + 1) (Lib.countB s sep + 1)) ∧ w' = w.alloc (.cells ((Lib.splitB sep 0 (Lib.countB s sep) s).map Value.string).toArray 9) := Any.strings_Split lay_lays146 (by kernel_rfl) s sep m w hs hm h1
def lay_lays101_ren : Go.Shelf.Ren := ⟨fun | 101 => 127 | 208 => 154 | 206 => 183 | n => n, fun | 9 => 9 | 4 => 4 | 3 => 3 | n => n, fun | n => n⟩
theorem lay_lays101 : Go.Proofs.Lays.n101 Tryz.prog lay_lays101_ren := {
  mixed := by kernel_rfl
  f101 := Tryz.func127.trans (congrArg some (by kernel_rfl))
  f206 := Tryz.func183.trans (congrArg some (by kernel_rfl))
  f208 := Tryz.func154.trans (congrArg some (by kernel_rfl))
  t3 := Tryz.underlying3
  a3 := Tryz.isAgg3
  z3 := Tryz.sizeOf3
  v3 := Tryz.zeroValue3
  t4 := Tryz.underlying4
  a4 := Tryz.isAgg4
  z4 := Tryz.sizeOf4
  v4 := Tryz.zeroValue4
  t9 := Tryz.underlying9
  a9 := Tryz.isAgg9
  z9 := Tryz.sizeOf9
  v9 := Tryz.zeroValue9 }
open Go.RowKit Go.Lib in
theorem lay_strings_TrimPrefix (s p : ByteArray) (w : World) :
    Calls Tryz.prog 127 #[.string s, .string p] w fun e w' => e = .returned (.string ⟨(Lib.trimPrefix s.data.toList p.data.toList).toArray⟩) ∧ w' = w := Any.strings_TrimPrefix lay_lays101 s p w
def lay_laysC172_ren : Go.Shelf.Ren := ⟨fun | 172 => 126 | 244 => 152 | 245 => 153 | 247 => 178 | 279 => 179 | 280 => 180 | 281 => 181 | 282 => 182 | 287 => 216 | 316 => 217 | 171 => 106 | 205 => 218 | 321 => 239 | 322 => 240 | 243 => 133 | 246 => 160 | 283 => 190 | 284 => 191 | 285 => 192 | 286 => 193 | 129 => 224 | 317 => 223 | 318 => 225 | 319 => 226 | 320 => 227 | 337 => 242 | 338 => 243 | n => n, fun | 9 => 9 | 3 => 3 | 75 => 131 | 76 => 132 | 4 => 4 | 5 => 5 | 167 => 192 | 37 => 50 | 0 => 0 | 85 => 193 | 2 => 2 | 168 => 195 | 53 => 203 | 175 => 214 | 46 => 142 | 210 => 217 | 127 => 165 | 145 => 236 | 143 => 234 | 21 => 21 | 171 => 202 | 173 => 206 | 212 => 224 | 51 => 171 | 20 => 20 | 213 => 225 | 232 => 238 | 233 => 239 | 80 => 124 | n => n, fun | 15 => 3 | 16 => 4 | 17 => 5 | 18 => 8 | 19 => 9 | n => n⟩
theorem lay_laysC172 : Go.Proofs.LaysC.n172 Tryz.prog lay_laysC172_ren := {
  mixed := by kernel_rfl
  f129 := Tryz.func224.trans (congrArg some (by kernel_rfl))
  f171 := Tryz.func106.trans (congrArg some (by kernel_rfl))
  f172 := Tryz.func126.trans (congrArg some (by kernel_rfl))
  f205 := Tryz.func218.trans (congrArg some (by kernel_rfl))
  f243 := Tryz.func133.trans (congrArg some (by kernel_rfl))
  f244 := Tryz.func152.trans (congrArg some (by kernel_rfl))
  f245 := Tryz.func153.trans (congrArg some (by kernel_rfl))
  f246 := Tryz.func160.trans (congrArg some (by kernel_rfl))
  f247 := Tryz.func178.trans (congrArg some (by kernel_rfl))
  f279 := Tryz.func179.trans (congrArg some (by kernel_rfl))
  f280 := Tryz.func180.trans (congrArg some (by kernel_rfl))
  f281 := Tryz.func181.trans (congrArg some (by kernel_rfl))
  f282 := Tryz.func182.trans (congrArg some (by kernel_rfl))
  f283 := Tryz.func190.trans (congrArg some (by kernel_rfl))
  f284 := Tryz.func191.trans (congrArg some (by kernel_rfl))
  f285 := Tryz.func192.trans (congrArg some (by kernel_rfl))
  f286 := Tryz.func193.trans (congrArg some (by kernel_rfl))
  f287 := Tryz.func216.trans (congrArg some (by kernel_rfl))
  f316 := Tryz.func217.trans (congrArg some (by kernel_rfl))
  f317 := Tryz.func223.trans (congrArg some (by kernel_rfl))
  f318 := Tryz.func225.trans (congrArg some (by kernel_rfl))
  f319 := Tryz.func226.trans (congrArg some (by kernel_rfl))
  f320 := Tryz.func227.trans (congrArg some (by kernel_rfl))
  f321 := Tryz.func239.trans (congrArg some (by kernel_rfl))
  f322 := Tryz.func240.trans (congrArg some (by kernel_rfl))
  f337 := Tryz.func242.trans (congrArg some (by kernel_rfl))
  f338 := Tryz.func243.trans (congrArg some (by kernel_rfl))
  t0 := Tryz.underlying0
  a0 := Tryz.isAgg0
  z0 := Tryz.sizeOf0
  v0 := Tryz.zeroValue0
  t2 := Tryz.underlying2
  a2 := Tryz.isAgg2
  z2 := Tryz.sizeOf2
  v2 := Tryz.zeroValue2
  t3 := Tryz.underlying3
  a3 := Tryz.isAgg3
  z3 := Tryz.sizeOf3
  v3 := Tryz.zeroValue3
  t4 := Tryz.underlying4
  a4 := Tryz.isAgg4
  z4 := Tryz.sizeOf4
  v4 := Tryz.zeroValue4
  t5 := Tryz.underlying5
  a5 := Tryz.isAgg5
  z5 := Tryz.sizeOf5
  v5 := Tryz.zeroValue5
  t9 := Tryz.underlying9
  a9 := Tryz.isAgg9
  z9 := Tryz.sizeOf9
  v9 := Tryz.zeroValue9
  t20 := Tryz.underlying20
  a20 := Tryz.isAgg20
  z20 := Tryz.sizeOf20
  v20 := Tryz.zeroValue20
  t21 := Tryz.underlying21
  a21 := Tryz.isAgg21
  z21 := Tryz.sizeOf21
  v21 := Tryz.zeroValue21
  t37 := Tryz.underlying50
  a37 := Tryz.isAgg50
  z37 := Tryz.sizeOf50
  v37 := Tryz.zeroValue50
  t46 := Tryz.underlying142
  a46 := Tryz.isAgg142
  z46 := Tryz.sizeOf142
  v46 := Tryz.zeroValue142
  t51 := Tryz.underlying171
  a51 := Tryz.isAgg171
  z51 := Tryz.sizeOf171
  v51 := Tryz.zeroValue171
  t53 := Tryz.underlying203
  a53 := Tryz.isAgg203
  z53 := Tryz.sizeOf203
  v53 := Tryz.zeroValue203
  t75 := Tryz.underlying131
  a75 := Tryz.isAgg131
  z75 := Tryz.sizeOf131
  v75 := Tryz.zeroValue131
  t76 := Tryz.underlying132
  a76 := Tryz.isAgg132
  z76 := Tryz.sizeOf132
  v76 := Tryz.zeroValue132
  t85 := Tryz.underlying193
  a85 := Tryz.isAgg193
  z85 := Tryz.sizeOf193
  v85 := Tryz.zeroValue193
  t127 := Tryz.underlying165
  a127 := Tryz.isAgg165
  z127 := Tryz.sizeOf165
  v127 := Tryz.zeroValue165
  t143 := Tryz.underlying234
  a143 := Tryz.isAgg234
  z143 := Tryz.sizeOf234
  v143 := Tryz.zeroValue234
  t145 := Tryz.underlying236
  a145 := Tryz.isAgg236
  z145 := Tryz.sizeOf236
  v145 := Tryz.zeroValue236
  t167 := Tryz.underlying192
  a167 := Tryz.isAgg192
  z167 := Tryz.sizeOf192
  v167 := Tryz.zeroValue192
  t168 := Tryz.underlying195
  a168 := Tryz.isAgg195
  z168 := Tryz.sizeOf195
  v168 := Tryz.zeroValue195
  t171 := Tryz.underlying202
  a171 := Tryz.isAgg202
  z171 := Tryz.sizeOf202
  v171 := Tryz.zeroValue202
  t173 := Tryz.underlying206
  a173 := Tryz.isAgg206
  z173 := Tryz.sizeOf206
  v173 := Tryz.zeroValue206
  t175 := Tryz.underlying214
  a175 := Tryz.isAgg214
  z175 := Tryz.sizeOf214
  v175 := Tryz.zeroValue214
  t210 := Tryz.underlying217
  a210 := Tryz.isAgg217
  z210 := Tryz.sizeOf217
  v210 := Tryz.zeroValue217
  t212 := Tryz.underlying224
  a212 := Tryz.isAgg224
  z212 := Tryz.sizeOf224
  v212 := Tryz.zeroValue224
  t213 := Tryz.underlying225
  a213 := Tryz.isAgg225
  z213 := Tryz.sizeOf225
  t232 := Tryz.underlying238
  a232 := Tryz.isAgg238
  z232 := Tryz.sizeOf238
  v232 := Tryz.zeroValue238
  t233 := Tryz.underlying239
  a233 := Tryz.isAgg239
  z233 := Tryz.sizeOf239
  v233 := Tryz.zeroValue239
  g15 := by kernel_rfl
  g16 := by kernel_rfl
  g17 := by kernel_rfl
  g18 := by kernel_rfl
  g19 := by kernel_rfl
  t80 := Tryz.underlying124
  a80 := Tryz.isAgg124
  z80 := Tryz.sizeOf124
  v80 := Tryz.zeroValue124
  i0 := by kernel_rfl
  i2 := by kernel_rfl
  i3 := by kernel_rfl
  i4 := by kernel_rfl
  i5 := by kernel_rfl
  i9 := by kernel_rfl
  i20 := by kernel_rfl
  i21 := by kernel_rfl
  i37 := by kernel_rfl
  i46 := by kernel_rfl
  i51 := by kernel_rfl
  i53 := by kernel_rfl
  i75 := by kernel_rfl
  i76 := by kernel_rfl
  i80 := by kernel_rfl
  i85 := by kernel_rfl
  i127 := by kernel_rfl
  i143 := by kernel_rfl
  i145 := by kernel_rfl
  i167 := by kernel_rfl
  i168 := by kernel_rfl
  i171 := by kernel_rfl
  i173 := by kernel_rfl
  i175 := by kernel_rfl
  i210 := by kernel_rfl
  i212 := by kernel_rfl
  i232 := by kernel_rfl
  i233 := by kernel_rfl
  m15 := by kernel_rfl
  m16 := by kernel_rfl
  m17 := by kernel_rfl
  m18 := by kernel_rfl
  m19 := by kernel_rfl
  c0 := by kernel_rfl
  c2 := by kernel_rfl
  c3 := by kernel_rfl
  c4 := by kernel_rfl
  c5 := by kernel_rfl
  c9 := by kernel_rfl
  c20 := by kernel_rfl
  c21 := by kernel_rfl
  c37 := by kernel_rfl
  c46 := by kernel_rfl
  c51 := by kernel_rfl
  c53 := by kernel_rfl
  c75 := by kernel_rfl
  c76 := by kernel_rfl
  c80 := by kernel_rfl
  c85 := by kernel_rfl
  c127 := by kernel_rfl
  c143 := by kernel_rfl
  c145 := by kernel_rfl
  c167 := by kernel_rfl
  c168 := by kernel_rfl
  c171 := by kernel_rfl
  c173 := by kernel_rfl
  c175 := by kernel_rfl
  c210 := by kernel_rfl
  c212 := by kernel_rfl
  c213 := by kernel_rfl
  c232 := by kernel_rfl
  c233 := by kernel_rfl }
open Go.RowKit in
theorem lay_strconv_Atoi_ok (s : ByteArray) (hmax : s.size ≤ 9223372036854775806) (v : Int) (h : Lib.atoiAll s.data.toList = .ok v) (w : World) :
    Calls Tryz.prog 126 #[.string s] w fun e w' => e = .returned (.tuple #[.int .i64 v, .nilIface]) ∧ (w' = w ∨ ∃ t, w' = Lib.bytesWorld w 5 t) := Any.strconv_Atoi_ok lay_laysC172 s hmax v h w
open Go.RowKit in
theorem lay_strconv_Atoi_range (s : ByteArray) (hlim : s.size ≤ 281474976710656) (h : Lib.atoiAll s.data.toList = .range) (ev : Value) (w : World) (hv : w.cell? ⟨4, 0, none⟩ = some ev) (hev : ev = .nilIface ∨ ∃ te pe, ev = .iface te pe) :
    Calls Tryz.prog 126 #[.string s] w fun e w' => ∃ N, e = .returned (.tuple #[.int .i64 (Lib.atoiSat s.data.toList), .iface 195 (.pointer (some ⟨N, 0, none⟩))]) ∧ w.heap.size ≤ N ∧ w'.heap[N]? = some (.cells #[.string ⟨#[65, 116, 111, 105]⟩, .string s, ev] 217 (0, 0)) ∧ Below w.heap.size w w' := Any.strconv_Atoi_range lay_laysC172 s hlim h ev w hv hev
end Go.Proofs.YtolgjekokdimoaaGreatDoor
end

section
namespace Go.Proofs.YtolgjekokdimoaaGreatDoor
variable [LaidG]
variable [LaidN 5]
open Go.Shelf Go.RowKit
set_option maxRecDepth 100000
set_option linter.unusedVariables false

theorem ret_str {w : World} {l : List UInt8} (h : l.length ≤ LIM) : RetVs w [.str] [.str l] [.string ⟨l.toArray⟩] [] := by
  have h1 : RetV w .str (.str l) (.string ⟨l.toArray⟩) [] := by
    refine ⟨[[]], ?_, rfl⟩
    first
      | exact .str h .nil
      | (constructor <;> first | exact h | constructor)
  exact .cons h1 .nil
theorem repL (x : UInt8) : ∀ n, Lib.repeatL [x] n = List.replicate n x
  | 0 => rfl
  | n + 1 => by rw [Lib.repeatL, repL x n, List.replicate_succ]; rfl

def c_SRepeat : FSpec := ⟨[(.rd, .str), (.rd, .int .i64)], [.str], true, fun ps => (nth ps 0).S.length = 1 ∧ 0 ≤ (nth ps 1).I ∧ (nth ps 1).I ≤ 64, fun ps => [.str (List.replicate (nth ps 1).I.toNat ((nth ps 0).S.headD 0))], fun _ => []⟩
theorem meets_SRepeat : Meets Tryz.prog 157 c_SRepeat := by
  intro w ps vs fs fl ms hA hnd hdj hpre hgl
  clear hgl
  cases hA with
  | rd h1 hA => cases hA with
  | rd h2 hA =>
  cases hA
  obtain ⟨h1, rfl⟩ := h1
  obtain ⟨h2, rfl⟩ := h2
  cases h1 with | str hl h1 =>
  cases h1
  cases h2 with | int hk h2 =>
  cases h2
  rename_i l k
  obtain ⟨p1, p2, p3⟩ := hpre
  simp only [nth, List.getD_cons_zero, List.getD_cons_succ, PV.S, PV.I] at p1 p2 p3
  obtain ⟨n, rfl⟩ : ∃ n : Nat, k = n := ⟨k.toNat, by omega⟩
  obtain ⟨x, rfl⟩ : ∃ x, l = [x] := by
    match l, p1 with
    | [x], _ => exact ⟨x, rfl⟩
  refine (lay_strings_Repeat ⟨[x].toArray⟩ n w (by omega) (by show [x].toArray.size * n ≤ _; simp; omega)).mono ?_
  rintro e w' ⟨rfl, hB⟩
  refine ⟨[.string ⟨(List.replicate n x).toArray⟩], ?_, ?_, .inl ⟨rfl, [], [], ?_, .rd (.rd .nil), by simp, fun x hx => by simp at hx⟩⟩
  · show Ending.returned (.string ⟨(Lib.repeatL [x] n).toArray⟩) = _
    rw [repL]; rfl
  · exact ⟨hB.os, hB.tape, hB.output, hB.size, fun k hk _ => hB.block k hk⟩
  · show RetVs w' [.str] [.str (List.replicate ((n : Int).toNat) (List.headD [x] 0))] _ _
    rw [Int.toNat_natCast]
    exact ret_str (by simp [LIM]; omega)
theorem k_SRepeat : FnOk Tryz.prog 157 c_SRepeat := ⟨meets_SRepeat, _, Tryz.func157, rfl, by decide⟩

def decS (n : Int) : List UInt8 := Lib.itoa n
theorem decS_len {n : Int} (h : -1 ≤ n) (h2 : n < 1000) : (decS n).length ≤ 3 := by
  have : ∀ k : Fin 1001, (decS ((k.val : Int) - 1)).length ≤ 3 := by decide +kernel
  have := this ⟨(n + 1).toNat, by omega⟩
  rwa [show (((n + 1).toNat : Nat) : Int) - 1 = n by omega] at this
theorem lv_u64 {w : World} : ∀ {zs : List Int} {cs : List Value}, Lv w (flatT (.int .u64) zs.length) (flatP (zs.map (PV.int .u64))) cs [] → cs = zs.map fun z => Value.int .u64 z
  | [], cs, h => by
    cases h; rfl
  | z :: zs, cs, h => by
    have h' : Lv w (.int .u64 :: flatT (.int .u64) zs.length) (.int .u64 z :: flatP (zs.map (PV.int .u64))) cs [] := h
    cases h' with | int _ h2 => rw [lv_u64 h2]; rfl
theorem tab_is {w : World} {X : List Nat} (h : GlOk w X) : Lib.TabIs Tryz.prog w "internal/strconv.uint64pow10" .u64 Lib.pow10Tab := by
  obtain ⟨_, c, t, hc, _, _, hL⟩ := h.dat 5 (.int .u64) G5 rfl (by simp)
  have e : Tryz.prog.globalNamed "internal/strconv.uint64pow10" = some 5 := by kernel_rfl
  have hL' : Lv w (flatT (.int .u64) Lib.pow10Tab.length) (flatP (Lib.pow10Tab.map (PV.int .u64))) c.toList [] := hL
  have h3 := lv_u64 hL'
  unfold Lib.TabIs World.var?
  rw [e]
  show (match w.heap[5]? with | some (.cells cs _ _) => some cs | _ => none) = _
  rw [hc]
  show some c = _
  rw [← h3]
def c_Itoa : FSpec := ⟨[(.rd, .int .i64)], [.str], true, fun ps => -1 ≤ (nth ps 0).I ∧ (nth ps 0).I < 1000, fun ps => [.str (decS (nth ps 0).I)], fun _ => []⟩
theorem meets_Itoa : Meets Tryz.prog 106 c_Itoa := by
  intro w ps vs fs fl ms hA hnd hdj hpre hgl
  cases hA with
  | rd h1 hA =>
  cases hA
  obtain ⟨h1, rfl⟩ := h1
  cases h1 with | int hk h1 =>
  cases h1
  rename_i n
  obtain ⟨p1, p2⟩ := hpre
  simp only [nth, List.getD_cons_zero, PV.I] at p1 p2
  refine (lay_strconv_Itoa n (by omega) (by omega) w (tab_is hgl)).mono ?_
  rintro e w' ⟨rfl, k, os, rfl⟩
  refine ⟨[.string ⟨(decS n).toArray⟩], rfl, ?_, .inl ⟨rfl, [], [], ret_str (l := decS n) (Nat.le_trans (decS_len p1 p2) (by decide)), .rd .nil, by simp, fun x hx => by simp at hx⟩⟩
  refine ⟨rfl, rfl, rfl, ?_, fun j hj _ => ?_⟩
  · show w.heap.size ≤ (w.heap ++ os).size
    simp
  · show (w.heap ++ os)[j]? = w.heap[j]?
    rw [Array.getElem?_append_left hj]
theorem k_Itoa : FnOk Tryz.prog 106 c_Itoa := ⟨meets_Itoa, _, Tryz.func106, rfl, by decide⟩

end Go.Proofs.YtolgjekokdimoaaGreatDoor
end

section
namespace Go.Proofs.YtolgjekokdimoaaGreatDoor
variable [LaidG]
variable [LaidN 0] [LaidN 1]
variable [LaidN 5]
set_option maxRecDepth 100000
set_option linter.unusedSimpArgs false

/-- Bytes, filled up to whole blocks. -/
def padB (s : List UInt8) : List UInt8 := s ++ ([128] ++ (List.replicate ((119 - s.length % 64) % 64) 0 ++ nB (8 * (s.length : Int)) 8))
def padN (n : Nat) : Nat := (n + 72) / 64
theorem padB_len (s : List UInt8) : (padB s).length = 64 * padN s.length := by
  simp only [padB, List.length_append, List.length_replicate, nB_len, List.length_cons, List.length_nil, padN]
  omega
def blkB (P : List UInt8) (i : Nat) : List UInt8 := (P.drop (64 * i)).take 64
/-- The states behind the first blocks. -/
def shaI (P : List UInt8) : Nat → List PV
  | 0 => G0
  | i + 1 => blkP G1 (shaI P i) (byteF (blkB P i))
theorem shaI_len (P : List UInt8) : ∀ i, (shaI P i).length = 8
  | 0 => rfl
  | i + 1 => blkP_len _ _ _
def U32s (l : List PV) : Prop := ∀ e ∈ l, ∃ n, e = PV.int .u32 n ∧ inR .u32 n
theorem addP_ty (v r : List PV) : ∀ n, U32s (addP v r n)
  | 0 => fun e he => by simp [addP] at he
  | n + 1 => fun e he => by
    rw [addP] at he
    rcases List.mem_append.1 he with h | h
    · exact addP_ty v r n e h
    · rw [List.mem_singleton] at h
      exact ⟨_, h, inR_wrap _ _⟩
theorem shaI_ty (P : List UInt8) : ∀ i, U32s (shaI P i)
  | 0 => fun e he => by
    obtain ⟨n, hn, rfl⟩ := List.mem_map.1 he
    refine ⟨n, rfl, ?_⟩
    have : ∀ n ∈ ([1779033703, 3144134277, 1013904242, 2773480762, 1359893119, 2600822924, 528734635, 1541459225] : List Int), 0 ≤ n ∧ n < 4294967296 := by decide
    have h := this n hn
    simp [inR, IntKind.min, IntKind.max, IntKind.signed, IntKind.bits]
    omega
  | i + 1 => addP_ty _ _ _
theorem shaI_at {P : List UInt8} {i j : Nat} (h : j < 8) : 0 ≤ (nth (shaI P i) j).I ∧ (nth (shaI P i) j).I < 4294967296 := by
  obtain ⟨n, e, h⟩ := shaI_ty P i _ (nth_mem (by rw [shaI_len]; exact h))
  rw [e, pv_I]
  simp [inR, IntKind.min, IntKind.max, IntKind.signed, IntKind.bits] at h
  omega
def outB (st : List PV) : List UInt8 := st.flatMap fun e => nB e.I 4
theorem outB_take {st : List PV} {i : Nat} (h : i < st.length) : outB (st.take (i + 1)) = outB (st.take i) ++ nB (nth st i).I 4 := by
  rw [take_nth h]; simp [outB]
theorem outB_len (st : List PV) : (outB st).length = 4 * st.length := by
  induction st with
  | nil => rfl
  | cons e st ih => simp only [outB, List.flatMap_cons, List.length_append, nB_len, List.length_cons] at ih ⊢; omega
/-- The hash. -/
def shaL (s : List UInt8) : List UInt8 := outB (shaI (padB s) (padN s.length))
theorem shaL_len (s : List UInt8) : (shaL s).length = 32 := by rw [shaL, outB_len, shaI_len]

theorem shr32 {n : Int} {k : Nat} (h : 0 ≤ n) (hk : k ≤ 31) : shrI .u32 n (k : Nat) = n / 2 ^ k := by
  unfold shrI
  have e : min ((k : Int).toNat) IntKind.u32.bits = k := by
    have : IntKind.u32.bits = 32 := rfl
    rw [this, Int.toNat_natCast]; omega
  rw [e, Int.fdiv_eq_ediv_of_nonneg _ (Int.pow_nonneg (by omega))]

theorem shrs {n : Int} (h : 0 ≤ n) : shrI .u32 n 24 = n / 256 ^ 3 ∧ shrI .u32 n 16 = n / 256 ^ 2 ∧ shrI .u32 n 8 = n / 256 := by
  have h1 := shr32 (k := 24) h (by omega)
  have h2 := shr32 (k := 16) h (by omega)
  have h3 := shr32 (k := 8) h (by omega)
  exact ⟨by simpa using h1, by simpa using h2, by simpa using h3⟩
theorem nB4 (n : Int) : nB n 4 = [byteOf (n / 256 ^ 3), byteOf (n / 256 ^ 2), byteOf (n / 256), byteOf n] := by
  simp [nB, List.range_succ]

theorem bytesPV_pv : ∀ {s : List PV}, (∀ e ∈ s, ∃ n, e = PV.int IntKind.u8 n ∧ inR .u8 n) → bytesPV (pvBytes s) = s
  | [], _ => rfl
  | e :: s, h => by
    obtain ⟨n, rfl, hn⟩ := h e (by simp)
    have h2 := bytesPV_pv (s := s) fun x hx => h x (by simp [hx])
    simp [inR, IntKind.min, IntKind.max, IntKind.signed, IntKind.bits] at hn
    simp only [bytesPV, pvBytes, List.map_cons, List.map_map, pv_I] at h2 ⊢
    rw [h2, UInt8.toNat_ofNat', Nat.mod_eq_of_lt (by omega)]
    congr 2
    omega
theorem padZ {n : Nat} (h : n ≤ 1000000000) : (IntKind.i64.wrap (119 - (n : Int).tmod 64)).tmod 64 = (((119 - n % 64) % 64 : Nat) : Int) := by
  have e : (n : Int).tmod 64 = n % 64 := Int.tmod_eq_emod_of_nonneg (by omega)
  rw [e, wrap64 (by omega), Int.tmod_eq_emod_of_nonneg (by omega)]
  omega
theorem byteP_bytes (b : List UInt8) : byteP (bytesPV b) = byteF b := by
  funext k
  simp only [byteP, byteF, nth, bytesPV, List.getElem?_map, List.getD_eq_getElem?_getD]
  cases b[k]? <;> rfl

def c_hash : FSpec := ⟨[(.rd, .str)], [.str], true, fun ps => (nth ps 0).S.length ≤ 1000000000, fun ps => [.str (shaL (nth ps 0).S)], fun _ => []⟩
theorem k_hash : FnOk Tryz.prog 132 c_hash := by
  refine fn_mk [0, 2, 3, 4, 5, 6, 8, 32, 33] [.tmp 2] (env_cons (cs := []) k_hashBlock (env_cons (cs := []) k_bigBytes (env_cons (cs := []) k_SRepeat (env_nil (tyTab_ok []))))) mixed Tryz.func132 rfl (by decide) rfl (by decide) rfl ?_
  intro ps hT hpre W hW
  simp only [c_hash, TyA, Ty, Tys] at hT hpre
  obtain ⟨_, _, rfl, ⟨s, rfl, hs⟩, rfl⟩ := hT
  simp only [nth_zero, pv_S] at hpre
  refine hW.vc [] _ _ ?_
  simp [-List.getD_eq_getElem?_getD, c_hash, c_SRepeat, c_bigBytes, c_hashBlock]
  rw [padZ hpre, wrap64 (n := 8 * (s.length : Int)) (by omega)]
  simp only [Int.toNat_natCast]
  refine ⟨rfl, fun _ => ⟨by omega, ⟨by omega, by omega⟩, by omega, fun _ => ⟨by omega, by rw [nB_len]; omega, ?_⟩⟩⟩
  have e : s ++ 128 :: (List.replicate ((119 - s.length % 64) % 64) 0 ++ nB (8 * (s.length : Int)) 8) = padB s := rfl
  rw [e]
  obtain ⟨P, hP⟩ : ∃ P, P = padB s := ⟨_, rfl⟩
  rw [← hP]
  have hl : P.length = 64 * padN s.length := by rw [hP, padB_len]
  obtain ⟨m, hm⟩ : ∃ m, m = padN s.length := ⟨_, rfl⟩
  rw [← hm] at hl
  refine hW.cutS [_, _] _ _ [.ax 3, .sl 5 .dp .str] (fun ys => ys = [.list (shaI P m), .str []]) ?_ ?_
  · refine hW.loopS _ _ _ [.ax 3, .sl 5 .dp .str] (fun ys => ∃ i : Nat, ys = [.list (shaI P i), .str (P.drop (64 * i))] ∧ i ≤ m) (fun ys => (nth ys 1).S.length) ?_ ?_
    · simp [-List.getD_eq_getElem?_getD, c_hash, c_SRepeat, c_bigBytes, c_hashBlock]
      exact ⟨0, ⟨rfl, rfl⟩, by omega⟩
    · rintro ys ⟨i, rfl, h1⟩
      refine hW.vc [] _ _ ?_
      simp [-List.getD_eq_getElem?_getD, c_hash, c_SRepeat, c_bigBytes, c_hashBlock]
      have h2 := shaI_len P i
      refine ⟨fun h => ⟨by omega, ⟨h2, by omega⟩, by omega, ⟨i + 1, ⟨rfl, ?_⟩, by omega⟩, by omega⟩, fun h => ?_⟩
      · rw [List.take_of_length_le (by rw [List.length_drop]; omega)]; rfl
      · have : i = m := by omega
        subst this
        exact ⟨rfl, by omega⟩
  · rintro ys rfl
    refine hW.vc [] _ _ ?_
    simp [-List.getD_eq_getElem?_getD, c_hash, c_SRepeat, c_bigBytes, c_hashBlock]
    rw [shaI_len]
    refine ⟨rfl, ?_⟩
    refine hW.loopS _ _ _ [.sl 6 .dp .str, .sl 33 .dp (.int .i64)] (fun ys => ∃ i : Nat, ys = [.str (outB ((shaI P m).take i)), .int .i64 i] ∧ i ≤ 8) (fun ys => 8 - (nth ys 1).I.toNat) ?_ ?_
    · simp [-List.getD_eq_getElem?_getD, c_hash, c_SRepeat, c_bigBytes, c_hashBlock]
      exact ⟨0, ⟨rfl, rfl⟩, by omega⟩
    · rintro ys ⟨i, rfl, h1⟩
      refine hW.vc [] _ _ ?_
      simp [-List.getD_eq_getElem?_getD, c_hash, c_SRepeat, c_bigBytes, c_hashBlock]
      have h2 := shaI_len P m
      refine ⟨fun h => ?_, fun h => ?_⟩
      · have e : [(nth (shaI P m) 0).I, (nth (shaI P m) 1).I, (nth (shaI P m) 2).I, (nth (shaI P m) 3).I, (nth (shaI P m) 4).I, (nth (shaI P m) 5).I, (nth (shaI P m) 6).I, (nth (shaI P m) 7).I].getD i 0 = (nth (shaI P m) i).I := by
          have h3 := pv_getD (s8Of (shaI P m)) (i := i) (by omega)
          rw [pv_s8 h2 (shaI_ty P m)] at h3
          exact h3
        have h4 := shaI_at (P := P) (i := m) (j := i) (by omega)
        rw [e, wrap64 (n := (nth (shaI P m) i).I) (by omega), wrap64 (n := (i : Int) + 1) (by omega), outB_len, nB_len, List.length_take]
        exact ⟨h, h4.1, by omega, ⟨i + 1, ⟨(outB_take (by omega)).symm, by omega⟩, by omega⟩, by omega⟩
      · rw [List.take_of_length_le (by omega), shaL, ← hP, ← hm]

def c_l01Hash : FSpec := ⟨[(.rd, .list (.int .u8))], [.str], true, fun ps => (nth ps 0).L.length ≤ 1000000000, fun ps => [.str (shaL (pvBytes (nth ps 0).L))], fun _ => []⟩
theorem k_l01Hash : FnOk Tryz.prog 148 c_l01Hash := by
  refine fn_mk [0, 2, 3, 4, 5, 6, 7, 8, 9] [.tmp 2] (env_cons (cs := []) k_l01Block (env_cons (cs := []) k_l01Consts (env_nil (tyTab_ok [])))) mixed Tryz.func148 rfl (by decide) rfl (by decide) rfl ?_
  intro ps hT hpre W hW
  simp only [c_l01Hash, TyA, Ty, Tys] at hT hpre
  obtain ⟨_, _, rfl, ⟨s, rfl, hs, ts⟩, rfl⟩ := hT
  simp only [nth_zero, pv_L] at hpre
  obtain ⟨b, hb⟩ : ∃ b, b = pvBytes s := ⟨_, rfl⟩
  have hbs : s = bytesPV b := by rw [hb, bytesPV_pv ts]
  subst hbs
  rw [bytesPV_len] at hpre
  refine hW.vc [(18, [25], .take 0 <| .take 1 <| .take 2 <| .take 3 <| .take 4 <| .take 5 <| .take 6 <| .take 7 <| .take 8 <| .take 9 <| .take 10 <| .take 11 <| .take 12 <| .take 13 <| .take 14 <| .take 15 <| .take 16 <| .take 17 <| .take 18 <| .take 19 <| .take 20 <| .take 21 <| .take 22 <| .take 23 <| .alt 24 (.alt 25 (.alt 26 (.done) .stop) .stop) .stop)] _ _ ?_
  simp [-List.getD_eq_getElem?_getD, c_l01Hash, c_l01Consts, c_l01Block]
  rw [bytesPV_len]
  refine ⟨by decide, by omega, by omega, fun _ => ?_⟩
  refine hW.cutS [_, _] _ _ [.sl 4 .dp (.list (.int .u8))] (fun ys => ys = [.list (bytesPV (b ++ ([128] ++ List.replicate ((119 - b.length % 64) % 64) 0)))]) ?_ ?_
  · refine hW.loopS _ _ _ [.sl 4 .dp (.list (.int .u8))] (fun ys => ∃ i : Nat, ys = [.list (bytesPV (b ++ ([128] ++ List.replicate i 0)))] ∧ i ≤ (119 - b.length % 64) % 64) (fun ys => b.length + 1 + 64 - (nth ys 0).L.length) ?_ ?_
    · simp [-List.getD_eq_getElem?_getD, c_l01Hash, c_l01Consts, c_l01Block]
      exact ⟨0, by rw [bytesPV_app]; rfl, by omega⟩
    · rintro ys ⟨i, rfl, h1⟩
      refine hW.vc [(18, [25], .take 0 <| .take 1 <| .take 2 <| .take 3 <| .take 4 <| .take 5 <| .take 6 <| .take 7 <| .take 8 <| .take 9 <| .take 10 <| .take 11 <| .take 12 <| .take 13 <| .take 14 <| .take 15 <| .take 16 <| .take 17 <| .take 18 <| .take 19 <| .take 20 <| .take 21 <| .take 22 <| .take 23 <| .alt 24 (.alt 25 (.alt 26 (.done) .stop) .stop) .stop)] _ _ ?_
      simp [-List.getD_eq_getElem?_getD, c_l01Hash, c_l01Consts, c_l01Block]
      have hlen : (bytesPV (b ++ 128 :: List.replicate i 0)).length = b.length + 1 + i := by
        rw [bytesPV_len]; simp; omega
      rw [hlen, Int.tmod_eq_emod_of_nonneg (by omega)]
      refine fun _ => ⟨fun h2 => ⟨by omega, fun _ => ⟨⟨i + 1, ?_, by omega⟩, by omega⟩⟩, fun h2 => ?_⟩
      · rw [List.replicate_succ', ← List.cons_append, ← List.append_assoc, bytesPV_app (_ ++ _)]; rfl
      · have : i = (119 - b.length % 64) % 64 := by omega
        rw [← this]
  · rintro ys rfl
    refine hW.vc [(18, [25], .take 0 <| .take 1 <| .take 2 <| .take 3 <| .take 4 <| .take 5 <| .take 6 <| .take 7 <| .take 8 <| .take 9 <| .take 10 <| .take 11 <| .take 12 <| .take 13 <| .take 14 <| .take 15 <| .take 16 <| .take 17 <| .take 18 <| .take 19 <| .take 20 <| .take 21 <| .take 22 <| .take 23 <| .alt 24 (.alt 25 (.alt 26 (.done) .stop) .stop) .stop)] _ _ ?_
    simp [-List.getD_eq_getElem?_getD, c_l01Hash, c_l01Consts, c_l01Block]
    obtain ⟨Q, hQ⟩ : ∃ Q, Q = b ++ 128 :: List.replicate ((119 - b.length % 64) % 64) 0 := ⟨_, rfl⟩
    rw [← hQ]
    have hP : padB b = Q ++ nB (8 * (b.length : Int)) 8 := by rw [hQ, padB]; simp
    have hl := padB_len b
    have hQl : Q.length + 8 = 64 * padN b.length := by rw [← hl, hP]; simp [nB_len]
    refine hW.cutS [_, _] _ _ [.sl 4 .dp (.list (.int .u8)), .sl 5 .dp (.int .i64)] (fun ys => ys = [.list (bytesPV (padB b)), .int .i64 (-1)]) ?_ ?_
    · refine hW.loopS _ _ _ [.sl 4 .dp (.list (.int .u8)), .sl 5 .dp (.int .i64)] (fun ys => ∃ j : Nat, ys = [.list (bytesPV (Q ++ (nB (8 * (b.length : Int)) 8).take (8 - j))), .int .i64 (j - 1)] ∧ j ≤ 8) (fun ys => ((nth ys 1).I + 1).toNat) ?_ ?_
      · simp [-List.getD_eq_getElem?_getD, c_l01Hash, c_l01Consts, c_l01Block]
        exact ⟨8, ⟨by simp, by omega⟩, by omega⟩
      · rintro ys ⟨j, rfl, h1⟩
        refine hW.vc [(18, [25], .take 0 <| .take 1 <| .take 2 <| .take 3 <| .take 4 <| .take 5 <| .take 6 <| .take 7 <| .take 8 <| .take 9 <| .take 10 <| .take 11 <| .take 12 <| .take 13 <| .take 14 <| .take 15 <| .take 16 <| .take 17 <| .take 18 <| .take 19 <| .take 20 <| .take 21 <| .take 22 <| .take 23 <| .alt 24 (.alt 25 (.alt 26 (.done) .stop) .stop) .stop)] _ _ ?_
        simp [-List.getD_eq_getElem?_getD, c_l01Hash, c_l01Consts, c_l01Block]
        refine ⟨fun h2 _ => ?_, fun h2 => ?_⟩
        · have e0 : (8 * ((j : Int) - 1)) = ((8 * (j - 1) : Nat) : Int) := by omega
          have e1 : IntKind.u64.wrap (IntKind.i64.wrap (8 * ((j : Int) - 1))) = ((8 * (j - 1) : Nat) : Int) := by
            rw [wrap64 (by omega), e0]
            simp [IntKind.wrap, IntKind.signed, IntKind.bits]; omega
          rw [e1, bytesPV_len b, wrap64 (n := 8 * (b.length : Int)) (by omega), shr8 (by omega) (by omega), wrap8_byte, wrap64 (n := (j : Int) - 1 - 1) (by omega), bytesPV_len, List.length_append, List.length_take, nB_len]
          have hpn : 64 * padN b.length ≤ 1000000072 := by rw [padN]; omega
          refine ⟨by omega, by omega, fun _ => ⟨⟨j - 1, ⟨?_, by omega⟩, by omega⟩, by omega⟩⟩
          have h4 := nB_take (n := 8 * (b.length : Int)) (show 8 - j < 8 by omega)
          have e2 : 8 - 1 - (8 - j) = j - 1 := by omega
          have e3 : 8 - j + 1 = 8 - (j - 1) := by omega
          rw [e2, e3] at h4
          rw [h4, ← List.append_assoc, bytesPV_app (_ ++ _), bytesPV_one]
        · have : j = 0 := by omega
          subst this
          exact ⟨by rw [hP, List.take_of_length_le (by rw [nB_len]; omega)], by omega⟩
    · rintro ys rfl
      refine hW.vc [(18, [25], .take 0 <| .take 1 <| .take 2 <| .take 3 <| .take 4 <| .take 5 <| .take 6 <| .take 7 <| .take 8 <| .take 9 <| .take 10 <| .take 11 <| .take 12 <| .take 13 <| .take 14 <| .take 15 <| .take 16 <| .take 17 <| .take 18 <| .take 19 <| .take 20 <| .take 21 <| .take 22 <| .take 23 <| .alt 24 (.alt 25 (.alt 26 (.done) .stop) .stop) .stop)] _ _ ?_
      simp [-List.getD_eq_getElem?_getD, c_l01Hash, c_l01Consts, c_l01Block]
      obtain ⟨P, hPP⟩ : ∃ P, P = padB b := ⟨_, rfl⟩
      rw [← hPP] at hl
      obtain ⟨m, hm⟩ : ∃ m, m = padN b.length := ⟨_, rfl⟩
      rw [← hm] at hl
      rw [← hPP]
      refine hW.cutS [_, _] _ _ [.ar 3 (.int .u32), .sl 7 .dp (.int .i64)] (fun ys => ys = [.list (shaI P m), .int .i64 (64 * m)]) ?_ ?_
      · refine hW.loopS _ _ _ [.ar 3 (.int .u32), .sl 7 .dp (.int .i64)] (fun ys => ∃ i : Nat, ys = [.list (shaI P i), .int .i64 (64 * i)] ∧ i ≤ m) (fun ys => (64 * m - (nth ys 1).I.toNat)) ?_ ?_
        · simp [-List.getD_eq_getElem?_getD, c_l01Hash, c_l01Consts, c_l01Block]
          exact ⟨0, ⟨rfl, rfl⟩, by omega⟩
        · rintro ys ⟨i, rfl, h1⟩
          refine hW.vc [(18, [25], .take 0 <| .take 1 <| .take 2 <| .take 3 <| .take 4 <| .take 5 <| .take 6 <| .take 7 <| .take 8 <| .take 9 <| .take 10 <| .take 11 <| .take 12 <| .take 13 <| .take 14 <| .take 15 <| .take 16 <| .take 17 <| .take 18 <| .take 19 <| .take 20 <| .take 21 <| .take 22 <| .take 23 <| .alt 24 (.alt 25 (.alt 26 (.done) .stop) .stop) .stop)] _ _ ?_
          simp [-List.getD_eq_getElem?_getD, c_l01Hash, c_l01Consts, c_l01Block]
          have hmb : 64 * m ≤ 1000000072 := by rw [hm, padN]; omega
          have h2 := shaI_len P i
          rw [bytesPV_len, wrap64 (n := 64 * (i : Int) + 64) (by omega)]
          refine fun _ => ⟨fun h3 => ⟨⟨by omega, by omega, by omega⟩, fun _ => ⟨⟨h2, by omega⟩, ⟨i + 1, ⟨?_, by omega⟩, by omega⟩, by omega⟩⟩, fun h3 => ?_⟩
          · have a1 : (64 * (i : Int) + 64).toNat - (64 * (i : Int)).toNat = 64 := by omega
            have a2 : (64 * (i : Int)).toNat = 64 * i := by omega
            have a3 : List.take 64 (List.drop (64 * i) (bytesPV P)) = bytesPV (blkB P i) := by simp [bytesPV, blkB, List.map_take, List.map_drop]
            rw [a1, a2, a3, byteP_bytes]
            rfl
          · have : i = m := by omega
            subst this
            exact ⟨rfl, rfl⟩
      · rintro ys rfl
        refine hW.vc [(18, [25], .take 0 <| .take 1 <| .take 2 <| .take 3 <| .take 4 <| .take 5 <| .take 6 <| .take 7 <| .take 8 <| .take 9 <| .take 10 <| .take 11 <| .take 12 <| .take 13 <| .take 14 <| .take 15 <| .take 16 <| .take 17 <| .take 18 <| .take 19 <| .take 20 <| .take 21 <| .take 22 <| .take 23 <| .alt 24 (.alt 25 (.alt 26 (.done) .stop) .stop) .stop)] _ _ ?_
        simp [-List.getD_eq_getElem?_getD, c_l01Hash, c_l01Consts, c_l01Block]
        refine hW.loopS _ _ _ [.sl 8 .dp (.list (.int .u8)), .sl 9 .dp (.int .i64)] (fun ys => ∃ i : Nat, ys = [.list (bytesPV (outB ((shaI P m).take i))), .int .i64 i] ∧ i ≤ 8) (fun ys => 8 - (nth ys 1).I.toNat) ?_ ?_
        · simp [-List.getD_eq_getElem?_getD, c_l01Hash, c_l01Consts, c_l01Block]
          exact ⟨0, ⟨rfl, rfl⟩, by omega⟩
        · rintro ys ⟨i, rfl, h1⟩
          refine hW.vc [(18, [25], .take 0 <| .take 1 <| .take 2 <| .take 3 <| .take 4 <| .take 5 <| .take 6 <| .take 7 <| .take 8 <| .take 9 <| .take 10 <| .take 11 <| .take 12 <| .take 13 <| .take 14 <| .take 15 <| .take 16 <| .take 17 <| .take 18 <| .take 19 <| .take 20 <| .take 21 <| .take 22 <| .take 23 <| .alt 24 (.alt 25 (.alt 26 (.done) .stop) .stop) .stop)] _ _ ?_
          simp [-List.getD_eq_getElem?_getD, c_l01Hash, c_l01Consts, c_l01Block]
          have h2 := shaI_len P m
          refine ⟨fun h => ?_, fun h => ?_⟩
          · have h4 := shaI_at (P := P) (i := m) (j := i) (by omega)
            rw [wrap64 (n := (i : Int) + 1) (by omega), bytesPV_len, outB_len, List.length_take, (shrs h4.1).1, (shrs h4.1).2.1, (shrs h4.1).2.2, wrap8_byte, wrap8_byte, wrap8_byte, wrap8_byte]
            exact ⟨by decide +kernel, by omega, fun _ => ⟨by omega, fun _ => ⟨by omega, fun _ => ⟨by omega, fun _ => ⟨by decide, by omega, fun _ => ⟨⟨i + 1, ⟨by rw [outB_take (by omega), bytesPV_app, nB4]; rfl, by omega⟩, by omega⟩, by omega⟩⟩⟩⟩⟩⟩
          · rw [List.take_of_length_le (by omega), pvBytes_bytes, pvBytes_bytes, shaL, ← hPP, ← hm]

end Go.Proofs.YtolgjekokdimoaaGreatDoor
end

section
namespace Go.Proofs.YtolgjekokdimoaaGreatDoor
variable [LaidG]
variable [LaidN 0] [LaidN 1]
variable [LaidN 5]
set_option maxRecDepth 100000
set_option linter.unusedSimpArgs false

def keyB (k : List UInt8) : List UInt8 := if 64 < k.length then shaL k else k
/-- A key's first bytes, masked. -/
def mskP (k : List UInt8) (m : Int) : Nat → List PV
  | 0 => []
  | i + 1 => mskP k m i ++ [.int .u8 (xorI .u8 (byteF k i) m)]
theorem mskP_len (k : List UInt8) (m : Int) : ∀ i, (mskP k m i).length = i
  | 0 => rfl
  | i + 1 => by rw [mskP, List.length_append, mskP_len k m i]; rfl
def hmacL (key msg : List UInt8) : List UInt8 := shaL (pvBytes (mskP (keyB key) 92 64) ++ shaL (pvBytes (mskP (keyB key) 54 64) ++ msg))
theorem hmacL_len (key msg : List UInt8) : (hmacL key msg).length = 32 := shaL_len _
theorem pvBytes_app (l m : List PV) : pvBytes (l ++ m) = pvBytes l ++ pvBytes m := by simp [pvBytes]
theorem pvBytes_len (l : List PV) : (pvBytes l).length = l.length := by simp [pvBytes]
theorem byteF_in {k : List UInt8} {i : Nat} (h : ¬ i < k.length) : byteF k i = 0 := by
  simp [byteF, List.getD_eq_getElem?_getD, List.getElem?_eq_none (by omega : k.length ≤ i)]

theorem msk_step {k : List UInt8} {m x : Int} {i : Nat} (h : i < 64) (hx : x = byteF k i) : (mskP k m i ++ List.replicate (64 - i) (PV.int IntKind.u8 0)).set i (PV.int .u8 (xorI .u8 x m)) = mskP k m (i + 1) ++ List.replicate (64 - (i + 1)) (PV.int IntKind.u8 0) := by
  subst hx
  rw [set_at (mskP_len k m i) h]; rfl

def c_hmac : FSpec := ⟨[(.rd, .str), (.rd, .str)], [.str], true, fun ps => (nth ps 0).S.length ≤ 1000000 ∧ (nth ps 1).S.length ≤ 1000000, fun ps => [.str (hmacL (nth ps 0).S (nth ps 1).S)], fun _ => []⟩
theorem k_hmac : FnOk Tryz.prog 105 c_hmac := by
  refine fn_mk [0, 1, 4, 5, 6, 7, 8, 16] [.tmp 4] (env_cons (cs := []) k_hash (env_nil (tyTab_ok []))) mixed Tryz.func105 rfl (by decide) rfl (by decide) rfl ?_
  intro ps hT hpre W hW
  simp only [c_hmac, TyA, Ty, Tys] at hT hpre
  obtain ⟨_, _, rfl, ⟨key, rfl, hkey⟩, _, _, rfl, ⟨msg, rfl, hmsg⟩, rfl⟩ := hT
  simp only [nth_zero, nth_succ, pv_S] at hpre
  obtain ⟨p1, p2⟩ := hpre
  refine hW.vc [(3, [], .alt 0 (.alt 1 (.alt 2 (.alt 3 (.done) .stop) .stop) (.alt 2 (.alt 1 (.alt 3 (.done) .stop) .stop) .stop)) (.alt 1 (.alt 0 (.alt 2 (.alt 3 (.done) .stop) .stop) .stop) .stop)), (12, [], .take 0 <| .take 1 <| .take 2 <| .take 3 <| .take 4 <| .take 5 <| .alt 6 (.take 7 <| .alt 8 (.alt 9 (.done) .stop) .stop) .stop)] _ _ ?_
  simp [-List.reduceReplicate, -List.getD_eq_getElem?_getD, c_hmac, c_hash]
  obtain ⟨k, hk0⟩ : ∃ k, k = keyB key := ⟨_, rfl⟩
  refine fun _ => ⟨fun hk => ⟨by omega, by decide +kernel, ?_⟩, fun hk => ⟨by decide +kernel, ?_⟩⟩
  · rw [show shaL key = k by rw [hk0, keyB, if_pos (by omega)]]
    refine ⟨?_, ?_⟩
    all_goals
      refine hW.loopS _ _ _ [.ar 5 (.int .u8), .ar 6 (.int .u8), .sl 16 .dp (.int .i64)] (fun ys => ∃ i : Nat, ys = [.list (mskP k 54 i ++ List.replicate (64 - i) (.int .u8 0)), .list (mskP k 92 i ++ List.replicate (64 - i) (.int .u8 0)), .int .i64 i] ∧ i ≤ 64) (fun ys => 64 - (nth ys 2).I.toNat) ?_ ?_
      · simp [-List.reduceReplicate, -List.getD_eq_getElem?_getD, c_hmac, c_hash]
        exact ⟨0, ⟨rfl, rfl, rfl⟩, by omega⟩
      · rintro ys ⟨i, rfl, h1⟩
        refine hW.vc [(3, [], .alt 0 (.alt 1 (.alt 2 (.alt 3 (.done) .stop) .stop) (.alt 2 (.alt 1 (.alt 3 (.done) .stop) .stop) .stop)) (.alt 1 (.alt 0 (.alt 2 (.alt 3 (.done) .stop) .stop) .stop) .stop)), (12, [], .take 0 <| .take 1 <| .take 2 <| .take 3 <| .take 4 <| .take 5 <| .alt 6 (.take 7 <| .alt 8 (.alt 9 (.done) .stop) .stop) .stop)] _ _ ?_
        simp [-List.reduceReplicate, -List.getD_eq_getElem?_getD, c_hmac, c_hash]
        have hk1 := mskP_len k 54 i
        have hk2 := mskP_len k 92 i
        have l1 : (pvBytes (mskP k 54 64)).length = 64 := by rw [pvBytes_len, mskP_len]
        have l2 : (pvBytes (mskP k 92 64)).length = 64 := by rw [pvBytes_len, mskP_len]
        rw [wrap64 (n := (i : Int) + 1) (by omega), hk1, hk2]
        refine ⟨fun h2 _ => ⟨fun h3 => ⟨h3, by omega, by omega, by omega, by omega, ⟨i + 1, ⟨msk_step (by omega) rfl, msk_step (by omega) rfl, by omega⟩, by omega⟩, by omega⟩, fun h3 => ⟨by omega, by omega, by omega, by omega, ⟨i + 1, ⟨msk_step (by omega) (byteF_in (by omega)).symm, msk_step (by omega) (byteF_in (by omega)).symm, by omega⟩, by omega⟩, by omega⟩⟩, fun h2 => ?_⟩
        have : i = 64 := by omega
        subst this
        rw [Nat.sub_self, List.replicate_zero, List.append_nil, List.append_nil]
        refine ⟨by decide +kernel, by omega, by omega, by rw [shaL_len]; omega, by rw [shaL_len]; omega, ?_⟩
        rw [hmacL, ← hk0]
  · rw [show key = k by rw [hk0, keyB, if_neg (by omega)]]
    refine ⟨?_, ?_⟩
    all_goals
      refine hW.loopS _ _ _ [.ar 5 (.int .u8), .ar 6 (.int .u8), .sl 16 .dp (.int .i64)] (fun ys => ∃ i : Nat, ys = [.list (mskP k 54 i ++ List.replicate (64 - i) (.int .u8 0)), .list (mskP k 92 i ++ List.replicate (64 - i) (.int .u8 0)), .int .i64 i] ∧ i ≤ 64) (fun ys => 64 - (nth ys 2).I.toNat) ?_ ?_
      · simp [-List.reduceReplicate, -List.getD_eq_getElem?_getD, c_hmac, c_hash]
        exact ⟨0, ⟨rfl, rfl, rfl⟩, by omega⟩
      · rintro ys ⟨i, rfl, h1⟩
        refine hW.vc [(3, [], .alt 0 (.alt 1 (.alt 2 (.alt 3 (.done) .stop) .stop) (.alt 2 (.alt 1 (.alt 3 (.done) .stop) .stop) .stop)) (.alt 1 (.alt 0 (.alt 2 (.alt 3 (.done) .stop) .stop) .stop) .stop)), (12, [], .take 0 <| .take 1 <| .take 2 <| .take 3 <| .take 4 <| .take 5 <| .alt 6 (.take 7 <| .alt 8 (.alt 9 (.done) .stop) .stop) .stop)] _ _ ?_
        simp [-List.reduceReplicate, -List.getD_eq_getElem?_getD, c_hmac, c_hash]
        have hk1 := mskP_len k 54 i
        have hk2 := mskP_len k 92 i
        have l1 : (pvBytes (mskP k 54 64)).length = 64 := by rw [pvBytes_len, mskP_len]
        have l2 : (pvBytes (mskP k 92 64)).length = 64 := by rw [pvBytes_len, mskP_len]
        rw [wrap64 (n := (i : Int) + 1) (by omega), hk1, hk2]
        refine ⟨fun h2 _ => ⟨fun h3 => ⟨h3, by omega, by omega, by omega, by omega, ⟨i + 1, ⟨msk_step (by omega) rfl, msk_step (by omega) rfl, by omega⟩, by omega⟩, by omega⟩, fun h3 => ⟨by omega, by omega, by omega, by omega, ⟨i + 1, ⟨msk_step (by omega) (byteF_in (by omega)).symm, msk_step (by omega) (byteF_in (by omega)).symm, by omega⟩, by omega⟩, by omega⟩⟩, fun h2 => ?_⟩
        have : i = 64 := by omega
        subst this
        rw [Nat.sub_self, List.replicate_zero, List.append_nil, List.append_nil]
        refine ⟨by decide +kernel, by omega, by omega, by rw [shaL_len]; omega, by rw [shaL_len]; omega, ?_⟩
        rw [hmacL, ← hk0]

def c_l02Hmac : FSpec := c_hmac
theorem k_l02Hmac : FnOk Tryz.prog 124 c_l02Hmac := by
  refine fn_mk [0, 1, 4, 5, 6, 7, 8] [.tmp 4] (env_cons (cs := []) k_l01Hash (env_nil (tyTab_ok []))) mixed Tryz.func124 rfl (by decide) rfl (by decide) rfl ?_
  intro ps hT hpre W hW
  simp only [c_l02Hmac, TyA, Ty, Tys] at hT hpre
  simp only [c_hmac, TyA, Ty, Tys] at hT hpre
  obtain ⟨_, _, rfl, ⟨key, rfl, hkey⟩, _, _, rfl, ⟨msg, rfl, hmsg⟩, rfl⟩ := hT
  simp only [nth_zero, nth_succ, pv_S] at hpre
  obtain ⟨p1, p2⟩ := hpre
  refine hW.vc [] _ _ ?_
  simp [-List.reduceReplicate, -List.getD_eq_getElem?_getD, c_l02Hmac, c_l01Hash, c_hmac]
  obtain ⟨k, hk0⟩ : ∃ k, k = keyB key := ⟨_, rfl⟩
  rw [bytesPV_len, pvBytes_bytes]
  refine fun _ => ⟨fun hk => ⟨by omega, ?_⟩, fun hk => ?_⟩
  · rw [show shaL key = k by rw [hk0, keyB, if_pos (by omega)]]
    · refine hW.loopS _ _ _ [.ar 5 (.int .u8), .ar 6 (.int .u8), .sl 7 .dp (.int .i64)] (fun ys => ∃ i : Nat, ys = [.list (mskP k 54 i ++ List.replicate (64 - i) (.int .u8 0)), .list (mskP k 92 i ++ List.replicate (64 - i) (.int .u8 0)), .int .i64 i] ∧ i ≤ 64) (fun ys => 64 - (nth ys 2).I.toNat) ?_ ?_
      · simp [-List.reduceReplicate, -List.getD_eq_getElem?_getD, c_l02Hmac, c_l01Hash, c_hmac]
        exact ⟨0, ⟨rfl, rfl, rfl⟩, by omega⟩
      · rintro ys ⟨i, rfl, h1⟩
        refine hW.vc [] _ _ ?_
        simp [-List.reduceReplicate, -List.getD_eq_getElem?_getD, c_l02Hmac, c_l01Hash, c_hmac]
        have hk1 := mskP_len k 54 i
        have hk2 := mskP_len k 92 i
        have l1 : (pvBytes (mskP k 54 64)).length = 64 := by rw [pvBytes_len, mskP_len]
        have l2 : (pvBytes (mskP k 92 64)).length = 64 := by rw [pvBytes_len, mskP_len]
        rw [wrap64 (n := (i : Int) + 1) (by omega), hk1, hk2]
        refine ⟨fun h2 _ => ⟨fun h3 => ⟨h3, by omega, by omega, by omega, by omega, ⟨i + 1, ⟨msk_step (by omega) rfl, msk_step (by omega) rfl, by omega⟩, by omega⟩, by omega⟩, fun h3 => ⟨by omega, by omega, by omega, by omega, ⟨i + 1, ⟨msk_step (by omega) (byteF_in (by omega)).symm, msk_step (by omega) (byteF_in (by omega)).symm, by omega⟩, by omega⟩, by omega⟩⟩, fun h2 => ?_⟩
        have : i = 64 := by omega
        subst this
        simp only [Nat.sub_self, List.replicate_zero, List.nil_append, Nat.add_zero, Nat.zero_add, pvBytes_app, pvBytes_bytes, bytesPV_len, shaL_len]
        refine ⟨by omega, fun _ => ⟨by omega, by omega, fun _ => ⟨by omega, ?_⟩⟩⟩
        rw [hmacL, ← hk0]
  · rw [show key = k by rw [hk0, keyB, if_neg (by omega)]]
    · refine hW.loopS _ _ _ [.ar 5 (.int .u8), .ar 6 (.int .u8), .sl 7 .dp (.int .i64)] (fun ys => ∃ i : Nat, ys = [.list (mskP k 54 i ++ List.replicate (64 - i) (.int .u8 0)), .list (mskP k 92 i ++ List.replicate (64 - i) (.int .u8 0)), .int .i64 i] ∧ i ≤ 64) (fun ys => 64 - (nth ys 2).I.toNat) ?_ ?_
      · simp [-List.reduceReplicate, -List.getD_eq_getElem?_getD, c_l02Hmac, c_l01Hash, c_hmac]
        exact ⟨0, ⟨rfl, rfl, rfl⟩, by omega⟩
      · rintro ys ⟨i, rfl, h1⟩
        refine hW.vc [] _ _ ?_
        simp [-List.reduceReplicate, -List.getD_eq_getElem?_getD, c_l02Hmac, c_l01Hash, c_hmac]
        have hk1 := mskP_len k 54 i
        have hk2 := mskP_len k 92 i
        have l1 : (pvBytes (mskP k 54 64)).length = 64 := by rw [pvBytes_len, mskP_len]
        have l2 : (pvBytes (mskP k 92 64)).length = 64 := by rw [pvBytes_len, mskP_len]
        rw [wrap64 (n := (i : Int) + 1) (by omega), hk1, hk2]
        refine ⟨fun h2 _ => ⟨fun h3 => ⟨h3, by omega, by omega, by omega, by omega, ⟨i + 1, ⟨msk_step (by omega) rfl, msk_step (by omega) rfl, by omega⟩, by omega⟩, by omega⟩, fun h3 => ⟨by omega, by omega, by omega, by omega, ⟨i + 1, ⟨msk_step (by omega) (byteF_in (by omega)).symm, msk_step (by omega) (byteF_in (by omega)).symm, by omega⟩, by omega⟩, by omega⟩⟩, fun h2 => ?_⟩
        have : i = 64 := by omega
        subst this
        simp only [Nat.sub_self, List.replicate_zero, List.nil_append, Nat.add_zero, Nat.zero_add, pvBytes_app, pvBytes_bytes, bytesPV_len, shaL_len]
        refine ⟨by omega, fun _ => ⟨by omega, by omega, fun _ => ⟨by omega, ?_⟩⟩⟩
        rw [hmacL, ← hk0]

end Go.Proofs.YtolgjekokdimoaaGreatDoor
end

section
namespace Go.Proofs.YtolgjekokdimoaaGreatDoor
variable [LaidG]
set_option maxRecDepth 100000
set_option linter.unusedSimpArgs false

def letC (c : Int) : Bool := inB c 97 122 || inB c 65 90 || c == 95
def digC (c : Int) : Bool := inB c 48 57
def namI : Bool → List UInt8 → Bool
  | _, [] => true
  | f, c :: l => (letC c.toNat || (!f && digC c.toNat)) && namI false l
def nameB (t : List UInt8) : Bool := namI true t && inB t.length 1 40

def c_isName : FSpec := ⟨[(.rd, .str)], [.bool], true, fun _ => True, fun ps => [.bool (nameB (nth ps 0).S)], fun _ => []⟩
theorem k_isName : FnOk Tryz.prog 129 c_isName := by
  refine fn_mk [0, 2, 3, 4, 5, 7, 8] [.tmp 2] (env_cons (cs := []) k_within (env_nil (tyTab_ok []))) mixed Tryz.func129 rfl (by decide) rfl (by decide) rfl ?_
  intro ps hT hpre W hW
  simp only [c_isName, TyA, Ty, Tys] at hT hpre
  obtain ⟨_, _, rfl, ⟨t, rfl, ht⟩, rfl⟩ := hT
  refine hW.vc [] _ _ ?_
  simp [-List.getD_eq_getElem?_getD, c_isName, c_within]
  refine fun _ => hW.loopS _ _ _ [.sl 8 .dp (.int .i64)] (fun ys => ∃ i : Nat, ys = [.int .i64 i] ∧ i ≤ t.length ∧ namI true t = namI (i == 0) (t.drop i)) (fun ys => t.length - (nth ys 0).I.toNat) ?_ ?_
  · simp [-List.getD_eq_getElem?_getD, c_isName, c_within]
    exact ⟨0, rfl, by omega, rfl⟩
  · rintro ys ⟨i, rfl, h1, h2⟩
    refine hW.vc [] _ _ ?_
    simp [-List.getD_eq_getElem?_getD, c_isName, c_within]
    refine ⟨fun h3 => ?_, fun h3 _ => ?_⟩
    · have hd : t.drop i = t.getD i 0 :: t.drop (i + 1) := by
        rw [List.drop_eq_getElem_cons h3]; simp [h3]
      rw [hd, namI] at h2
      rw [wrap64 (n := (i : Int) + 1) (by omega)]
      generalize ((t.getD i 0).toNat : Int) = c at *
      refine ⟨h3, by omega, by omega, by omega, fun g1 g2 g3 g4 => ?_, fun g => ⟨⟨i + 1, by omega, by omega, ?_⟩, by omega⟩⟩
      · have hf : (letC c || (!(i == 0) && digC c)) = false := by
          cases hq : (letC c || (!(i == 0) && digC c)) with
          | false => rfl
          | true => simp [letC, digC, inB] at hq; omega
        rw [nameB, h2, hf]; rfl
      · have hf : (letC c || (!(i == 0) && digC c)) = true := by
          cases hq : (letC c || (!(i == 0) && digC c)) with
          | true => rfl
          | false => simp [letC, digC, inB] at hq; omega
        rw [h2, hf]; rfl
    · rw [nameB, h2, List.drop_eq_nil_of_le h3, namI, Bool.true_and]

theorem nameB_a {t : List UInt8} (h : ((t.length : Int) < 1 ∨ 40 < (t.length : Int)) ∨ letC (t.getD 0 0).toNat = false) : nameB t = false := by
  rcases h with h | h
  · have : inB t.length 1 40 = false := by
      cases hq : inB (t.length : Int) 1 40 with
      | false => rfl
      | true => simp [inB] at hq; omega
    rw [nameB, this, Bool.and_false]
  · cases t with
    | nil => simp [nameB, inB]
    | cons c l => simp only [List.getD_cons_zero] at h; simp [nameB, namI, h]
theorem nameB_b {t : List UInt8} (h : 0 < t.length) (h2 : letC (t.getD 0 0).toNat = true) : namI true t = namI false (t.drop 1) := by
  cases t with
  | nil => simp at h
  | cons c l => simp only [List.getD_cons_zero] at h2; simp [namI, h2]

def c_l00Letter : FSpec := ⟨[(.rd, .int .u8)], [.bool], true, fun _ => True, fun ps => [.bool (letC (nth ps 0).I)], fun _ => []⟩
theorem k_l00Letter : FnOk Tryz.prog 155 c_l00Letter := by
  refine fn_mk [0, 2] [.tmp 2] (env_nil (tyTab_ok [])) mixed Tryz.func155 rfl (by decide) rfl (by decide) rfl ?_
  intro ps hT hpre W hW
  simp only [c_l00Letter, TyA, Ty, Tys] at hT hpre
  obtain ⟨_, _, rfl, ⟨c, rfl, hc⟩, rfl⟩ := hT
  refine hW.vc [] _ _ ?_
  simp [-List.getD_eq_getElem?_getD, c_l00Letter]
  exact ⟨by omega, rfl⟩
def c_l00Digit : FSpec := ⟨[(.rd, .int .u8)], [.bool], true, fun _ => True, fun ps => [.bool (digC (nth ps 0).I)], fun _ => []⟩
theorem k_l00Digit : FnOk Tryz.prog 156 c_l00Digit := by
  refine fn_mk [0, 2] [.tmp 2] (env_nil (tyTab_ok [])) mixed Tryz.func156 rfl (by decide) rfl (by decide) rfl ?_
  intro ps hT hpre W hW
  simp only [c_l00Digit, TyA, Ty, Tys] at hT hpre
  obtain ⟨_, _, rfl, ⟨c, rfl, hc⟩, rfl⟩ := hT
  refine hW.vc [] _ _ ?_
  simp [-List.getD_eq_getElem?_getD, c_l00Digit]
  rfl
def c_l00Word : FSpec := c_isName
theorem k_l00Word : FnOk Tryz.prog 130 c_l00Word := by
  refine fn_mk [0, 2, 3] [.tmp 2] (env_cons (cs := []) k_l00Digit (env_cons (cs := []) k_l00Letter (env_nil (tyTab_ok [])))) mixed Tryz.func130 rfl (by decide) rfl (by decide) rfl ?_
  intro ps hT hpre W hW
  simp only [c_l00Word, TyA, Ty, Tys] at hT hpre
  simp only [c_isName, TyA, Ty, Tys] at hT
  obtain ⟨_, _, rfl, ⟨t, rfl, ht⟩, rfl⟩ := hT
  refine hW.vc [] _ _ ?_
  simp [-List.getD_eq_getElem?_getD, c_l00Word, c_l00Letter, c_l00Digit, c_isName]
  refine fun _ _ => ⟨fun _ _ => by omega, fun h => nameB_a h, fun g1 g2 g3 => ?_⟩
  refine hW.loopS _ _ _ [.sl 3 .dp (.int .i64)] (fun ys => ∃ i : Nat, ys = [.int .i64 i] ∧ i ≤ t.length ∧ namI true t = namI false (t.drop i)) (fun ys => t.length - (nth ys 0).I.toNat) ?_ ?_
  · simp [-List.getD_eq_getElem?_getD, c_l00Word, c_l00Letter, c_l00Digit, c_isName]
    exact ⟨1, rfl, by omega, nameB_b (by omega) g3⟩
  · rintro ys ⟨i, rfl, h1, h2⟩
    refine hW.vc [] _ _ ?_
    simp [-List.getD_eq_getElem?_getD, c_l00Word, c_l00Letter, c_l00Digit, c_isName]
    refine fun _ => ⟨fun h3 => ?_, fun h3 => ?_⟩
    · have hd : t.drop i = t.getD i 0 :: t.drop (i + 1) := by
        rw [List.drop_eq_getElem_cons h3]; simp [h3]
      rw [hd, namI] at h2
      rw [wrap64 (n := (i : Int) + 1) (by omega)]
      refine ⟨h3, fun h => ⟨h, h3⟩, fun k1 k2 => ?_, fun k => ⟨⟨i + 1, by omega, by omega, ?_⟩, by omega⟩⟩
      · rw [nameB, h2, k1, k2]; rfl
      · have hf : (letC (t.getD i 0).toNat || (!false && digC (t.getD i 0).toNat)) = true := by
          cases hq : letC (t.getD i 0).toNat with
          | true => rfl
          | false => rw [k hq]; rfl
        rw [h2, hf]; rfl
    · rw [nameB, h2, List.drop_eq_nil_of_le h3, namI, Bool.true_and]
      simp [inB]; omega

def c_sNameOK : FSpec := c_isName
theorem k_sNameOK : FnOk Tryz.prog 102 c_sNameOK := by
  refine fn_mk [0, 2] [.tmp 2] (env_cons (cs := []) k_l00Word (env_nil (tyTab_ok []))) mixed Tryz.func102 rfl (by decide) rfl (by decide) rfl ?_
  intro ps hT hpre W hW
  simp only [c_sNameOK, TyA, Ty, Tys] at hT hpre
  simp only [c_isName, TyA, Ty, Tys] at hT
  obtain ⟨_, _, rfl, ⟨t, rfl, ht⟩, rfl⟩ := hT
  refine hW.vc [] _ _ ?_
  simp [-List.getD_eq_getElem?_getD, c_sNameOK, c_l00Word, c_isName, c_isName]
def wordB (t : List UInt8) : Bool := nameB t && decide ((t.length : Int) ≤ 12)
def c_isWindowName : FSpec := ⟨[(.rd, .str)], [.bool], true, fun _ => True, fun ps => [.bool (wordB (nth ps 0).S)], fun _ => []⟩
theorem k_isWindowName : FnOk Tryz.prog 101 c_isWindowName := by
  refine fn_mk [0, 2] [.tmp 2] (env_cons (cs := []) k_isName (env_nil (tyTab_ok []))) mixed Tryz.func101 rfl (by decide) rfl (by decide) rfl ?_
  intro ps hT hpre W hW
  simp only [c_isWindowName, TyA, Ty, Tys] at hT hpre
  obtain ⟨_, _, rfl, ⟨t, rfl, ht⟩, rfl⟩ := hT
  refine hW.vc [] _ _ ?_
  simp [-List.getD_eq_getElem?_getD, c_isWindowName, c_isName]
  exact fun _ => rfl
def c_isClientId : FSpec := ⟨[(.rd, .int .i64)], [.bool], true, fun _ => True, fun ps => [.bool (inB (nth ps 0).I 0 200)], fun _ => []⟩
theorem k_isClientId : FnOk Tryz.prog 100 c_isClientId := by
  refine fn_mk [0, 2] [.tmp 2] (env_cons (cs := []) k_within (env_nil (tyTab_ok []))) mixed Tryz.func100 rfl (by decide) rfl (by decide) rfl ?_
  intro ps hT hpre W hW
  simp only [c_isClientId, TyA, Ty, Tys] at hT hpre
  obtain ⟨_, _, rfl, ⟨n, rfl, hn⟩, rfl⟩ := hT
  refine hW.vc [] _ _ ?_
  simp [-List.getD_eq_getElem?_getD, c_isClientId, c_within]
def toldB (c : Int) (t : List UInt8) (n : Int) : Bool := inB c 0 200 && wordB t && inB n (-1) 60
def c_isTold : FSpec := ⟨[(.rd, .int .i64), (.rd, .str), (.rd, .int .i64)], [.bool], true, fun _ => True, fun ps => [.bool (toldB (nth ps 0).I (nth ps 1).S (nth ps 2).I)], fun _ => []⟩
theorem k_isTold : FnOk Tryz.prog 57 c_isTold := by
  refine fn_mk [0, 1, 2, 6] [.tmp 6] (env_cons (cs := []) k_within (env_cons (cs := []) k_isWindowName (env_cons (cs := []) k_isClientId (env_nil (tyTab_ok []))))) mixed Tryz.func57 rfl (by decide) rfl (by decide) rfl ?_
  intro ps hT hpre W hW
  simp only [c_isTold, TyA, Ty, Tys] at hT hpre
  obtain ⟨_, _, rfl, ⟨c, rfl, hc⟩, _, _, rfl, ⟨t, rfl, ht⟩, _, _, rfl, ⟨n, rfl, hn⟩, rfl⟩ := hT
  refine hW.vc [] _ _ ?_
  simp [-List.getD_eq_getElem?_getD, c_isTold, c_isClientId, c_isWindowName, c_within]
  rfl
def c_l12Ask : FSpec := c_isTold
theorem k_l12Ask : FnOk Tryz.prog 59 c_l12Ask := by
  refine fn_mk [0, 1, 2, 6] [.tmp 6] (env_cons (cs := []) k_sNameOK (env_cons (cs := []) k_l01In (env_nil (tyTab_ok [])))) mixed Tryz.func59 rfl (by decide) rfl (by decide) rfl ?_
  intro ps hT hpre W hW
  simp only [c_l12Ask, TyA, Ty, Tys] at hT hpre
  simp only [c_isTold, TyA, Ty, Tys] at hT
  obtain ⟨_, _, rfl, ⟨c, rfl, hc⟩, _, _, rfl, ⟨t, rfl, ht⟩, _, _, rfl, ⟨n, rfl, hn⟩, rfl⟩ := hT
  refine hW.vc [] _ _ ?_
  simp [-List.getD_eq_getElem?_getD, c_l12Ask, c_l01In, c_sNameOK, c_isTold, c_within, c_isName, c_within, c_isName]
  intro _
  simp only [toldB, wordB]
  cases inB c 0 200 <;> cases nameB t <;> cases decide ((t.length : Int) ≤ 12) <;> cases inB n (-1) 60 <;> rfl
end Go.Proofs.YtolgjekokdimoaaGreatDoor
end

section
namespace Go.Proofs.YtolgjekokdimoaaGreatDoor
variable [LaidG]
set_option maxRecDepth 100000
set_option linter.unusedSimpArgs false

def longN (n : Int) : Bool := decide (n > 65536)
def c_isLong1 : FSpec := ⟨[(.rd, .int .i64)], [.bool], true, fun _ => True, fun ps => [.bool (longN (nth ps 0).I)], fun _ => []⟩
theorem k_isLong1 : FnOk Tryz.prog 86 c_isLong1 := by
  refine fn_mk [0, 2] [.tmp 2] (env_nil (tyTab_ok [])) mixed Tryz.func86 rfl (by decide) rfl (by decide) rfl ?_
  intro ps hT hpre W hW
  simp only [c_isLong1, TyA, Ty, Tys] at hT hpre
  obtain ⟨_, _, rfl, ⟨n, rfl, hn⟩, rfl⟩ := hT
  refine hW.vc [] _ _ ?_
  simp [-List.getD_eq_getElem?_getD, c_isLong1]
  rfl

def c_IndexFunc_isLong1 : FSpec := ⟨[(.rd, .list (.int .i64)), (.rd, .fn 86 [])], [.int .i64], true, fun ps => True, fun ps => [.int .i64 (idxGo (fun e => longN e.I) 0 (nth ps 0).L)], fun _ => []⟩
theorem k_IndexFunc_isLong1 : FnOk Tryz.prog 121 c_IndexFunc_isLong1 := by
  refine fn_mk [0, 1, 4, 5, 7, 8] [.tmp 4] (env_cons (cs := []) k_isLong1 (env_nil (tyTab_ok []))) mixed Tryz.func121 rfl (by decide) rfl (by decide) rfl ?_
  intro ps hT hpre W hW
  simp only [c_IndexFunc_isLong1, TyA, Ty, Tys] at hT hpre
  obtain ⟨_, _, rfl, ⟨es, rfl, he, hes⟩, _, _, rfl, ⟨_, rfl, rfl⟩, rfl⟩ := hT
  refine hW.vc [] _ _ ?_
  simp [-List.getD_eq_getElem?_getD, c_IndexFunc_isLong1, c_isLong1]
  intro h1
  refine hW.loopS _ _ _ [.sl 8 .dp (.int .i64)] (fun ys => ∃ i : Nat, ys = [.int .i64 i] ∧ i ≤ es.length ∧ idxGo (fun e => longN e.I) 0 es = idxGo (fun e => longN e.I) i (es.drop i)) (fun ys => es.length - (nth ys 0).I.toNat) ?_ ?_
  · simp [-List.getD_eq_getElem?_getD, c_IndexFunc_isLong1, c_isLong1]
    exact ⟨0, rfl, by simp, by simp⟩
  · rintro ys ⟨i, rfl, h2, h3⟩
    refine hW.vc [] _ _ ?_
    simp [-List.getD_eq_getElem?_getD, c_IndexFunc_isLong1, c_isLong1]
    refine ⟨fun h4 => ⟨h4, fun _ => ⟨fun h5 => ?_, fun h5 => ?_⟩⟩, fun h4 => ?_⟩
    · rw [h3, drop_nth h4]; simp [idxGo, h5]
    · rw [wrap64 (by omega)]
      refine ⟨⟨i + 1, by omega, by omega, ?_⟩, by omega⟩
      rw [h3, drop_nth h4]; simp [idxGo, h5]
    · rw [h3, List.drop_eq_nil_of_le h4]; rfl

def c_ContainsFunc_isLong1 : FSpec := ⟨[(.rd, .list (.int .i64)), (.rd, .fn 86 [])], [.bool], true, fun ps => True, fun ps => [.bool ((nth ps 0).L.any (fun e => longN e.I))], fun _ => []⟩
theorem k_ContainsFunc_isLong1 : FnOk Tryz.prog 85 c_ContainsFunc_isLong1 := by
  refine fn_mk [0, 1, 4] [.tmp 4] (env_cons (cs := [86]) k_IndexFunc_isLong1 (env_nil (tyTab_ok []))) mixed Tryz.func85 rfl (by decide) rfl (by decide) rfl ?_
  intro ps hT hpre W hW
  simp only [c_ContainsFunc_isLong1, TyA, Ty, Tys] at hT hpre
  obtain ⟨_, _, rfl, ⟨es, rfl, he, hes⟩, _, _, rfl, ⟨_, rfl, rfl⟩, rfl⟩ := hT
  refine hW.vc [] _ _ ?_
  simp [-List.getD_eq_getElem?_getD, c_ContainsFunc_isLong1, c_IndexFunc_isLong1]
  exact idxGo_any (fun e => longN e.I) es 0

def c_isLong : FSpec := ⟨[(.rd, .list (.int .i64))], [.bool], true, fun _ => True, fun ps => [.bool ((nth ps 0).L.any (fun e => longN e.I))], fun _ => []⟩
theorem k_isLong : FnOk Tryz.prog 44 c_isLong := by
  refine fn_mk [0, 2] [.tmp 2] (env_cons (cs := [86]) k_ContainsFunc_isLong1 (env_nil (tyTab_ok []))) mixed Tryz.func44 rfl (by decide) rfl (by decide) rfl ?_
  intro ps hT hpre W hW
  simp only [c_isLong, TyA, Ty, Tys] at hT hpre
  obtain ⟨_, _, rfl, ⟨es, rfl, hes, tes⟩, rfl⟩ := hT
  refine hW.vc [] _ _ ?_
  simp [-List.getD_eq_getElem?_getD, c_isLong, c_ContainsFunc_isLong1]

end Go.Proofs.YtolgjekokdimoaaGreatDoor
end

section
namespace Go.Proofs.YtolgjekokdimoaaGreatDoor
variable [LaidG]
variable [LaidN 0] [LaidN 1]
variable [LaidN 5]
set_option maxRecDepth 100000
set_option linter.unusedSimpArgs false

def hexC : List UInt8 := [48, 49, 50, 51, 52, 53, 54, 55, 56, 57, 97, 98, 99, 100, 101, 102]
def hexB (h : List UInt8) : List UInt8 := h.flatMap fun b => [hexC.getD (b.toNat / 16) 0, hexC.getD (b.toNat % 16) 0]
theorem hexB_len (h : List UInt8) : (hexB h).length = 2 * h.length := by
  induction h with
  | nil => rfl
  | cons e st ih => simp only [hexB, List.flatMap_cons, List.length_append, List.length_cons, List.length_nil] at ih ⊢; omega
theorem hexB_take {h : List UInt8} {i : Nat} (hi : i < h.length) : hexB (h.take (i + 1)) = hexB (h.take i) ++ [hexC.getD ((h.getD i 0).toNat / 16) 0, hexC.getD ((h.getD i 0).toNat % 16) 0] := by
  rw [List.take_succ_eq_append_getElem hi, hexB, List.flatMap_append]; simp [hi, hexB]

theorem hx1 (b : UInt8) : IntKind.u8.wrap ((b.toNat : Int) / 16) = ((b.toNat / 16 : Nat) : Int) ∧ True := by
  have hb := b.toNat_lt
  simp [IntKind.wrap, IntKind.signed, IntKind.bits]; omega
theorem hx2 (b : UInt8) : (b.toNat : Int).tmod 16 = ((b.toNat % 16 : Nat) : Int) := by
  rw [Int.tmod_eq_emod_of_nonneg (by omega)]; omega

theorem hx3 (b : UInt8) : shrI .u8 (b.toNat : Int) 4 = ((b.toNat / 16 : Nat) : Int) := by
  have h : ∀ n : Fin 256, shrI .u8 (n.val : Int) 4 = ((n.val / 16 : Nat) : Int) := by decide +kernel
  exact h ⟨b.toNat, b.toNat_lt⟩
theorem hx4 (b : UInt8) : andI .u8 (b.toNat : Int) 15 = ((b.toNat % 16 : Nat) : Int) := by
  have h : ∀ n : Fin 256, andI .u8 (n.val : Int) 15 = ((n.val % 16 : Nat) : Int) := by decide +kernel
  exact h ⟨b.toNat, b.toNat_lt⟩

def c_hashText : FSpec := ⟨[(.rd, .str)], [.str], true, fun ps => (nth ps 0).S.length ≤ 1000000, fun ps => [.str (hexB (nth ps 0).S)], fun _ => []⟩
theorem k_hashText : FnOk Tryz.prog 104 c_hashText := by
  refine fn_mk [0, 2, 3, 4, 10, 11] [.tmp 2] (env_nil (tyTab_ok [])) mixed Tryz.func104 rfl (by decide) rfl (by decide) rfl ?_
  intro ps hT hpre W hW
  simp only [c_hashText, TyA, Ty, Tys] at hT hpre
  obtain ⟨_, _, rfl, ⟨h, rfl, hh⟩, rfl⟩ := hT
  simp only [nth_zero, nth_succ, pv_S] at hpre
  refine hW.vc [(5, [12], .take 0 <| .take 1 <| .take 2 <| .take 3 <| .take 4 <| .take 5 <| .take 6 <| .take 7 <| .take 8 <| .take 9 <| .take 10 <| .alt 11 (.alt 12 (.alt 13 (.done) .stop) .stop) .stop)] _ _ ?_
  simp [-List.getD_eq_getElem?_getD, c_hashText]
  rw [wrap64 (n := 2 * (h.length : Int)) (by omega)]
  refine fun _ => ⟨⟨by omega, by omega⟩, fun _ => ?_⟩
  refine hW.loopS _ _ _ [.sl 3 .dp (.list (.int .u8)), .sl 11 .dp (.int .i64)] (fun ys => ∃ i : Nat, ys = [.list (bytesPV (hexB (h.take i))), .int .i64 i] ∧ i ≤ h.length) (fun ys => h.length - (nth ys 1).I.toNat) ?_ ?_
  · simp [-List.getD_eq_getElem?_getD, c_hashText]
    exact ⟨0, ⟨rfl, rfl⟩, by omega⟩
  · rintro ys ⟨i, rfl, h1⟩
    refine hW.vc [(5, [12], .take 0 <| .take 1 <| .take 2 <| .take 3 <| .take 4 <| .take 5 <| .take 6 <| .take 7 <| .take 8 <| .take 9 <| .take 10 <| .alt 11 (.alt 12 (.alt 13 (.done) .stop) .stop) .stop)] _ _ ?_
    simp [-List.getD_eq_getElem?_getD, c_hashText]
    have hl : (bytesPV (hexB (h.take i))).length = 2 * i := by rw [bytesPV_len, hexB_len, List.length_take]; omega
    rw [wrap64 (n := (i : Int) + 1) (by omega), hl, hx3, hx4]
    refine ⟨fun h2 => ?_, fun h2 => ?_⟩
    · have hb := (h.getD i 0).toNat_lt
      refine ⟨by decide +kernel, h2, ⟨by omega, by omega⟩, h2, ⟨by omega, by omega⟩, by decide, by omega, fun _ => ⟨⟨i + 1, ⟨?_, by omega⟩, by omega⟩, by omega⟩⟩
      rw [hexB_take h2, bytesPV_app]; rfl
    · rw [List.take_of_length_le h2, pvBytes_bytes]
def c_l01Hex : FSpec := c_hashText
theorem k_l01Hex : FnOk Tryz.prog 123 c_l01Hex := by
  refine fn_mk [0, 2, 3, 4] [.tmp 2] (env_nil (tyTab_ok [])) mixed Tryz.func123 rfl (by decide) rfl (by decide) rfl ?_
  intro ps hT hpre W hW
  simp only [c_l01Hex, TyA, Ty, Tys] at hT hpre
  simp only [c_hashText, TyA, Ty, Tys] at hT hpre
  obtain ⟨_, _, rfl, ⟨h, rfl, hh⟩, rfl⟩ := hT
  simp only [nth_zero, nth_succ, pv_S] at hpre
  refine hW.vc [(5, [12], .take 0 <| .take 1 <| .take 2 <| .take 3 <| .take 4 <| .take 5 <| .take 6 <| .take 7 <| .take 8 <| .take 9 <| .take 10 <| .alt 11 (.alt 12 (.alt 13 (.done) .stop) .stop) .stop)] _ _ ?_
  simp [-List.getD_eq_getElem?_getD, c_l01Hex, c_hashText]
  refine hW.loopS _ _ _ [.sl 3 .dp (.list (.int .u8)), .sl 4 .dp (.int .i64)] (fun ys => ∃ i : Nat, ys = [.list (bytesPV (hexB (h.take i))), .int .i64 i] ∧ i ≤ h.length) (fun ys => h.length - (nth ys 1).I.toNat) ?_ ?_
  · simp [-List.getD_eq_getElem?_getD, c_l01Hex, c_hashText]
    exact ⟨0, ⟨rfl, rfl⟩, by omega⟩
  · rintro ys ⟨i, rfl, h1⟩
    refine hW.vc [(5, [12], .take 0 <| .take 1 <| .take 2 <| .take 3 <| .take 4 <| .take 5 <| .take 6 <| .take 7 <| .take 8 <| .take 9 <| .take 10 <| .alt 11 (.alt 12 (.alt 13 (.done) .stop) .stop) .stop)] _ _ ?_
    simp [-List.getD_eq_getElem?_getD, c_l01Hex, c_hashText]
    have hl : (bytesPV (hexB (h.take i))).length = 2 * i := by rw [bytesPV_len, hexB_len, List.length_take]; omega
    rw [wrap64 (n := (i : Int) + 1) (by omega), hl, (hx1 (h.getD i 0)).1, hx2]
    refine fun _ => ⟨fun h2 => ?_, fun h2 => ?_⟩
    · have hb := (h.getD i 0).toNat_lt
      refine ⟨by decide +kernel, h2, ⟨by omega, by omega⟩, h2, ⟨by omega, by omega⟩, by decide, by omega, fun _ => ⟨⟨i + 1, ⟨?_, by omega⟩, by omega⟩, by omega⟩⟩
      rw [hexB_take h2, bytesPV_app]; rfl
    · rw [List.take_of_length_le h2, pvBytes_bytes]

def markL (key head : List UInt8) : List UInt8 := (hexB (hmacL key head)).take 32
theorem markL_len (key head : List UInt8) : (markL key head).length = 32 := by
  rw [markL, List.length_take, hexB_len, hmacL_len]; rfl
def c_markOf : FSpec := ⟨[(.rd, .str), (.rd, .str)], [.str], true, fun ps => (nth ps 0).S.length ≤ 1000000 ∧ (nth ps 1).S.length ≤ 1000000, fun ps => [.str (markL (nth ps 0).S (nth ps 1).S)], fun _ => []⟩
theorem k_markOf : FnOk Tryz.prog 61 c_markOf := by
  refine fn_mk [0, 1, 4] [.tmp 4] (env_cons (cs := []) k_hashText (env_cons (cs := []) k_hmac (env_nil (tyTab_ok [])))) mixed Tryz.func61 rfl (by decide) rfl (by decide) rfl ?_
  intro ps hT hpre W hW
  simp only [c_markOf, TyA, Ty, Tys] at hT hpre
  obtain ⟨_, _, rfl, ⟨key, rfl, hkey⟩, _, _, rfl, ⟨msg, rfl, hmsg⟩, rfl⟩ := hT
  simp only [nth_zero, nth_succ, pv_S] at hpre
  refine hW.vc [] _ _ ?_
  simp [-List.getD_eq_getElem?_getD, c_markOf, c_hmac, c_hashText]
  exact ⟨hpre, by rw [hmacL_len]; omega, by rw [hexB_len, hmacL_len]; omega, rfl⟩

theorem decS_neg {n : Int} (h : n < 0) (h2 : -999 ≤ n) : decS n = 45 :: decS (-n) := by
  have e1 : (-n).toNat = n.natAbs := by omega
  rw [decS, decS, Lib.itoa, Lib.itoa, if_pos h, if_neg (by omega), e1]
theorem decS_small {n : Int} (h : 0 ≤ n) (h2 : n < 10) : decS n = [UInt8.ofNat (48 + n).toNat] := by
  have : ∀ k : Fin 10, decS (k.val : Int) = [UInt8.ofNat (48 + (k.val : Int)).toNat] := by decide +kernel
  have := this ⟨n.toNat, by omega⟩
  rwa [show ((n.toNat : Nat) : Int) = n by omega] at this
theorem decS_big {n : Int} (h : 10 ≤ n) (h2 : n < 1000) : decS n = decS (n / 10) ++ [UInt8.ofNat (48 + n % 10).toNat] := by
  have : ∀ k : Fin 1000, k.val < 10 ∨ decS (k.val : Int) = decS ((k.val : Int) / 10) ++ [UInt8.ofNat (48 + (k.val : Int) % 10).toNat] := by decide +kernel
  have := this ⟨n.toNat, by omega⟩
  rw [show ((n.toNat : Nat) : Int) = n by omega] at this
  rcases this with h3 | h3
  · simp at h3; omega
  · exact h3
theorem dgU {n : Int} (h : 0 ≤ n) (h2 : n < 10) : pvBytes [PV.int .u8 (IntKind.u8.wrap (IntKind.i64.wrap (48 + n)))] = [UInt8.ofNat (48 + n).toNat] := by
  have e : IntKind.u8.wrap (48 + n) = 48 + n := by
    simp [IntKind.wrap, IntKind.signed, IntKind.bits]; omega
  rw [wrap64 (by omega), e]; rfl
def c_l00Digits0 : FSpec := ⟨[(.rd, .int .i64)], [.str], true, fun ps => 0 ≤ (nth ps 0).I ∧ (nth ps 0).I < 10, fun ps => [.str (decS (nth ps 0).I)], fun _ => []⟩
theorem k_l00Digits0 : FnOk Tryz.prog 131 c_l00Digits0 := by
  refine fn_mk [0, 2] [.tmp 2] (env_nil (tyTab_ok [])) mixed Tryz.func131 rfl (by decide) rfl (by decide) rfl ?_
  intro ps hT hpre W hW
  simp only [c_l00Digits0, TyA, Ty, Tys] at hT hpre
  obtain ⟨_, _, rfl, ⟨n, rfl, hn⟩, rfl⟩ := hT
  simp only [nth_zero, nth_succ, pv_I] at hpre
  refine hW.vc [(7, [], .take 0 <| .take 1 <| .take 3 <| .take 4 <| .take 5 <| .take 6 <| .alt 2 (.alt 7 (.take 8 <| .take 9 <| .alt 10 (.done) .stop) .stop) (.alt 7 (.take 8 <| .alt 2 (.take 9 <| .alt 10 (.done) .stop) .stop) .stop))] _ _ ?_
  simp [-List.getD_eq_getElem?_getD, c_l00Digits0]
  refine ⟨fun h => by exfalso; omega, fun _ => ⟨fun h => by exfalso; omega, fun h => ⟨fun h3 => by rw [dgU h h3, decS_small h h3], hpre.2⟩⟩⟩
def c_l00Digits1 : FSpec := ⟨[(.rd, .int .i64)], [.str], true, fun ps => 0 ≤ (nth ps 0).I ∧ (nth ps 0).I < 100, fun ps => [.str (decS (nth ps 0).I)], fun _ => []⟩
theorem k_l00Digits1 : FnOk Tryz.prog 131 c_l00Digits1 := by
  refine fn_mk [0, 2] [.tmp 2] (env_cons (cs := []) k_l00Digits0 (env_nil (tyTab_ok []))) mixed Tryz.func131 rfl (by decide) rfl (by decide) rfl ?_
  intro ps hT hpre W hW
  simp only [c_l00Digits1, TyA, Ty, Tys] at hT hpre
  obtain ⟨_, _, rfl, ⟨n, rfl, hn⟩, rfl⟩ := hT
  simp only [nth_zero, nth_succ, pv_I] at hpre
  refine hW.vc [(7, [], .take 0 <| .take 1 <| .take 3 <| .take 4 <| .take 5 <| .take 6 <| .alt 2 (.alt 7 (.take 8 <| .take 9 <| .alt 10 (.done) .stop) .stop) (.alt 7 (.take 8 <| .alt 2 (.take 9 <| .alt 10 (.done) .stop) .stop) .stop))] _ _ ?_
  simp [-List.getD_eq_getElem?_getD, c_l00Digits1, c_l00Digits0]
  have e1 : 0 ≤ n → n.tdiv 10 = n / 10 := fun h => Int.tdiv_eq_ediv_of_nonneg h
  have e2 : 0 ≤ n → n.tmod 10 = n % 10 := fun h => Int.tmod_eq_emod_of_nonneg h
  refine ⟨fun h => by exfalso; omega, fun _ => ⟨fun h => ?_, fun h => ⟨fun h3 => by rw [dgU h h3, decS_small h h3], fun h3 => ?_⟩⟩⟩
  · rw [wrap64 (by omega)]
    have l := decS_len (n := -n) (by omega) (by omega)
    exact ⟨by omega, by omega, (decS_neg h (by omega)).symm⟩
  · rw [e1 h, e2 h, wrap64 (n := n / 10) (by omega), dgU (by omega) (by omega)]
    have l := decS_len (n := n / 10) (by omega) (by omega)
    exact ⟨by decide +kernel, by omega, by simp only [List.length_cons, List.length_nil]; omega, (decS_big h3 (by omega)).symm⟩
def c_l00Digits : FSpec := ⟨[(.rd, .int .i64)], [.str], true, fun ps => -1 ≤ (nth ps 0).I ∧ (nth ps 0).I < 1000, fun ps => [.str (decS (nth ps 0).I)], fun _ => []⟩
theorem k_l00Digits : FnOk Tryz.prog 131 c_l00Digits := by
  refine fn_mk [0, 2] [.tmp 2] (env_cons (cs := []) k_l00Digits1 (env_nil (tyTab_ok []))) mixed Tryz.func131 rfl (by decide) rfl (by decide) rfl ?_
  intro ps hT hpre W hW
  simp only [c_l00Digits, TyA, Ty, Tys] at hT hpre
  obtain ⟨_, _, rfl, ⟨n, rfl, hn⟩, rfl⟩ := hT
  simp only [nth_zero, nth_succ, pv_I] at hpre
  refine hW.vc [(7, [], .take 0 <| .take 1 <| .take 3 <| .take 4 <| .take 5 <| .take 6 <| .alt 2 (.alt 7 (.take 8 <| .take 9 <| .alt 10 (.done) .stop) .stop) (.alt 7 (.take 8 <| .alt 2 (.take 9 <| .alt 10 (.done) .stop) .stop) .stop))] _ _ ?_
  simp [-List.getD_eq_getElem?_getD, c_l00Digits, c_l00Digits1]
  have e1 : 0 ≤ n → n.tdiv 10 = n / 10 := fun h => Int.tdiv_eq_ediv_of_nonneg h
  have e2 : 0 ≤ n → n.tmod 10 = n % 10 := fun h => Int.tmod_eq_emod_of_nonneg h
  refine ⟨fun h => by exfalso; omega, fun _ => ⟨fun h => ?_, fun h => ⟨fun h3 => by rw [dgU h h3, decS_small h h3], fun h3 => ?_⟩⟩⟩
  · rw [wrap64 (by omega)]
    have l := decS_len (n := -n) (by omega) (by omega)
    exact ⟨by omega, by omega, (decS_neg h (by omega)).symm⟩
  · rw [e1 h, e2 h, wrap64 (n := n / 10) (by omega), dgU (by omega) (by omega)]
    have l := decS_len (n := n / 10) (by omega) (by omega)
    exact ⟨by decide +kernel, by omega, by simp only [List.length_cons, List.length_nil]; omega, (decS_big h3 (by omega)).symm⟩

end Go.Proofs.YtolgjekokdimoaaGreatDoor
end

section
namespace Go.Proofs.YtolgjekokdimoaaGreatDoor
variable [LaidG]
variable [LaidN 0] [LaidN 1]
variable [LaidN 5]
set_option maxRecDepth 100000
set_option linter.unusedSimpArgs false

def headL (c : Int) (t : List UInt8) (n : Int) : List UInt8 := [116, 111, 107, 101, 110, 32] ++ (decS c ++ ([32] ++ (t ++ ([32] ++ decS n))))
theorem headL_len {c n : Int} {t : List UInt8} (hc : 0 ≤ c) (hc2 : c ≤ 200) (ht : t.length ≤ 12) (hn : -1 ≤ n) (hn2 : n ≤ 60) : (headL c t n).length ≤ 26 := by
  have l1 := decS_len (n := c) (by omega) (by omega)
  have l2 := decS_len (n := n) (by omega) (by omega)
  simp only [headL, List.length_append, List.length_cons, List.length_nil]
  omega
def toldP (c : Int) (t : List UInt8) (n : Int) : Prop := 0 ≤ c ∧ c ≤ 200 ∧ t.length ≤ 12 ∧ -1 ≤ n ∧ n ≤ 60
def c_tokenHead : FSpec := ⟨[(.rd, .int .i64), (.rd, .str), (.rd, .int .i64)], [.str], true, fun ps => toldP (nth ps 0).I (nth ps 1).S (nth ps 2).I, fun ps => [.str (headL (nth ps 0).I (nth ps 1).S (nth ps 2).I)], fun _ => []⟩
theorem k_tokenHead : FnOk Tryz.prog 62 c_tokenHead := by
  refine fn_mk [0, 1, 2, 6] [.tmp 6] (env_cons (cs := []) k_Itoa (env_nil (tyTab_ok []))) mixed Tryz.func62 rfl (by decide) rfl (by decide) rfl ?_
  intro ps hT hpre W hW
  simp only [c_tokenHead, TyA, Ty, Tys] at hT hpre
  obtain ⟨_, _, rfl, ⟨c, rfl, hc⟩, _, _, rfl, ⟨t, rfl, ht⟩, _, _, rfl, ⟨n, rfl, hn⟩, rfl⟩ := hT
  simp only [nth_zero, nth_succ, pv_I, pv_S, toldP] at hpre
  refine hW.vc [] _ _ ?_
  simp [-List.getD_eq_getElem?_getD, c_tokenHead, c_Itoa]
  obtain ⟨q1, q2, q3, q4, q5⟩ := hpre
  have l1 := decS_len (n := c) (by omega) (by omega)
  have l2 := decS_len (n := n) (by omega) (by omega)
  exact ⟨by omega, by omega, by omega, by omega, by omega, by omega, by omega, rfl⟩
def c_l12Plain : FSpec := c_tokenHead
theorem k_l12Plain : FnOk Tryz.prog 103 c_l12Plain := by
  refine fn_mk [0, 1, 2, 6] [.tmp 6] (env_cons (cs := []) k_l00Digits (env_nil (tyTab_ok []))) mixed Tryz.func103 rfl (by decide) rfl (by decide) rfl ?_
  intro ps hT hpre W hW
  simp only [c_l12Plain, TyA, Ty, Tys] at hT hpre
  simp only [c_tokenHead, TyA, Ty, Tys] at hT hpre
  obtain ⟨_, _, rfl, ⟨c, rfl, hc⟩, _, _, rfl, ⟨t, rfl, ht⟩, _, _, rfl, ⟨n, rfl, hn⟩, rfl⟩ := hT
  simp only [nth_zero, nth_succ, pv_I, pv_S, toldP] at hpre
  refine hW.vc [] _ _ ?_
  simp [-List.getD_eq_getElem?_getD, c_l12Plain, c_l00Digits, c_tokenHead]
  obtain ⟨q1, q2, q3, q4, q5⟩ := hpre
  have l1 := decS_len (n := c) (by omega) (by omega)
  have l2 := decS_len (n := n) (by omega) (by omega)
  exact ⟨by omega, by omega, by omega, by omega, by omega, by omega, by omega, rfl⟩
def c_l12Mark : FSpec := ⟨[(.rd, .str), (.rd, .int .i64), (.rd, .str), (.rd, .int .i64)], [.str], true, fun ps => (nth ps 0).S.length ≤ 1000000 ∧ toldP (nth ps 1).I (nth ps 2).S (nth ps 3).I, fun ps => [.str (markL (nth ps 0).S (headL (nth ps 1).I (nth ps 2).S (nth ps 3).I))], fun _ => []⟩
theorem k_l12Mark : FnOk Tryz.prog 96 c_l12Mark := by
  refine fn_mk [0, 1, 2, 3, 8] [.tmp 8] (env_cons (cs := []) k_l01Hex (env_cons (cs := []) k_l02Hmac (env_cons (cs := []) k_l12Plain (env_nil (tyTab_ok []))))) mixed Tryz.func96 rfl (by decide) rfl (by decide) rfl ?_
  intro ps hT hpre W hW
  simp only [c_l12Mark, TyA, Ty, Tys] at hT hpre
  obtain ⟨_, _, rfl, ⟨key, rfl, hkey⟩, _, _, rfl, ⟨c, rfl, hc⟩, _, _, rfl, ⟨t, rfl, ht⟩, _, _, rfl, ⟨n, rfl, hn⟩, rfl⟩ := hT
  simp only [nth_zero, nth_succ, pv_I, pv_S] at hpre
  refine hW.vc [] _ _ ?_
  simp [-List.getD_eq_getElem?_getD, c_l12Mark, c_l12Plain, c_l02Hmac, c_l01Hex, c_tokenHead, c_hmac, c_hashText, c_tokenHead, c_hmac, c_hashText]
  obtain ⟨q0, hp⟩ := hpre
  have hp' := hp
  obtain ⟨q1, q2, q3, q4, q5⟩ := hp'
  have l1 := headL_len q1 q2 q3 q4 q5
  exact ⟨hp, ⟨q0, by omega⟩, by rw [hmacL_len]; omega, by rw [hexB_len, hmacL_len]; omega, rfl⟩
def tokenL (key : List UInt8) (c : Int) (t : List UInt8) (n : Int) : List UInt8 := headL c t n ++ ([32] ++ markL key (headL c t n))
def c_tokenOf : FSpec := ⟨[(.rd, .str), (.rd, .int .i64), (.rd, .str), (.rd, .int .i64)], [.str], true, fun ps => (nth ps 0).S.length ≤ 1000000 ∧ toldP (nth ps 1).I (nth ps 2).S (nth ps 3).I, fun ps => [.str (tokenL (nth ps 0).S (nth ps 1).I (nth ps 2).S (nth ps 3).I)], fun _ => []⟩
theorem k_tokenOf : FnOk Tryz.prog 58 c_tokenOf := by
  refine fn_mk [0, 1, 2, 3, 8, 9] [.tmp 8] (env_cons (cs := []) k_markOf (env_cons (cs := []) k_tokenHead (env_nil (tyTab_ok [])))) mixed Tryz.func58 rfl (by decide) rfl (by decide) rfl ?_
  intro ps hT hpre W hW
  simp only [c_tokenOf, TyA, Ty, Tys] at hT hpre
  obtain ⟨_, _, rfl, ⟨key, rfl, hkey⟩, _, _, rfl, ⟨c, rfl, hc⟩, _, _, rfl, ⟨t, rfl, ht⟩, _, _, rfl, ⟨n, rfl, hn⟩, rfl⟩ := hT
  simp only [nth_zero, nth_succ, pv_I, pv_S] at hpre
  refine hW.vc [] _ _ ?_
  simp [-List.getD_eq_getElem?_getD, c_tokenOf, c_tokenHead, c_markOf]
  obtain ⟨q0, hp⟩ := hpre
  have hp' := hp
  obtain ⟨q1, q2, q3, q4, q5⟩ := hp'
  have l1 := headL_len q1 q2 q3 q4 q5
  exact ⟨hp, by omega, ⟨q0, by omega⟩, by rw [markL_len]; omega, rfl⟩
def c_l12Issue : FSpec := c_tokenOf
theorem k_l12Issue : FnOk Tryz.prog 60 c_l12Issue := by
  refine fn_mk [0, 1, 2, 3, 8] [.tmp 8] (env_cons (cs := []) k_l12Mark (env_cons (cs := []) k_l12Plain (env_nil (tyTab_ok [])))) mixed Tryz.func60 rfl (by decide) rfl (by decide) rfl ?_
  intro ps hT hpre W hW
  simp only [c_l12Issue, TyA, Ty, Tys] at hT hpre
  simp only [c_tokenOf, TyA, Ty, Tys] at hT hpre
  obtain ⟨_, _, rfl, ⟨key, rfl, hkey⟩, _, _, rfl, ⟨c, rfl, hc⟩, _, _, rfl, ⟨t, rfl, ht⟩, _, _, rfl, ⟨n, rfl, hn⟩, rfl⟩ := hT
  simp only [nth_zero, nth_succ, pv_I, pv_S] at hpre
  refine hW.vc [] _ _ ?_
  simp [-List.getD_eq_getElem?_getD, c_l12Issue, c_l12Plain, c_l12Mark, c_tokenOf, c_tokenHead, c_tokenHead]
  obtain ⟨q0, hp⟩ := hpre
  have hp' := hp
  obtain ⟨q1, q2, q3, q4, q5⟩ := hp'
  have l1 := headL_len q1 q2 q3 q4 q5
  exact ⟨hp, by omega, ⟨q0, hp⟩, by rw [markL_len]; omega, rfl⟩

end Go.Proofs.YtolgjekokdimoaaGreatDoor
end

section
namespace Go.Proofs.YtolgjekokdimoaaGreatDoor
variable [LaidG]
variable [LaidN 0] [LaidN 1]
variable [LaidN 5]
set_option maxRecDepth 100000
set_option linter.unusedSimpArgs false

theorem toldB_P {c n : Int} {t : List UInt8} (h : toldB c t n = true) : toldP c t n := by
  simp only [toldB, wordB, inB, Bool.and_eq_true, decide_eq_true_eq] at h
  unfold toldP
  omega
def longB (a b : List UInt8) : Bool := longN a.length || longN b.length
/-- What issuing and marking answer: a text and a code. -/
def markV (key : List UInt8) (c : Int) (t : List UInt8) (n : Int) : List UInt8 × Int :=
  if longB key t = true then ([], 2) else if toldB c t n = true then (markL key (headL c t n), 0) else ([], 1)
def issueV (key : List UInt8) (c : Int) (t : List UInt8) (n : Int) : List UInt8 × Int :=
  if longB key t = true then ([], 2) else if toldB c t n = true then (tokenL key c t n, 0) else ([], 1)
def c_TokenMark : FSpec := ⟨[(.rd, .str), (.rd, .int .i64), (.rd, .str), (.rd, .int .i64)], [.str, .int .i64], true, fun _ => True, fun ps => [.str (markV (nth ps 0).S (nth ps 1).I (nth ps 2).S (nth ps 3).I).1, .int .i64 (markV (nth ps 0).S (nth ps 1).I (nth ps 2).S (nth ps 3).I).2], fun _ => []⟩
theorem k_TokenMark : FnOk Tryz.prog 24 c_TokenMark := by
  refine fn_mk [0, 1, 2, 3, 8, 9] [.tmp 8, .tmp 9] (env_cons (cs := []) k_markOf (env_cons (cs := []) k_tokenHead (env_cons (cs := []) k_isTold (env_cons (cs := []) k_isLong (env_nil (tyTab_ok [])))))) mixed Tryz.func24 rfl (by decide) rfl (by decide) rfl ?_
  intro ps hT hpre W hW
  simp only [c_TokenMark, TyA, Ty, Tys] at hT hpre
  obtain ⟨_, _, rfl, ⟨key, rfl, hkey⟩, _, _, rfl, ⟨c, rfl, hc⟩, _, _, rfl, ⟨t, rfl, ht⟩, _, _, rfl, ⟨n, rfl, hn⟩, rfl⟩ := hT
  refine hW.vc [] _ _ ?_
  simp [-List.getD_eq_getElem?_getD, c_TokenMark, c_isLong, c_isTold, c_tokenHead, c_markOf]
  refine fun _ _ => ⟨by decide, fun h => ?_, fun h1 h2 => ⟨fun h3 => ?_, fun h3 => ?_⟩⟩
  · have hb : longB key t = true := by rcases h with h | h <;> simp [longB, h]
    simp [markV, hb]
  · have hb : longB key t = false := by simp [longB, h1, h2]
    simp [markV, hb, h3]
  · have hb : longB key t = false := by simp [longB, h1, h2]
    have hp := toldB_P h3
    have hp' := hp
    obtain ⟨q1, q2, q3, q4, q5⟩ := hp'
    have l1 := headL_len q1 q2 q3 q4 q5
    have hk : key.length ≤ 65536 := by simp [longN] at h1; omega
    exact ⟨hp, ⟨by omega, by omega⟩, by simp [markV, hb, h3]⟩
def c_sTokenMark : FSpec := c_TokenMark
def c_IssueToken : FSpec := ⟨[(.rd, .str), (.rd, .int .i64), (.rd, .str), (.rd, .int .i64)], [.str, .int .i64], true, fun _ => True, fun ps => [.str (issueV (nth ps 0).S (nth ps 1).I (nth ps 2).S (nth ps 3).I).1, .int .i64 (issueV (nth ps 0).S (nth ps 1).I (nth ps 2).S (nth ps 3).I).2], fun _ => []⟩
theorem k_IssueToken : FnOk Tryz.prog 22 c_IssueToken := by
  refine fn_mk [0, 1, 2, 3, 8, 9] [.tmp 8, .tmp 9] (env_cons (cs := []) k_tokenOf (env_cons (cs := []) k_isTold (env_cons (cs := []) k_isLong (env_nil (tyTab_ok []))))) mixed Tryz.func22 rfl (by decide) rfl (by decide) rfl ?_
  intro ps hT hpre W hW
  simp only [c_IssueToken, TyA, Ty, Tys] at hT hpre
  obtain ⟨_, _, rfl, ⟨key, rfl, hkey⟩, _, _, rfl, ⟨c, rfl, hc⟩, _, _, rfl, ⟨t, rfl, ht⟩, _, _, rfl, ⟨n, rfl, hn⟩, rfl⟩ := hT
  refine hW.vc [] _ _ ?_
  simp [-List.getD_eq_getElem?_getD, c_IssueToken, c_isLong, c_isTold, c_tokenOf]
  refine fun _ _ => ⟨by decide, fun h => ?_, fun h1 h2 => ⟨fun h3 => ?_, fun h3 => ?_⟩⟩
  · have hb : longB key t = true := by rcases h with h | h <;> simp [longB, h]
    simp [issueV, hb]
  · have hb : longB key t = false := by simp [longB, h1, h2]
    simp [issueV, hb, h3]
  · have hb : longB key t = false := by simp [longB, h1, h2]
    have hp := toldB_P h3
    have hp' := hp
    obtain ⟨q1, q2, q3, q4, q5⟩ := hp'
    have l1 := headL_len q1 q2 q3 q4 q5
    have hk : key.length ≤ 65536 := by simp [longN] at h1; omega
    exact ⟨⟨by omega, hp⟩, by simp [issueV, hb, h3]⟩
def c_sIssueToken : FSpec := c_IssueToken
theorem k_sIssueToken : FnOk Tryz.prog 23 c_sIssueToken := by
  refine fn_mk [0, 1, 2, 3, 8, 9] [.tmp 8, .tmp 9] (env_cons (cs := []) k_l12Issue (env_cons (cs := []) k_l12Ask (env_nil (tyTab_ok [])))) mixed Tryz.func23 rfl (by decide) rfl (by decide) rfl ?_
  intro ps hT hpre W hW
  simp only [c_sIssueToken, TyA, Ty, Tys] at hT hpre
  simp only [c_IssueToken, TyA, Ty, Tys] at hT
  obtain ⟨_, _, rfl, ⟨key, rfl, hkey⟩, _, _, rfl, ⟨c, rfl, hc⟩, _, _, rfl, ⟨t, rfl, ht⟩, _, _, rfl, ⟨n, rfl, hn⟩, rfl⟩ := hT
  refine hW.vc [] _ _ ?_
  simp [-List.getD_eq_getElem?_getD, c_sIssueToken, c_l12Ask, c_l12Issue, c_IssueToken, c_isTold, c_tokenOf, c_isTold, c_tokenOf]
  refine fun _ _ => ⟨fun h => ?_, fun h1 h2 => ⟨fun h3 => ?_, fun h3 => ?_⟩⟩
  · have hb : longB key t = true := by simp [longB, longN]; omega
    simp [issueV, hb]
  · have hb : longB key t = false := by simp [longB, longN]; omega
    simp [issueV, hb, h3]
  · have hb : longB key t = false := by simp [longB, longN]; omega
    have hp := toldB_P h3
    exact ⟨⟨by omega, hp⟩, by simp [issueV, hb, h3]⟩

def c_exTokenMark : FSpec := ⟨[(.rd, .str), (.rd, .int .i64), (.rd, .str), (.rd, .int .i64)], [.bool], true, fun _ => True, fun _ => [.bool true], fun _ => []⟩
def c_exIssueToken : FSpec := c_exTokenMark
end Go.Proofs.YtolgjekokdimoaaGreatDoor
end

section
namespace Go.Proofs.YtolgjekokdimoaaGreatDoor
open Go.Lib

/-- The parts of a text, behind what the first part has already. -/
def cutA (x : UInt8) : List UInt8 → List UInt8 → List (List UInt8)
  | acc, [] => [acc]
  | acc, c :: l => if c = x then acc :: cutA x [] l else cutA x (acc ++ [c]) l
theorem cutA_no {x : UInt8} : ∀ (s acc : List UInt8), (∀ c ∈ s, c ≠ x) → cutA x acc s = [acc ++ s]
  | [], acc, _ => by simp [cutA]
  | c :: s, acc, h => by
    rw [cutA, if_neg (h c (by simp)), cutA_no s _ fun y hy => h y (by simp [hy])]; simp
theorem cutA_hit {x : UInt8} : ∀ (a b acc : List UInt8), (∀ c ∈ a, c ≠ x) → cutA x acc (a ++ x :: b) = (acc ++ a) :: cutA x [] b
  | [], b, acc, _ => by rw [List.nil_append, cutA, if_pos rfl, List.append_nil]
  | c :: a, b, acc, h => by
    rw [List.cons_append, cutA, if_neg (h c (by simp)), cutA_hit a b _ fun y hy => h y (by simp [hy])]; simp
theorem index_one (x : UInt8) : ∀ s : List UInt8, (index s [x] = -1 ∧ ∀ c ∈ s, c ≠ x) ∨ ∃ a b, s = a ++ x :: b ∧ (∀ c ∈ a, c ≠ x) ∧ index s [x] = a.length
  | [] => .inl ⟨rfl, by simp⟩
  | c :: s => by
    by_cases hc : x = c
    · subst hc
      exact .inr ⟨[], s, rfl, by simp, by simp [index]⟩
    · have hp : ([x].isPrefixOf (c :: s)) = false := by simp [List.isPrefixOf, hc]
      rcases index_one x s with ⟨h1, h2⟩ | ⟨a, b, h1, h2, h3⟩
      · refine .inl ⟨by simp [index, hp, h1], fun y hy => ?_⟩
        rcases List.mem_cons.1 hy with rfl | hy
        · exact fun e => hc e.symm
        · exact h2 y hy
      · refine .inr ⟨c :: a, b, by rw [h1]; rfl, fun y hy => ?_, ?_⟩
        · rcases List.mem_cons.1 hy with rfl | hy
          · exact fun e => hc e.symm
          · exact h2 y hy
        · have : ¬ (index s [x] == -1) = true := by rw [h3]; simp <;> omega
          rw [index, hp, if_neg (by decide), if_neg this, h3, List.length_cons]; omega
theorem split_cut (x : UInt8) : ∀ (n : Nat) (s : List UInt8), s.length ≤ n → splitK [x] 0 (count s [x]) s = cutA x [] s := by
  intro n
  induction n with
  | zero =>
    intro s h
    have : s = [] := List.eq_nil_of_length_eq_zero (by omega)
    subst this
    rfl
  | succ n ih =>
    intro s h
    rcases index_one x s with ⟨h1, h2⟩ | ⟨a, b, h1, h2, h3⟩
    · rw [count_miss h1, cutA_no s [] h2]; rfl
    · have hne : ¬ (index s [x] == -1) = true := by rw [h3]; simp <;> omega
      rw [count_hit (by simp) h3, Nat.add_comm, splitK, if_neg hne, h3]
      have hd : s.drop (((a.length : Int).toNat) + [x].length) = b := by
        rw [h1, Int.toNat_natCast]; simp [List.drop_append]
      have hd' : s.drop (a.length + [x].length) = b := by
        rw [h1]; simp [List.drop_append]
      rw [hd, hd', ih b (by rw [h1] at h; simp at h; omega), h1, cutA_hit a b [] h2]
      simp
theorem cut_count (x : UInt8) : ∀ (n : Nat) (s : List UInt8), s.length ≤ n → (cutA x [] s).length = count s [x] + 1 := by
  intro n
  induction n with
  | zero =>
    intro s h
    have : s = [] := List.eq_nil_of_length_eq_zero (by omega)
    subst this
    rfl
  | succ n ih =>
    intro s h
    rcases index_one x s with ⟨h1, h2⟩ | ⟨a, b, h1, h2, h3⟩
    · rw [count_miss h1, cutA_no s [] h2]; rfl
    · rw [count_hit (by simp) h3]
      have hd' : s.drop (a.length + [x].length) = b := by
        rw [h1]; simp [List.drop_append]
      rw [hd', h1, cutA_hit a b [] h2, List.length_cons, ih b (by rw [h1] at h; simp at h; omega), Nat.add_comm 1]
theorem cutA_ne {x : UInt8} : ∀ (s acc : List UInt8), cutA x acc s ≠ []
  | [], acc => by simp [cutA]
  | c :: s, acc => by rw [cutA]; split; · simp
                      · exact cutA_ne s _
theorem cutA_len {x : UInt8} : ∀ (s acc : List UInt8), (cutA x acc s).length ≤ s.length + 1
  | [], acc => by simp [cutA]
  | c :: s, acc => by
    rw [cutA]; split
    · have := cutA_len (x := x) s []
      simp; omega
    · have := cutA_len (x := x) s (acc ++ [c])
      simp; omega
theorem cutA_part {x : UInt8} : ∀ (s acc : List UInt8), ∀ p ∈ cutA x acc s, p.length ≤ acc.length + s.length
  | [], acc, p, h => by simp [cutA] at h; simp [h]
  | c :: s, acc, p, h => by
    rw [cutA] at h
    split at h
    · rcases List.mem_cons.1 h with rfl | h
      · omega
      · have := cutA_part s [] p h
        simp at this ⊢; omega
    · have := cutA_part s (acc ++ [c]) p h
      simp at this ⊢; omega
/-- The parts, joined again. -/
def joinA (x : UInt8) : List (List UInt8) → List UInt8
  | [] => []
  | [p] => p
  | p :: q :: r => p ++ x :: joinA x (q :: r)
theorem join_cut {x : UInt8} : ∀ (s acc : List UInt8), joinA x (cutA x acc s) = acc ++ s
  | [], acc => by simp [cutA, joinA]
  | c :: s, acc => by
    rw [cutA]
    split
    · rename_i h
      subst h
      cases hc : cutA c [] s with
      | nil => exact absurd hc (cutA_ne _ _)
      | cons q r =>
        rw [joinA, ← hc, join_cut s []]; simp
    · rw [join_cut s (acc ++ [c])]; simp

end Go.Proofs.YtolgjekokdimoaaGreatDoor
end

section
namespace Go.Proofs.YtolgjekokdimoaaGreatDoor
variable [LaidG]
variable [LaidN 2]
open Go.Shelf Go.RowKit
set_option maxRecDepth 100000
set_option linter.unusedVariables false

section
variable {w : World}
theorem lv_strs : ∀ {L : List ByteArray}, (∀ b ∈ L, b.data.toList.length ≤ LIM) → Lv w (flatT .str L.length) (flatP (L.map fun b => PV.str b.data.toList)) (L.map Value.string) []
  | [], _ => .nil
  | b :: L, h => Lv.str (h b (by simp)) (lv_strs (L := L) fun x hx => h x (by simp [hx]))
theorem split_ret {L : List ByteArray} {t n : Nat} (hn : L.length = n) (hne : L ≠ []) (hl : ∀ b ∈ L, b.data.toList.length ≤ LIM) (hlim : L.length ≤ LIM) :
    RetVs (w.alloc (.cells (L.map Value.string).toArray t)) [.list .str] [.list (L.map fun b => PV.str b.data.toList)] [.slice (some ⟨w.heap.size, 0, none⟩) n n] [w.heap.size] := by
  subst hn
  have hb : (w.alloc (.cells (L.map Value.string).toArray t)).heap[w.heap.size]? = some (.cells (L.map Value.string).toArray t (0, 0)) := Array.getElem?_push_size
  have hS : ∀ e ∈ L.map (fun b => PV.str b.data.toList), Shp .str e := by
    intro e he
    obtain ⟨b, _, rfl⟩ := List.mem_map.1 he
    intro qs h; cases h
  have hO : OwnD (w.alloc (.cells (L.map Value.string).toArray t)) (.slice (some ⟨w.heap.size, 0, none⟩) L.length L.length) .str (L.map fun b => PV.str b.data.toList) [w.heap.size] := by
    refine ownS_D rfl (.inr ⟨w.heap.size, [], L.map Value.string, rfl, ⟨⟨0, L.length, _, t, (0, 0), by rw [List.length_map], hb, ?_, ?_, ?_, NoFz.none _ _, ?_⟩, ?_, ?_⟩, hS, ?_⟩)
    · simp [PTy.wd, PTy.leaves]
    · simp
    · unfold maxLen; unfold LIM at hlim; omega
    · show ((L.map Value.string).drop 0).take (L.map Value.string).length = _
      rw [List.drop_zero, List.take_length]
    · simp [PTy.wd, PTy.leaves]
    · simpa using hlim
    · rw [List.length_map]; exact lv_strs hl
  have := RetVs.cons (t := .list .str) ⟨[[w.heap.size]], .list hO .nil, rfl⟩ (RetVs.nil (w := w.alloc (.cells (L.map Value.string).toArray t)))
  simpa using this
end

theorem cell_is {w : World} {X : List Nat} {g : Nat} {b : Bool} (h : GlOk w X) (hg : lk GE g = some b) (hl : LaidG.s g = true) : ∃ v, w.cell? ⟨g, 0, none⟩ = some v ∧ GlV b v := by
  obtain ⟨_, v, t, q, r⟩ := h.one g b hg hl
  exact ⟨v, by simp [World.cell?, q], r⟩
def cutP (x : UInt8) (t : List UInt8) : List PV := (cutA x [] t).map PV.str
def c_Split : FSpec := ⟨[(.rd, .str), (.rd, .str)], [.list .str], true, fun ps => (nth ps 1).S.length = 1 ∧ (nth ps 0).S.length ≤ 1048576, fun ps => [.list (cutP ((nth ps 1).S.headD 0) (nth ps 0).S)], fun _ => []⟩
theorem splitB_cut (x : UInt8) (l : List UInt8) : (Lib.splitB ⟨[x].toArray⟩ 0 (Lib.countB ⟨l.toArray⟩ ⟨[x].toArray⟩) ⟨l.toArray⟩).map (fun b => PV.str b.data.toList) = cutP x l := by
  have h := Lib.splitB_data ⟨[x].toArray⟩ 0 (Lib.countB ⟨l.toArray⟩ ⟨[x].toArray⟩) ⟨l.toArray⟩
  have h2 : (Lib.splitB ⟨[x].toArray⟩ 0 (Lib.countB ⟨l.toArray⟩ ⟨[x].toArray⟩) ⟨l.toArray⟩).map (·.data.toList) = cutA x [] l := by
    rw [h]
    exact split_cut x l.length l (Nat.le_refl _)
  rw [cutP, ← h2, List.map_map]; rfl
theorem meets_Split : Meets Tryz.prog 97 c_Split := by
  intro w ps vs fs fl ms hA hnd hdj hpre hgl
  cases hA with
  | rd h1 hA => cases hA with
  | rd h2 hA =>
  cases hA
  obtain ⟨h1, rfl⟩ := h1
  obtain ⟨h2, rfl⟩ := h2
  cases h1 with | str hl h1 =>
  cases h1
  cases h2 with | str hl2 h2 =>
  cases h2
  rename_i l x
  obtain ⟨p1, p2⟩ := hpre
  simp only [nth, List.getD_cons_zero, List.getD_cons_succ, PV.S] at p1 p2
  obtain ⟨x, rfl⟩ : ∃ y, x = [y] := by
    match x, p1 with
    | [y], _ => exact ⟨y, rfl⟩
  obtain ⟨_, hm, m, rfl⟩ := cell_is hgl (g := 2) (b := false) rfl (by simp)
  refine (lay_strings_Split ⟨l.toArray⟩ ⟨[x].toArray⟩ m w (by show l.toArray.size < _; simp; omega) hm (Nat.le_refl 1)).mono ?_
  rintro e w' ⟨rfl, rfl⟩
  have hcut := splitB_cut x l
  have hcl := cutA_len (x := x) l []
  have hct := cut_count x l.length l (Nat.le_refl _)
  have hlen : (Lib.splitB ⟨[x].toArray⟩ 0 (Lib.countB ⟨l.toArray⟩ ⟨[x].toArray⟩) ⟨l.toArray⟩).length = Lib.countB ⟨l.toArray⟩ ⟨[x].toArray⟩ + 1 := by
    have h1 := congrArg List.length hcut
    simp only [cutP, List.length_map] at h1
    rw [h1]; exact hct
  have hall : ∀ b ∈ Lib.splitB ⟨[x].toArray⟩ 0 (Lib.countB ⟨l.toArray⟩ ⟨[x].toArray⟩) ⟨l.toArray⟩, b.data.toList.length ≤ LIM := by
    intro b hb
    have h1 : PV.str b.data.toList ∈ cutP x l := by rw [← hcut]; exact List.mem_map.2 ⟨b, hb, rfl⟩
    obtain ⟨p, hp, e⟩ := List.mem_map.1 h1
    cases e
    have := cutA_part l [] _ hp
    simp only [List.length_nil] at this
    unfold LIM; omega
  have hret := split_ret (w := w) (t := 9) hlen (by intro e; rw [e] at hlen; simp at hlen) hall (by rw [hlen]; unfold LIM; have : Lib.countB ⟨l.toArray⟩ ⟨[x].toArray⟩ + 1 = (cutA x [] l).length := hct.symm; omega)
  rw [hcut] at hret
  exact ⟨_, rfl, Fr.alloc (Fr.refl w _) _, .inl ⟨rfl, _, [], hret, .rd (.rd .nil), by simp, fun x hx => by simp at hx; omega⟩⟩
theorem k_Split : FnOk Tryz.prog 97 c_Split := ⟨meets_Split, _, Tryz.func97, rfl, by decide⟩

end Go.Proofs.YtolgjekokdimoaaGreatDoor
end

section
namespace Go.Proofs.YtolgjekokdimoaaGreatDoor
open Go.Lib

/-- The reference's loop over digits. -/
def dgV (n : Nat) : List UInt8 → Option Nat
  | [] => some n
  | c :: l => if 48 ≤ c.toNat ∧ c.toNat ≤ 57 then dgV (n * 10 + (c.toNat - 48)) l else none
def magN (neg : Bool) (t : List UInt8) : Option Nat :=
  if t.length = 0 ∨ 18 < t.length ∨ (t.getD 0 0 = 48 ∧ (1 < t.length ∨ neg = true)) then none else dgV 0 t
/-- The number that a text is, of at most 18 digits and none needless ahead. -/
def numN (t : List UInt8) : Option Int :=
  if 0 < t.length ∧ t.getD 0 0 = 45 then (magN true (t.drop 1)).map fun m : Nat => -(m : Int) else (magN false t).map fun m : Nat => (m : Int)
/-- What is behind a '-'. -/
def trimN (t : List UInt8) : List UInt8 := if 0 < t.length ∧ t.getD 0 0 = 45 then t.drop 1 else t
/-- What the program makes of a text. -/
def intN (t : List UInt8) : Option Int :=
  match atoiAll t with
  | .ok n => if 18 < (trimN t).length ∨ itoa n ≠ t then none else some n
  | _ => none

theorem parse_dgV : ∀ (l : List UInt8) (acc : Nat), l.length ≤ 18 → acc < 10 ^ (18 - l.length) → parseUint10 acc l = match dgV acc l with | some m => .ok m | none => parseMag []
  | [], acc, _, _ => rfl
  | c :: l, acc, hl, ha => by
    simp only [List.length_cons] at hl ha
    have e : 10 ^ (18 - l.length) = 10 * 10 ^ (18 - (l.length + 1)) := by
      rw [show 18 - l.length = (18 - (l.length + 1)) + 1 by omega, Nat.pow_succ, Nat.mul_comm]
    have hp : 10 ^ (18 - (l.length + 1)) ≤ 10 ^ 17 := Nat.pow_le_pow_right (by decide) (by omega)
    have hp' : (10 : Nat) ^ 17 = 100000000000000000 := by decide
    rw [parseUint10, dgV]
    by_cases hc : 48 ≤ c.toNat ∧ c.toNat ≤ 57
    · rw [if_pos hc, if_pos hc, if_neg (by omega), if_neg (by omega)]
      exact parse_dgV l _ (by omega) (by omega)
    · simp only [if_neg hc]; first | done | rfl

/-- The digits' value. -/
def valF (n : Nat) (l : List UInt8) : Nat := l.foldl (fun a c => a * 10 + (c.toNat - 48)) n
theorem dgV_val : ∀ (l : List UInt8) (n m : Nat), dgV n l = some m → (∀ c ∈ l, 48 ≤ c.toNat ∧ c.toNat ≤ 57) ∧ m = valF n l
  | [], n, m, h => by simp only [dgV, Option.some.injEq] at h; subst h; exact ⟨by simp, rfl⟩
  | c :: l, n, m, h => by
    rw [dgV] at h
    by_cases hc : 48 ≤ c.toNat ∧ c.toNat ≤ 57
    · rw [if_pos hc] at h
      obtain ⟨h1, h2⟩ := dgV_val l _ m h
      refine ⟨fun x hx => ?_, h2⟩
      rcases List.mem_cons.1 hx with rfl | hx
      · exact hc
      · exact h1 x hx
    · rw [if_neg hc] at h; cases h
theorem val_dgV : ∀ (l : List UInt8) (n : Nat), (∀ c ∈ l, 48 ≤ c.toNat ∧ c.toNat ≤ 57) → dgV n l = some (valF n l)
  | [], n, _ => rfl
  | c :: l, n, h => by
    rw [dgV, if_pos (h c (by simp)), val_dgV l _ fun x hx => h x (by simp [hx])]; rfl
theorem valF_ge : ∀ (l : List UInt8) (n : Nat), n ≤ valF n l
  | [], n => Nat.le_refl _
  | c :: l, n => by
    have := valF_ge l (n * 10 + (c.toNat - 48))
    show n ≤ valF (n * 10 + (c.toNat - 48)) l
    omega
theorem byte_of (c : UInt8) (h : 48 ≤ c.toNat) : UInt8.ofNat (48 + (c.toNat - 48)) = c := by
  rw [show 48 + (c.toNat - 48) = c.toNat by omega]; simp
/-- Digits without a needless zero ahead are their number's numeral. -/
theorem dec_val : ∀ (k : Nat) (l : List UInt8), l.length = k → l ≠ [] → (∀ c ∈ l, 48 ≤ c.toNat ∧ c.toNat ≤ 57) → (l.getD 0 0 = 48 → l.length = 1) → decDigits (valF 0 l) = l
  | 0, l, hk, h0, _, _ => absurd (List.eq_nil_of_length_eq_zero hk) h0
  | k + 1, l, hk, h0, hd, hz => by
    obtain ⟨l', c, rfl⟩ : ∃ l' c, l = l' ++ [c] := ⟨l.dropLast, l.getLast h0, (List.dropLast_concat_getLast h0).symm⟩
    have hc := hd c (by simp)
    have hv : valF 0 (l' ++ [c]) = valF 0 l' * 10 + (c.toNat - 48) := by simp [valF]
    rw [hv]
    cases l' with
    | nil =>
      show decDigits (0 * 10 + (c.toNat - 48)) = [c]
      rw [Nat.zero_mul, Nat.zero_add, decDigits, dif_pos (by omega), byte_of c hc.1]
    | cons a l'' =>
      have ha := hd a (by simp)
      have hne : a.toNat ≠ 48 := fun e => by
        have e' : a = 48 := by apply UInt8.toNat_inj.1; rw [e]; rfl
        have := hz (by simp [e'])
        simp at this
      have h1 : 1 ≤ valF 0 (a :: l'') := by
        have := valF_ge l'' (0 * 10 + (a.toNat - 48))
        show 1 ≤ valF (0 * 10 + (a.toNat - 48)) l''
        omega
      have ih := dec_val k (a :: l'') (by simpa using hk) (by simp) (fun x hx => hd x (by rw [List.mem_append]; exact .inl hx)) fun e => absurd (by simp at e; rw [e]; rfl) hne
      rw [decDigits, dif_neg (by omega), show (valF 0 (a :: l'') * 10 + (c.toNat - 48)) / 10 = valF 0 (a :: l'') by omega, ih, show (valF 0 (a :: l'') * 10 + (c.toNat - 48)) % 10 = c.toNat - 48 by omega, byte_of c hc.1]
theorem dec_ne (u : Nat) : decDigits u ≠ [] := by
  rw [decDigits]; split <;> simp
theorem dec_head (u : Nat) : 1 ≤ u → (decDigits u).getD 0 0 ≠ 48 := by
  induction u using Nat.strongRecOn with
  | _ u ih =>
    intro h1
    by_cases h : u < 10
    · rw [decDigits, dif_pos h]
      intro e
      have e' : (UInt8.ofNat (48 + u)).toNat = 48 := by rw [List.getD_cons_zero] at e; rw [e]; rfl
      rw [UInt8.toNat_ofNat', Nat.mod_eq_of_lt (by omega)] at e'
      omega
    · rw [decDigits, dif_neg h]
      have := ih (u / 10) (by omega) (by omega)
      cases hd : decDigits (u / 10) with
      | nil => exact absurd hd (dec_ne _)
      | cons a r => rw [hd] at this; simpa using this
theorem dec_dig (u : Nat) : ∀ c ∈ decDigits u, 48 ≤ c.toNat ∧ c.toNat ≤ 57 := by
  induction u using Nat.strongRecOn with
  | _ u ih =>
    intro c hc
    by_cases h : u < 10
    · rw [decDigits, dif_pos h] at hc
      simp only [List.mem_singleton] at hc
      rw [hc, UInt8.toNat_ofNat', Nat.mod_eq_of_lt (by omega)]
      omega
    · rw [decDigits, dif_neg h, List.mem_append] at hc
      rcases hc with hc | hc
      · exact ih (u / 10) (by omega) c hc
      · simp only [List.mem_singleton] at hc
        rw [hc, UInt8.toNat_ofNat', Nat.mod_eq_of_lt (by omega)]
        omega
/-- A row of at most 18 digits: parsed and spelled again. -/
theorem mag_eq (neg : Bool) (r : List UInt8) (hr : r.length ≤ 18) :
    magN neg r = match parseMag r with | .ok u => if decDigits u = r ∧ (neg = true → 1 ≤ u) then some u else none | _ => none := by
  unfold parseMag magN
  by_cases h0 : r = []
  · subst h0; simp
  · have hl : r.length ≠ 0 := fun e => h0 (List.eq_nil_of_length_eq_zero e)
    rw [if_neg h0, parse_dgV r 0 hr (Nat.pow_pos (by decide))]
    cases hd : dgV 0 r with
    | none => split <;> rfl
    | some u =>
      obtain ⟨h1, h2⟩ := dgV_val r 0 u hd
      simp only
      by_cases hz : r.getD 0 0 = 48 ∧ (1 < r.length ∨ neg = true)
      · rw [if_pos (by simp only [hz]; simp), if_neg]
        rintro ⟨e1, e2⟩
        by_cases hu : 1 ≤ u
        · exact dec_head u hu (by rw [e1]; exact hz.1)
        · have hu0 : u = 0 := by omega
          rcases hz.2 with h3 | h3
          · rw [← e1, hu0] at h3; simp [decDigits] at h3
          · exact hu (e2 h3)
      · rw [if_neg (by rintro (q | q | q); exact hl q; omega; exact hz q), if_pos]
        refine ⟨?_, fun hn => ?_⟩
        · rw [h2]
          exact dec_val r.length r rfl h0 h1 fun e => by
            have : ¬ 1 < r.length := fun q => hz ⟨e, .inl q⟩
            omega
        · have hne : r.getD 0 0 ≠ 48 := fun e => hz ⟨e, .inr hn⟩
          cases r with
          | nil => exact absurd rfl h0
          | cons a l =>
            have ha := h1 a (by simp)
            have : a.toNat ≠ 48 := fun e => hne (by simp; apply UInt8.toNat_inj.1; rw [e]; rfl)
            have := valF_ge l (0 * 10 + (a.toNat - 48))
            rw [h2]
            show 1 ≤ valF (0 * 10 + (a.toNat - 48)) l
            omega
theorem parseMag_lt18 {r : List UInt8} {u : Nat} (h : decDigits u = r) (hr : r.length ≤ 18) : u < 1000000000000000000 := by
  have h1 := lt_pow_nDigits u
  rw [← decDigits_length, h] at h1
  have h2 : 10 ^ r.length ≤ 10 ^ 18 := Nat.pow_le_pow_right (by decide) hr
  have : (10 : Nat) ^ 18 = 1000000000000000000 := by decide
  omega
theorem itoa_m (u : Nat) : itoa (-(u : Int)) = if u = 0 then [48] else 45 :: decDigits u := by
  unfold itoa
  by_cases h : u = 0
  · subst h; simp [decDigits]
  · rw [if_pos (by omega), if_neg h]; simp
theorem itoa_p (u : Nat) : itoa (u : Int) = decDigits u := by
  unfold itoa; rw [if_neg (by omega)]; simp
/-- The program's reading and the reference's are one. -/
theorem int_num (t : List UInt8) : intN t = numN t := by
  cases t with
  | nil => simp [intN, numN, atoiAll, magN]
  | cons c r =>
    by_cases h45 : c = 45
    · subst h45
      have hN : numN (45 :: r) = (magN true r).map fun m : Nat => -(m : Int) := by simp [numN]
      have hT : trimN (45 :: r) = r := by simp [trimN]
      rw [hN, intN, hT]
      by_cases hr : r.length ≤ 18
      · rw [mag_eq true r hr]
        have hA : atoiAll (45 :: r) = match parseMag r with | .ok u => if 9223372036854775808 < u then .range else .ok (-(u : Int)) | .range => .range | _ => atoiAll [] := by
          simp [atoiAll]; cases parseMag r <;> rfl
        rw [hA]
        cases hp : parseMag r
        rotate_left 1
        · rfl
        · rfl
        · rename_i u
          dsimp only
          by_cases hd : decDigits u = r ∧ (true = true → 1 ≤ u)
          · have hlt := parseMag_lt18 hd.1 hr
            rw [if_pos hd, if_neg (by omega)]
            dsimp only
            rw [if_neg]
            · rfl
            · have := hd.2 rfl
              rw [itoa_m, if_neg (by omega), hd.1]
              simp; omega
          · rw [if_neg hd]
            by_cases hb : 9223372036854775808 < u
            · rw [if_pos hb]; rfl
            · rw [if_neg hb]
              dsimp only
              rw [if_pos]
              · rfl
              · right
                rw [itoa_m]
                by_cases hu : u = 0
                · rw [if_pos hu]; simp
                · rw [if_neg hu]
                  intro e
                  exact hd ⟨by simpa using e, fun _ => by omega⟩
      · have hm : magN true r = none := by rw [magN, if_pos (.inr (.inl (by omega)))]
        rw [hm]
        cases atoiAll (45 :: r) with
        | ok n => simp only; rw [if_pos (.inl (by omega))]; rfl
        | range => rfl
        | _ => rfl
    · have hN : numN (c :: r) = (magN false (c :: r)).map fun m : Nat => (m : Int) := by simp [numN, h45]
      have hT : trimN (c :: r) = c :: r := by simp [trimN, h45]
      have hn45 : c.toNat ≠ 45 := fun e => h45 (UInt8.toNat_inj.1 (by rw [e]; rfl))
      rw [hN, intN, hT]
      by_cases hr : (c :: r).length ≤ 18
      · rw [mag_eq false (c :: r) hr]
        by_cases h43 : c.toNat = 43
        · have hp : parseMag (c :: r) = parseMag [] := by
            unfold parseMag
            rw [if_neg (by simp), if_pos rfl, parseUint10, if_neg (by omega)]
          rw [hp]
          cases hA : atoiAll (c :: r) with
          | ok n =>
            dsimp only
            rw [if_pos]
            · rfl
            · right
              intro e
              have hc : c ∈ itoa n := by rw [e]; simp
              unfold itoa at hc e
              by_cases hneg : n < 0
              · rw [if_pos hneg] at e
                have e1 := (List.cons.inj e).1
                rw [← e1] at h43; exact absurd h43 (by decide)
              · rw [if_neg hneg] at hc
                have := dec_dig _ c hc
                omega
          | range => rfl
          | _ => rfl
        · have hA : atoiAll (c :: r) = match parseMag (c :: r) with | .ok u => if 9223372036854775808 ≤ u then .range else .ok (u : Int) | .range => .range | _ => atoiAll [] := by
            simp [atoiAll, hn45, h43]; cases parseMag (c :: r) <;> rfl
          rw [hA]
          cases hp : parseMag (c :: r)
          rotate_left 1
          · rfl
          · rfl
          · rename_i u
            dsimp only
            by_cases hd : decDigits u = c :: r
            · have hlt := parseMag_lt18 hd hr
              rw [if_neg (show ¬ 9223372036854775808 ≤ u by omega), if_pos (show decDigits u = c :: r ∧ (false = true → 1 ≤ u) from ⟨hd, by simp⟩)]
              dsimp only
              rw [if_neg]
              · rfl
              · rw [itoa_p, hd]; simp only [List.length_cons] at hr ⊢; simp; omega
            · rw [if_neg (show ¬ (decDigits u = c :: r ∧ (false = true → 1 ≤ u)) from fun q => hd q.1)]
              by_cases hb : 9223372036854775808 ≤ u
              · rw [if_pos hb]; rfl
              · rw [if_neg hb]
                dsimp only
                rw [if_pos]
                · rfl
                · right; rw [itoa_p]; exact hd
      · have hm : magN false (c :: r) = none := by rw [magN, if_pos (.inr (.inl (by omega)))]
        rw [hm]
        cases atoiAll (c :: r) with
        | ok n => simp only; rw [if_pos (.inl (by omega))]; rfl
        | range => rfl
        | _ => rfl

end Go.Proofs.YtolgjekokdimoaaGreatDoor
end

