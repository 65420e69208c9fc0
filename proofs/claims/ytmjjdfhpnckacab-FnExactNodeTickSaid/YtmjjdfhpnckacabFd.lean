/-
  The contracts of the functions on rows of a view and on mirrors.
  Conditions: none.
-/
import Derived.Test.YtmjjdfhpnckacabFc
namespace Go.Proofs.Ytmjjdfhpnckacab
set_option maxRecDepth 100000
set_option linter.unusedSimpArgs false

def rowsB (es : List PV) (w h : Int) : Bool := decide ((es.length : Int) = h) && es.all fun e => rowB e.S w
/-- The first place from i on. -/
def idxGo (p : PV → Bool) (i : Nat) : List PV → Int
  | [] => -1
  | e :: es => if p e then (i : Int) else idxGo p (i + 1) es
theorem idxGo_any (p : PV → Bool) : ∀ (es : List PV) (i : Nat), decide (0 ≤ idxGo p i es) = es.any p
  | [], i => by simp [idxGo]
  | e :: es, i => by
    simp only [idxGo, List.any_cons]
    by_cases h : p e = true
    · simp [h]
    · simp [h, idxGo_any p es (i + 1)]

def wOk (w : Int) : Prop := 0 ≤ w ∧ w ≤ 1000

def c_areRows1 : FSpec := ⟨[(.rd, .str), (.rd, .box [.int .i64])], [.bool], true, fun ps => wOk (nth (nth ps 1).A 0).I, fun ps => [.bool (!rowB (nth ps 0).S (nth (nth ps 1).A 0).I)], fun _ => []⟩
def c_areRows : FSpec := ⟨[(.rd, .list .str), (.rd, .int .i64), (.rd, .int .i64)], [.bool], true, fun ps => wOk (nth ps 1).I, fun ps => [.bool (rowsB (nth ps 0).L (nth ps 1).I (nth ps 2).I)], fun _ => []⟩
theorem rowsB_len {es : List PV} {w h : Int} (hl : (es.length : Int) ≠ h) : rowsB es w h = false := by simp [rowsB, hl]

def c_l11Rows : FSpec := ⟨[(.rd, .int .i64), (.rd, .int .i64), (.rd, .list .str)], [.bool], true, fun ps => wOk (nth ps 0).I, fun ps => [.bool (rowsB (nth ps 2).L (nth ps 0).I (nth ps 1).I)], fun _ => []⟩
theorem k_l11Rows : FnOk Try.prog 83 c_l11Rows := by
  refine fn_mk [0, 1, 2, 6, 7] [.tmp 6] (env_cons (cs := []) k_l11Row (env_nil (tyTab_ok []))) mixed Try.func83 rfl (by decide) rfl (by decide) rfl ?_
  intro ps hT hpre W hW
  simp only [c_l11Rows, TyA, Ty, Tys] at hT hpre
  obtain ⟨_, _, rfl, ⟨w, rfl, hw⟩, _, _, rfl, ⟨h, rfl, hh⟩, _, _, rfl, ⟨es, rfl, he, hes⟩, rfl⟩ := hT
  simp only [nth_zero, nth_succ, pv_S, pv_I, pv_A] at hpre
  refine hW.vc [] _ _ ?_
  simp [-List.getD_eq_getElem?_getD, nth_fold, nth_zero, nth_succ, pv_I, pv_B, pv_S, pv_L, pv_A, pv_at, lv_int, lv_bool, lv_str, lv_list, lv_agg, PTy.leaves, PTy.wd, inR, TI.sz, TI.pty, lk, set1, memB, anyB, kill, strike, stillH, unpath, still, prom, proms, dpB, dpAll, ndB, isNil, shOk, takeIn, takeOk, St.slot, ofConst1, ofConsts, ofConst, St.ev, SV.cells, SV.ofCells, SV.leafB, leafAll, fixL, zeroSV, zeroSVs, zeroLf, zeroLfs, zeroPV, resL, resLs, resB, resBs, resT, resTs, resEs, introL, noP, elP, introV, introVs, packV, binI, binS, imp, evs, closes, findFn, slsOf, slsAll, argLs, argsLs, pathOf, rdHs1, rdHsL, rdHs, rdsHs, rdOk, lendOk, backL, backs, ownersOf, allRd, soleMt, firstP, callRd, callPt, callOw, callOwn, callRes, idxs, oprs, fillSV, partsOk, convRes, viewE, viewA, pathE, pathA, sliceRes, evO, etaL, storeEl, loadEl, flatL, flatLs, flatB, leafD, leafDs, dataB, ownO, sameO, isStruct, aggOk, leafAt, srcOf, joinB, joinOk, appRes, copyTo, copyRes, builtinRes, loadHy, eqCs, lvsOf, opRes, nilRes, guardOf, csz, ksz, unwd, dstOk, putS, vcK, vwCall, skipR, stepD, vcD, growP, rdCall, convP, rn, entV, entVs, entR, entO, entH, hlts, domH, entA, entL, ent, itVal, hsV, hsVs, itSlots, itBoxes, dropL, hsL, hsA, onlyR, gcH, gcA, itReach, itLay, itSt, mr, mrs, itRho, itOk, introB, introBs, introR, introX, introT, introTs, lkAll, numb, resMs, retOk, mtTy, bxCs, mtSls, mtHs, finFr, finOf, SV.lt, SV.lts, IntKind.min, IntKind.max, IntKind.signed, IntKind.bits, LIM, ty3, T3_sz, T3_pty, T3, ty4, T4_sz, T4_pty, T4, ty9, T9_sz, T9_pty, T9, ty59, T59_sz, T59_pty, T59, c_l11Rows, c_l11Row]
  refine fun h1 => ⟨fun h2 => rowsB_len h2, fun h2 => ?_⟩
  refine hW.loopS _ _ _ [.sl 7 .dp (.int .i64)] (fun ys => ∃ i : Nat, ys = [.int .i64 i] ∧ i ≤ es.length ∧ rowsB es w h = (es.drop i).all fun e => rowB e.S w) (fun ys => es.length - (nth ys 0).I.toNat) ?_ ?_
  · simp [-List.getD_eq_getElem?_getD, nth_fold, nth_zero, nth_succ, pv_I, pv_B, pv_S, pv_L, pv_A, pv_at, lv_int, lv_bool, lv_str, lv_list, lv_agg, PTy.leaves, PTy.wd, inR, TI.sz, TI.pty, lk, set1, memB, anyB, kill, strike, stillH, unpath, still, prom, proms, dpB, dpAll, ndB, isNil, shOk, takeIn, takeOk, St.slot, ofConst1, ofConsts, ofConst, St.ev, SV.cells, SV.ofCells, SV.leafB, leafAll, fixL, zeroSV, zeroSVs, zeroLf, zeroLfs, zeroPV, resL, resLs, resB, resBs, resT, resTs, resEs, introL, noP, elP, introV, introVs, packV, binI, binS, imp, evs, closes, findFn, slsOf, slsAll, argLs, argsLs, pathOf, rdHs1, rdHsL, rdHs, rdsHs, rdOk, lendOk, backL, backs, ownersOf, allRd, soleMt, firstP, callRd, callPt, callOw, callOwn, callRes, idxs, oprs, fillSV, partsOk, convRes, viewE, viewA, pathE, pathA, sliceRes, evO, etaL, storeEl, loadEl, flatL, flatLs, flatB, leafD, leafDs, dataB, ownO, sameO, isStruct, aggOk, leafAt, srcOf, joinB, joinOk, appRes, copyTo, copyRes, builtinRes, loadHy, eqCs, lvsOf, opRes, nilRes, guardOf, csz, ksz, unwd, dstOk, putS, vcK, vwCall, skipR, stepD, vcD, growP, rdCall, convP, rn, entV, entVs, entR, entO, entH, hlts, domH, entA, entL, ent, itVal, hsV, hsVs, itSlots, itBoxes, dropL, hsL, hsA, onlyR, gcH, gcA, itReach, itLay, itSt, mr, mrs, itRho, itOk, introB, introBs, introR, introX, introT, introTs, lkAll, numb, resMs, retOk, mtTy, bxCs, mtSls, mtHs, finFr, finOf, SV.lt, SV.lts, IntKind.min, IntKind.max, IntKind.signed, IntKind.bits, LIM, ty3, T3_sz, T3_pty, T3, ty4, T4_sz, T4_pty, T4, ty9, T9_sz, T9_pty, T9, ty59, T59_sz, T59_pty, T59, c_l11Rows, c_l11Row]
    exact ⟨0, rfl, by simp, by simp [rowsB, h2]⟩
  · rintro ys ⟨i, rfl, h3, h4⟩
    refine hW.vc [] _ _ ?_
    simp [-List.getD_eq_getElem?_getD, nth_fold, nth_zero, nth_succ, pv_I, pv_B, pv_S, pv_L, pv_A, pv_at, lv_int, lv_bool, lv_str, lv_list, lv_agg, PTy.leaves, PTy.wd, inR, TI.sz, TI.pty, lk, set1, memB, anyB, kill, strike, stillH, unpath, still, prom, proms, dpB, dpAll, ndB, isNil, shOk, takeIn, takeOk, St.slot, ofConst1, ofConsts, ofConst, St.ev, SV.cells, SV.ofCells, SV.leafB, leafAll, fixL, zeroSV, zeroSVs, zeroLf, zeroLfs, zeroPV, resL, resLs, resB, resBs, resT, resTs, resEs, introL, noP, elP, introV, introVs, packV, binI, binS, imp, evs, closes, findFn, slsOf, slsAll, argLs, argsLs, pathOf, rdHs1, rdHsL, rdHs, rdsHs, rdOk, lendOk, backL, backs, ownersOf, allRd, soleMt, firstP, callRd, callPt, callOw, callOwn, callRes, idxs, oprs, fillSV, partsOk, convRes, viewE, viewA, pathE, pathA, sliceRes, evO, etaL, storeEl, loadEl, flatL, flatLs, flatB, leafD, leafDs, dataB, ownO, sameO, isStruct, aggOk, leafAt, srcOf, joinB, joinOk, appRes, copyTo, copyRes, builtinRes, loadHy, eqCs, lvsOf, opRes, nilRes, guardOf, csz, ksz, unwd, dstOk, putS, vcK, vwCall, skipR, stepD, vcD, growP, rdCall, convP, rn, entV, entVs, entR, entO, entH, hlts, domH, entA, entL, ent, itVal, hsV, hsVs, itSlots, itBoxes, dropL, hsL, hsA, onlyR, gcH, gcA, itReach, itLay, itSt, mr, mrs, itRho, itOk, introB, introBs, introR, introX, introT, introTs, lkAll, numb, resMs, retOk, mtTy, bxCs, mtSls, mtHs, finFr, finOf, SV.lt, SV.lts, IntKind.min, IntKind.max, IntKind.signed, IntKind.bits, LIM, ty3, T3_sz, T3_pty, T3, ty4, T4_sz, T4_pty, T4, ty9, T9_sz, T9_pty, T9, ty59, T59_sz, T59_pty, T59, c_l11Rows, c_l11Row]
    refine ⟨fun h5 => ⟨by omega, fun _ => ⟨hpre, fun h6 => ?_, fun h6 => ?_⟩⟩, fun h5 => ?_⟩
    · rw [h4, drop_nth (by omega)]; simp [h6]
    · rw [wrap64 (by omega)]
      refine ⟨⟨i + 1, by omega, by omega, ?_⟩, by omega⟩
      rw [h4, drop_nth (by omega)]; simp [h6]
    · rw [h4, List.drop_eq_nil_of_le (by omega)]; rfl

def mirB (m : List PV) : Bool := if (nth m 0).I = -1 then decide ((nth m 1).I = 0) && decide ((nth m 2).I = 0) && decide ((nth m 3).L.length = 0) else inB (nth m 0).I 0 60 && sizeB (nth m 1).I (nth m 2).I && rowsB (nth m 3).L (nth m 1).I (nth m 2).I

theorem size_wOk {w h : Int} (hs : sizeB w h = true) : wOk w := by
  simp [sizeB, inB] at hs; unfold wOk; omega
theorem mir_fin {n w h : Int} {es : List PV} : (n = -1 → (w = 0 → h = 0 → es.length ≤ 140737488355328) → (decide (w = 0) && decide (h = 0) && (es.length : Int) == 0) = mirB [PV.int .i64 n, PV.int .i64 w, PV.int .i64 h, PV.list es]) ∧
    (¬n = -1 → (inB n 0 60 = true → sizeB w h = true → wOk w) ∧ (inB n 0 60 && sizeB w h && rowsB es w h) = mirB [PV.int .i64 n, PV.int .i64 w, PV.int .i64 h, PV.list es]) := by
  refine ⟨fun h1 _ => ?_, fun h1 => ⟨fun _ h2 => size_wOk h2, ?_⟩⟩
  · simp only [mirB, nth_zero, nth_succ, pv_I, pv_L, h1, if_true]
    congr 1
    rw [Bool.eq_iff_iff]; simp
  · simp [mirB, nth_zero, nth_succ, pv_I, pv_L, h1]

def c_isNumber : FSpec := ⟨[(.rd, .int .i64)], [.bool], true, fun _ => True, fun ps => [.bool (inB (nth ps 0).I 0 60)], fun _ => []⟩
theorem k_isNumber : FnOk Try.prog 132 c_isNumber := by
  refine fn_mk [0, 2] [.tmp 2] (env_cons (cs := []) k_within (env_nil (tyTab_ok []))) mixed Try.func132 rfl (by decide) rfl (by decide) rfl ?_
  intro ps hT hpre W hW
  simp only [c_isNumber, TyA, Ty, Tys] at hT hpre
  obtain ⟨_, _, rfl, ⟨a, rfl, ha⟩, rfl⟩ := hT
  refine hW.vc [] _ _ ?_
  simp [-List.getD_eq_getElem?_getD, nth_fold, nth_zero, nth_succ, pv_I, pv_B, pv_S, pv_L, pv_A, pv_at, lv_int, lv_bool, lv_str, lv_list, lv_agg, PTy.leaves, PTy.wd, inR, TI.sz, TI.pty, lk, set1, memB, anyB, kill, strike, stillH, unpath, still, prom, proms, dpB, dpAll, ndB, isNil, shOk, takeIn, takeOk, St.slot, ofConst1, ofConsts, ofConst, St.ev, SV.cells, SV.ofCells, SV.leafB, leafAll, fixL, zeroSV, zeroSVs, zeroLf, zeroLfs, zeroPV, resL, resLs, resB, resBs, resT, resTs, resEs, introL, noP, elP, introV, introVs, packV, binI, binS, imp, evs, closes, findFn, slsOf, slsAll, argLs, argsLs, pathOf, rdHs1, rdHsL, rdHs, rdsHs, rdOk, lendOk, backL, backs, ownersOf, allRd, soleMt, firstP, callRd, callPt, callOw, callOwn, callRes, idxs, oprs, fillSV, partsOk, convRes, viewE, viewA, pathE, pathA, sliceRes, evO, etaL, storeEl, loadEl, flatL, flatLs, flatB, leafD, leafDs, dataB, ownO, sameO, isStruct, aggOk, leafAt, srcOf, joinB, joinOk, appRes, copyTo, copyRes, builtinRes, loadHy, eqCs, lvsOf, opRes, nilRes, guardOf, csz, ksz, unwd, dstOk, putS, vcK, vwCall, skipR, stepD, vcD, growP, rdCall, convP, rn, entV, entVs, entR, entO, entH, hlts, domH, entA, entL, ent, itVal, hsV, hsVs, itSlots, itBoxes, dropL, hsL, hsA, onlyR, gcH, gcA, itReach, itLay, itSt, mr, mrs, itRho, itOk, introB, introBs, introR, introX, introT, introTs, lkAll, numb, resMs, retOk, mtTy, bxCs, mtSls, mtHs, finFr, finOf, SV.lt, SV.lts, IntKind.min, IntKind.max, IntKind.signed, IntKind.bits, LIM, ty3, T3_sz, T3_pty, T3, ty4, T4_sz, T4_pty, T4, c_isNumber, c_within]

def c_isMirror : FSpec := ⟨[(.rd, .agg [.int .i64, .int .i64, .int .i64, .list .str])], [.bool], true, fun _ => True, fun ps => [.bool (mirB (nth ps 0).A)], fun _ => []⟩
def c_MirrorOK : FSpec := c_isMirror
def c_sMirrorOK : FSpec := c_isMirror
end Go.Proofs.Ytmjjdfhpnckacab
