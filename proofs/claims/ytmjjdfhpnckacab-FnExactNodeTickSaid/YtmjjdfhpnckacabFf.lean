/-
  The contracts of the functions on views.
  Conditions: none.
-/
import Derived.Test.YtmjjdfhpnckacabFe
namespace Go.Proofs.Ytmjjdfhpnckacab
set_option maxRecDepth 100000
set_option linter.unusedSimpArgs false

/-- What is left behind some sizes. -/
def szG (f : PV → Int) (l : Int) : List PV → Int
  | [] => l
  | e :: es => if l - f e < 0 then -1 else szG f (l - f e) es
theorem szG_le {f : PV → Int} (hf : ∀ e, 0 ≤ f e) : ∀ {es : List PV} {l : Int}, 0 ≤ l → szG f l es ≤ l ∧ -1 ≤ szG f l es
  | [], l, h => ⟨Int.le_refl _, by simp [szG]; omega⟩
  | e :: es, l, h => by
    have := hf e
    simp only [szG]
    split
    · exact ⟨by omega, by omega⟩
    · have := szG_le hf (es := es) (l := l - f e) (by omega)
      omega
def szGs (f : PV → Int) (es : List PV) (l : Int) : Int := if l - es.length < 0 then -1 else szG f (l - es.length) es
theorem szGs_le {f : PV → Int} (hf : ∀ e, 0 ≤ f e) {es : List PV} {l : Int} (h : 0 ≤ l) : szGs f es l ≤ l ∧ -1 ≤ szGs f es l ∧ (0 ≤ szGs f es l → (es.length : Int) ≤ l) := by
  unfold szGs
  split
  · omega
  · have := szG_le hf (es := es) (l := l - es.length) (by omega)
    omega

def szR1 (l n : Int) : Int := if l - n < 0 then -1 else l - n
def rowLen (e : PV) : Int := (nth e.A 1).S.length
theorem rowLen_nn (e : PV) : 0 ≤ rowLen e := by unfold rowLen; omega

def c_szRow : FSpec := ⟨[(.rd, .agg [.int .i64, .str]), (.rd, .int .i64)], [.int .i64], true, fun ps => 0 ≤ (nth ps 1).I, fun ps => [.int .i64 (szR1 (nth ps 1).I (nth (nth ps 0).A 1).S.length)], fun _ => []⟩
def c_szRowS : FSpec := ⟨[(.rd, .list (.agg [.int .i64, .str])), (.rd, .int .i64)], [.int .i64], true, fun ps => 0 ≤ (nth ps 1).I, fun ps => [.int .i64 (szGs rowLen (nth ps 0).L (nth ps 1).I)], fun _ => []⟩
def c_szView : FSpec := ⟨[(.rd, .agg [.int .i64, .int .i64, .bool, .int .i64, .int .i64, .list (.agg [.int .i64, .str])]), (.rd, .int .i64)], [.int .i64], true, fun ps => 0 ≤ (nth ps 1).I, fun ps => [.int .i64 (szGs rowLen (nth (nth ps 0).A 5).L (nth ps 1).I)], fun _ => []⟩
def c_toRow : FSpec := ⟨[(.rd, .agg [.int .i64, .str])], [.agg [.int .i64, .str]], true, fun _ => True, fun ps => [nth ps 0], fun _ => []⟩
theorem row_eta {e : PV} (h : ∃ qs, e = .agg qs ∧ ∃ p r, qs = p :: r ∧ (∃ n, p = .int .i64 n ∧ inR .i64 n) ∧ ∃ p r', r = p :: r' ∧ (∃ l, p = .str l ∧ l.length ≤ LIM) ∧ r' = []) : PV.agg [.int .i64 (nth e.A 0).I, .str (nth e.A 1).S] = e := by
  obtain ⟨_, rfl, _, _, rfl, ⟨n, rfl, _⟩, _, _, rfl, ⟨l, rfl, _⟩, rfl⟩ := h
  rfl

def c_toRowS : FSpec := ⟨[(.rd, .list (.agg [.int .i64, .str]))], [.list (.agg [.int .i64, .str])], true, fun ps => (nth ps 0).L.length ≤ 1048576, fun ps => [.list (nth ps 0).L], fun _ => []⟩
def c_toView : FSpec := ⟨[(.rd, .agg [.int .i64, .int .i64, .bool, .int .i64, .int .i64, .list (.agg [.int .i64, .str])])], [.agg [.int .i64, .int .i64, .bool, .int .i64, .int .i64, .list (.agg [.int .i64, .str])]], true, fun ps => (nth (nth ps 0).A 5).L.length ≤ 1048576, fun ps => [nth ps 0], fun _ => []⟩
def eqRow1 (a b : List PV) : Bool := (nth a 0).I == (nth b 0).I && (nth a 1).S == (nth b 1).S
def eqRow2 (a b : PV) : Bool := eqRow1 a.A b.A
theorem eqRow2_refl (a : PV) : eqRow2 a a = true := by simp [eqRow2, eqRow1]
def c_eqRow : FSpec := ⟨[(.rd, .agg [.int .i64, .str]), (.rd, .agg [.int .i64, .str])], [.bool], true, fun _ => True, fun ps => [.bool (eqRow1 (nth ps 0).A (nth ps 1).A)], fun _ => []⟩
theorem k_eqRow : FnOk Try.prog 96 c_eqRow := by
  refine fn_mk [0, 1, 2, 3, 4] [.tmp 4] (env_nil (tyTab_ok [])) mixed Try.func96 rfl (by decide) rfl (by decide) rfl ?_
  intro ps hT hpre W hW
  simp only [c_eqRow, TyA, Ty, Tys] at hT hpre
  obtain ⟨_, _, rfl, ⟨_, rfl, _, _, rfl, ⟨y, rfl, hy⟩, _, _, rfl, ⟨c, rfl, hc⟩, rfl⟩, _, _, rfl, ⟨_, rfl, _, _, rfl, ⟨y', rfl, hy'⟩, _, _, rfl, ⟨c', rfl, hc'⟩, rfl⟩, rfl⟩ := hT
  refine hW.vc [] _ _ ?_
  simp [-List.getD_eq_getElem?_getD, nth_fold, nth_zero, nth_succ, pv_I, pv_B, pv_S, pv_L, pv_A, pv_at, lv_int, lv_bool, lv_str, lv_list, lv_agg, PTy.leaves, PTy.wd, inR, TI.sz, TI.pty, lk, set1, memB, anyB, kill, strike, stillH, unpath, still, prom, proms, dpB, dpAll, ndB, isNil, shOk, takeIn, takeOk, St.slot, ofConst1, ofConsts, ofConst, St.ev, SV.cells, SV.ofCells, SV.leafB, leafAll, fixL, zeroSV, zeroSVs, zeroLf, zeroLfs, zeroPV, resL, resLs, resB, resBs, resT, resTs, resEs, introL, noP, elP, introV, introVs, packV, binI, binS, imp, evs, closes, findFn, slsOf, slsAll, argLs, argsLs, pathOf, rdHs1, rdHsL, rdHs, rdsHs, rdOk, lendOk, backL, backs, ownersOf, allRd, soleMt, firstP, callRd, callPt, callOw, callOwn, callRes, idxs, oprs, fillSV, partsOk, convRes, viewE, viewA, pathE, pathA, sliceRes, evO, etaL, storeEl, loadEl, flatL, flatLs, flatB, leafD, leafDs, dataB, ownO, sameO, isStruct, aggOk, leafAt, srcOf, joinB, joinOk, appRes, copyTo, copyRes, builtinRes, loadHy, eqCs, lvsOf, opRes, nilRes, guardOf, csz, ksz, unwd, dstOk, putS, vcK, vwCall, skipR, stepD, vcD, growP, rdCall, convP, rn, entV, entVs, entR, entO, entH, hlts, domH, entA, entL, ent, itVal, hsV, hsVs, itSlots, itBoxes, dropL, hsL, hsA, onlyR, gcH, gcA, itReach, itLay, itSt, mr, mrs, itRho, itOk, introB, introBs, introR, introX, introT, introTs, lkAll, numb, resMs, retOk, mtTy, bxCs, mtSls, mtHs, finFr, finOf, SV.lt, SV.lts, IntKind.min, IntKind.max, IntKind.signed, IntKind.bits, LIM, ty3, T3_sz, T3_pty, T3, ty4, T4_sz, T4_pty, T4, ty9, T9_sz, T9_pty, T9, ty105, T105_sz, T105_pty, T105, c_eqRow]
  simp only [eqRow1, nth_zero, nth_succ, pv_I, pv_S]
  refine ⟨fun h1 => by simp [h1], fun h1 => ⟨fun h2 => by simp [h2], fun h2 => by simp [h1, h2]⟩⟩

def c_eqRowS : FSpec := ⟨[(.rd, .list (.agg [.int .i64, .str])), (.rd, .list (.agg [.int .i64, .str]))], [.bool], true, fun _ => True, fun ps => [.bool (eqL eqRow2 (nth ps 0).L (nth ps 1).L)], fun _ => []⟩
theorem k_eqRowS : FnOk Try.prog 50 c_eqRowS := by
  refine fn_mk [0, 1, 4, 5] [.tmp 4] (env_cons (cs := []) k_eqRow (env_nil (tyTab_ok []))) mixed Try.func50 rfl (by decide) rfl (by decide) rfl ?_
  intro ps hT hpre W hW
  simp only [c_eqRowS, TyA, Ty, Tys] at hT hpre
  obtain ⟨_, _, rfl, ⟨es, rfl, hes, tes⟩, _, _, rfl, ⟨es2, rfl, hes2, tes2⟩, rfl⟩ := hT
  refine hW.vc [(6, [], .take 0 <| .take 1 <| .take 2 <| .take 3 <| .take 4 <| .take 5 <| .take 6 <| .take 7 <| .alt 8 (.take 9 <| .done) .stop)] _ _ ?_
  simp [-List.getD_eq_getElem?_getD, nth_fold, nth_zero, nth_succ, pv_I, pv_B, pv_S, pv_L, pv_A, pv_at, lv_int, lv_bool, lv_str, lv_list, lv_agg, PTy.leaves, PTy.wd, inR, TI.sz, TI.pty, lk, set1, memB, anyB, kill, strike, stillH, unpath, still, prom, proms, dpB, dpAll, ndB, isNil, shOk, takeIn, takeOk, St.slot, ofConst1, ofConsts, ofConst, St.ev, SV.cells, SV.ofCells, SV.leafB, leafAll, fixL, zeroSV, zeroSVs, zeroLf, zeroLfs, zeroPV, resL, resLs, resB, resBs, resT, resTs, resEs, introL, noP, elP, introV, introVs, packV, binI, binS, imp, evs, closes, findFn, slsOf, slsAll, argLs, argsLs, pathOf, rdHs1, rdHsL, rdHs, rdsHs, rdOk, lendOk, backL, backs, ownersOf, allRd, soleMt, firstP, callRd, callPt, callOw, callOwn, callRes, idxs, oprs, fillSV, partsOk, convRes, viewE, viewA, pathE, pathA, sliceRes, evO, etaL, storeEl, loadEl, flatL, flatLs, flatB, leafD, leafDs, dataB, ownO, sameO, isStruct, aggOk, leafAt, srcOf, joinB, joinOk, appRes, copyTo, copyRes, builtinRes, loadHy, eqCs, lvsOf, opRes, nilRes, guardOf, csz, ksz, unwd, dstOk, putS, vcK, vwCall, skipR, stepD, vcD, growP, rdCall, convP, rn, entV, entVs, entR, entO, entH, hlts, domH, entA, entL, ent, itVal, hsV, hsVs, itSlots, itBoxes, dropL, hsL, hsA, onlyR, gcH, gcA, itReach, itLay, itSt, mr, mrs, itRho, itOk, introB, introBs, introR, introX, introT, introTs, lkAll, numb, resMs, retOk, mtTy, bxCs, mtSls, mtHs, finFr, finOf, SV.lt, SV.lts, IntKind.min, IntKind.max, IntKind.signed, IntKind.bits, LIM, ty3, T3_sz, T3_pty, T3, ty4, T4_sz, T4_pty, T4, ty9, T9_sz, T9_pty, T9, ty23, T23_sz, T23_pty, T23, ty105, T105_sz, T105_pty, T105, c_eqRowS, c_eqRow]
  refine fun h1 h2 => ⟨fun h3 => eqL_len (by omega), fun h3 => ?_⟩
  refine hW.loopS _ _ _ [.sl 5 .dp (.int .i64)] (fun ys => ∃ i : Nat, ys = [.int .i64 i] ∧ i ≤ es.length ∧ eqL eqRow2 es es2 = eqL eqRow2 (es.drop i) (es2.drop i)) (fun ys => es.length - (nth ys 0).I.toNat) ?_ ?_
  · simp [-List.getD_eq_getElem?_getD, nth_fold, nth_zero, nth_succ, pv_I, pv_B, pv_S, pv_L, pv_A, pv_at, lv_int, lv_bool, lv_str, lv_list, lv_agg, PTy.leaves, PTy.wd, inR, TI.sz, TI.pty, lk, set1, memB, anyB, kill, strike, stillH, unpath, still, prom, proms, dpB, dpAll, ndB, isNil, shOk, takeIn, takeOk, St.slot, ofConst1, ofConsts, ofConst, St.ev, SV.cells, SV.ofCells, SV.leafB, leafAll, fixL, zeroSV, zeroSVs, zeroLf, zeroLfs, zeroPV, resL, resLs, resB, resBs, resT, resTs, resEs, introL, noP, elP, introV, introVs, packV, binI, binS, imp, evs, closes, findFn, slsOf, slsAll, argLs, argsLs, pathOf, rdHs1, rdHsL, rdHs, rdsHs, rdOk, lendOk, backL, backs, ownersOf, allRd, soleMt, firstP, callRd, callPt, callOw, callOwn, callRes, idxs, oprs, fillSV, partsOk, convRes, viewE, viewA, pathE, pathA, sliceRes, evO, etaL, storeEl, loadEl, flatL, flatLs, flatB, leafD, leafDs, dataB, ownO, sameO, isStruct, aggOk, leafAt, srcOf, joinB, joinOk, appRes, copyTo, copyRes, builtinRes, loadHy, eqCs, lvsOf, opRes, nilRes, guardOf, csz, ksz, unwd, dstOk, putS, vcK, vwCall, skipR, stepD, vcD, growP, rdCall, convP, rn, entV, entVs, entR, entO, entH, hlts, domH, entA, entL, ent, itVal, hsV, hsVs, itSlots, itBoxes, dropL, hsL, hsA, onlyR, gcH, gcA, itReach, itLay, itSt, mr, mrs, itRho, itOk, introB, introBs, introR, introX, introT, introTs, lkAll, numb, resMs, retOk, mtTy, bxCs, mtSls, mtHs, finFr, finOf, SV.lt, SV.lts, IntKind.min, IntKind.max, IntKind.signed, IntKind.bits, LIM, ty3, T3_sz, T3_pty, T3, ty4, T4_sz, T4_pty, T4, ty9, T9_sz, T9_pty, T9, ty23, T23_sz, T23_pty, T23, ty105, T105_sz, T105_pty, T105, c_eqRowS, c_eqRow]
    exact ⟨0, rfl, by simp, by simp⟩
  · rintro ys ⟨i, rfl, h4, h5⟩
    refine hW.vc [(6, [], .take 0 <| .take 1 <| .take 2 <| .take 3 <| .take 4 <| .take 5 <| .take 6 <| .take 7 <| .alt 8 (.take 9 <| .done) .stop)] _ _ ?_
    simp [-List.getD_eq_getElem?_getD, nth_fold, nth_zero, nth_succ, pv_I, pv_B, pv_S, pv_L, pv_A, pv_at, lv_int, lv_bool, lv_str, lv_list, lv_agg, PTy.leaves, PTy.wd, inR, TI.sz, TI.pty, lk, set1, memB, anyB, kill, strike, stillH, unpath, still, prom, proms, dpB, dpAll, ndB, isNil, shOk, takeIn, takeOk, St.slot, ofConst1, ofConsts, ofConst, St.ev, SV.cells, SV.ofCells, SV.leafB, leafAll, fixL, zeroSV, zeroSVs, zeroLf, zeroLfs, zeroPV, resL, resLs, resB, resBs, resT, resTs, resEs, introL, noP, elP, introV, introVs, packV, binI, binS, imp, evs, closes, findFn, slsOf, slsAll, argLs, argsLs, pathOf, rdHs1, rdHsL, rdHs, rdsHs, rdOk, lendOk, backL, backs, ownersOf, allRd, soleMt, firstP, callRd, callPt, callOw, callOwn, callRes, idxs, oprs, fillSV, partsOk, convRes, viewE, viewA, pathE, pathA, sliceRes, evO, etaL, storeEl, loadEl, flatL, flatLs, flatB, leafD, leafDs, dataB, ownO, sameO, isStruct, aggOk, leafAt, srcOf, joinB, joinOk, appRes, copyTo, copyRes, builtinRes, loadHy, eqCs, lvsOf, opRes, nilRes, guardOf, csz, ksz, unwd, dstOk, putS, vcK, vwCall, skipR, stepD, vcD, growP, rdCall, convP, rn, entV, entVs, entR, entO, entH, hlts, domH, entA, entL, ent, itVal, hsV, hsVs, itSlots, itBoxes, dropL, hsL, hsA, onlyR, gcH, gcA, itReach, itLay, itSt, mr, mrs, itRho, itOk, introB, introBs, introR, introX, introT, introTs, lkAll, numb, resMs, retOk, mtTy, bxCs, mtSls, mtHs, finFr, finOf, SV.lt, SV.lts, IntKind.min, IntKind.max, IntKind.signed, IntKind.bits, LIM, ty3, T3_sz, T3_pty, T3, ty4, T4_sz, T4_pty, T4, ty9, T9_sz, T9_pty, T9, ty23, T23_sz, T23_pty, T23, ty105, T105_sz, T105_pty, T105, c_eqRowS, c_eqRow]
    refine fun _ => ⟨fun h6 => ⟨by decide +kernel, h6, fun _ _ _ => ⟨by omega, fun _ _ _ => ?_⟩⟩, fun h6 => ?_⟩
    · rw [drop_nth h6, drop_nth (by omega : i < es2.length), eqL] at h5
      have h8 : eqRow1 [PV.int IntKind.i64 (nth (nth es i).A 0).I, PV.str (nth (nth es i).A 1).S] [PV.int IntKind.i64 (nth (nth es2 i).A 0).I, PV.str (nth (nth es2 i).A 1).S] = eqRow2 (nth es i) (nth es2 i) := rfl
      rw [wrap64 (by omega), h8]
      refine ⟨fun h7 => by rw [h5]; simp [h7], fun h7 => ⟨⟨i + 1, by omega, by omega, by rw [h5]; simp [h7]⟩, by omega⟩⟩
    · rw [h5, List.drop_eq_nil_of_le h6, List.drop_eq_nil_of_le (by omega)]; rfl

def eqVw (a b : List PV) : Bool := (nth a 0).I == (nth b 0).I && (nth a 1).I == (nth b 1).I && (nth a 2).B == (nth b 2).B && (nth a 3).I == (nth b 3).I && (nth a 4).I == (nth b 4).I && eqL eqRow2 (nth a 5).L (nth b 5).L
def c_eqView : FSpec := ⟨[(.rd, .agg [.int .i64, .int .i64, .bool, .int .i64, .int .i64, .list (.agg [.int .i64, .str])]), (.rd, .agg [.int .i64, .int .i64, .bool, .int .i64, .int .i64, .list (.agg [.int .i64, .str])])], [.bool], true, fun _ => True, fun ps => [.bool (eqVw (nth ps 0).A (nth ps 1).A)], fun _ => []⟩
theorem k_eqView : FnOk Try.prog 11 c_eqView := by
  refine fn_mk [0, 1, 2, 3, 4] [.tmp 4] (env_cons (cs := []) k_eqRowS (env_nil (tyTab_ok []))) mixed Try.func11 rfl (by decide) rfl (by decide) rfl ?_
  intro ps hT hpre W hW
  simp only [c_eqView, TyA, Ty, Tys] at hT hpre
  obtain ⟨_, _, rfl, ⟨_, rfl, _, _, rfl, ⟨n, rfl, hn⟩, _, _, rfl, ⟨f, rfl, hf⟩, _, _, rfl, ⟨u, rfl⟩, _, _, rfl, ⟨w, rfl, hw⟩, _, _, rfl, ⟨h, rfl, hh⟩, _, _, rfl, ⟨es, rfl, hes, tes⟩, rfl⟩, _, _, rfl, ⟨_, rfl, _, _, rfl, ⟨n', rfl, hn'⟩, _, _, rfl, ⟨f', rfl, hf'⟩, _, _, rfl, ⟨u', rfl⟩, _, _, rfl, ⟨w', rfl, hw'⟩, _, _, rfl, ⟨h', rfl, hh'⟩, _, _, rfl, ⟨es', rfl, hes', tes'⟩, rfl⟩, rfl⟩ := hT
  refine hW.vc [] _ _ ?_
  simp [-List.getD_eq_getElem?_getD, nth_fold, nth_zero, nth_succ, pv_I, pv_B, pv_S, pv_L, pv_A, pv_at, lv_int, lv_bool, lv_str, lv_list, lv_agg, PTy.leaves, PTy.wd, inR, TI.sz, TI.pty, lk, set1, memB, anyB, kill, strike, stillH, unpath, still, prom, proms, dpB, dpAll, ndB, isNil, shOk, takeIn, takeOk, St.slot, ofConst1, ofConsts, ofConst, St.ev, SV.cells, SV.ofCells, SV.leafB, leafAll, fixL, zeroSV, zeroSVs, zeroLf, zeroLfs, zeroPV, resL, resLs, resB, resBs, resT, resTs, resEs, introL, noP, elP, introV, introVs, packV, binI, binS, imp, evs, closes, findFn, slsOf, slsAll, argLs, argsLs, pathOf, rdHs1, rdHsL, rdHs, rdsHs, rdOk, lendOk, backL, backs, ownersOf, allRd, soleMt, firstP, callRd, callPt, callOw, callOwn, callRes, idxs, oprs, fillSV, partsOk, convRes, viewE, viewA, pathE, pathA, sliceRes, evO, etaL, storeEl, loadEl, flatL, flatLs, flatB, leafD, leafDs, dataB, ownO, sameO, isStruct, aggOk, leafAt, srcOf, joinB, joinOk, appRes, copyTo, copyRes, builtinRes, loadHy, eqCs, lvsOf, opRes, nilRes, guardOf, csz, ksz, unwd, dstOk, putS, vcK, vwCall, skipR, stepD, vcD, growP, rdCall, convP, rn, entV, entVs, entR, entO, entH, hlts, domH, entA, entL, ent, itVal, hsV, hsVs, itSlots, itBoxes, dropL, hsL, hsA, onlyR, gcH, gcA, itReach, itLay, itSt, mr, mrs, itRho, itOk, introB, introBs, introR, introX, introT, introTs, lkAll, numb, resMs, retOk, mtTy, bxCs, mtSls, mtHs, finFr, finOf, SV.lt, SV.lts, IntKind.min, IntKind.max, IntKind.signed, IntKind.bits, LIM, ty3, T3_sz, T3_pty, T3, ty4, T4_sz, T4_pty, T4, ty9, T9_sz, T9_pty, T9, ty23, T23_sz, T23_pty, T23, ty25, T25_sz, T25_pty, T25, ty105, T105_sz, T105_pty, T105, c_eqView, c_eqRowS]
  simp only [eqVw, nth_zero, nth_succ, pv_I, pv_B, pv_L]
  exact ⟨fun q1 => by simp [q1], fun q1 => ⟨fun q2 => by simp [q2], fun q2 => ⟨fun q3 => by simp [q3], fun q3 => ⟨fun q4 => by simp [q4], fun q4 => ⟨fun q5 => by simp [q5], fun q5 => ⟨fun q6 => by simp [q6], fun q6 => by simp [q1, q2, q3, q4, q5, q6]⟩⟩⟩⟩⟩⟩

/-- Rows that rise, each of all its cells. -/
def upB (w h : Int) (p : Int) : List PV → Bool
  | [] => true
  | e :: es => inB (nth e.A 0).I 0 (h - 1) && decide (p < (nth e.A 0).I) && rowB (nth e.A 1).S w && upB w h (nth e.A 0).I es
def leB (a b : Int) : Bool := decide (a ≤ b)
def selB (c a b : Bool) : Bool := (c && a) || (!c && b)
def viewB (v : List PV) : Bool :=
  inB (nth v 0).I 0 60 && sizeB (nth v 3).I (nth v 4).I && leB (nth v 5).L.length (nth v 4).I && upB (nth v 3).I (nth v 4).I (-1) (nth v 5).L &&
    selB (nth v 2).B ((nth v 1).I == 0 && ((nth v 5).L.length : Int) == (nth v 4).I) (inB (nth v 1).I 0 ((nth v 0).I - 1))
/-- The row ahead of place i. -/
def pvY (es : List PV) (i : Nat) : Int := if i = 0 then -1 else (nth (nth es (i - 1)).A 0).I

theorem view_no {n f w h : Int} {u : Bool} {es : List PV} (h2 : (inB n 0 60 = false ∨ sizeB w h = false) ∨ h < es.length) : viewB [.int .i64 n, .int .i64 f, .bool u, .int .i64 w, .int .i64 h, .list es] = false := by
  simp only [viewB, nth_zero, nth_succ, pv_I, pv_L]
  rcases h2 with (h2 | h2) | h2
  · simp [h2]
  · simp [h2]
  · have : ¬ (es.length : Int) ≤ h := by omega
    simp [this, leB]
theorem view_eq {n f w h : Int} {u : Bool} {es : List PV} (h2 : inB n 0 60 = true) (h3 : sizeB w h = true) (h4 : (es.length : Int) ≤ h) : (2 ≤ w ∧ w ≤ 24 ∧ 2 ≤ h ∧ h ≤ 10) ∧
    viewB [.int .i64 n, .int .i64 f, .bool u, .int .i64 w, .int .i64 h, .list es] = (upB w h (-1) es && selB u (f == 0 && (es.length : Int) == h) (inB f 0 (n - 1))) := by
  refine ⟨by simp [sizeB, inB] at h3; omega, ?_⟩
  simp [viewB, nth_zero, nth_succ, pv_I, pv_L, pv_B, h2, h3, h4, leB]
theorem pvY_succ (es : List PV) (i : Nat) : pvY es (i + 1) = (nth (nth es i).A 0).I := by simp [pvY]
theorem pvY_pos {es : List PV} {i : Nat} (h : 0 < i) : pvY es i = (nth (nth es (i - 1)).A 0).I := by rw [pvY, if_neg (by omega)]
theorem pvY_lt {es : List PV} {i : Nat} {y h : Int} (h1 : inB y 0 h = true) (h2 : 0 < i → (nth (nth es (i - 1)).A 0).I < y) : pvY es i < y := by
  by_cases h0 : 0 < i
  · rw [pvY_pos h0]; exact h2 h0
  · have : pvY es i = -1 := by rw [pvY, if_pos (by omega)]
    rw [this]
    simp [inB] at h1; omega

def c_isView : FSpec := ⟨[(.rd, .agg [.int .i64, .int .i64, .bool, .int .i64, .int .i64, .list (.agg [.int .i64, .str])])], [.bool], true, fun _ => True, fun ps => [.bool (viewB (nth ps 0).A)], fun _ => []⟩
theorem k_isView : FnOk Try.prog 86 c_isView := by
  refine fn_mk [0, 1, 2, 3, 4, 26, 27, 28] [.tmp 2] (env_cons (cs := []) k_isRow (env_cons (cs := []) k_within (env_cons (cs := []) k_isSize (env_cons (cs := []) k_isNumber (env_nil (tyTab_ok [])))))) mixed Try.func86 rfl (by decide) rfl (by decide) rfl ?_
  intro ps hT hpre W hW
  simp only [c_isView, TyA, Ty, Tys] at hT hpre
  obtain ⟨_, _, rfl, ⟨_, rfl, _, _, rfl, ⟨n, rfl, hn⟩, _, _, rfl, ⟨f, rfl, hf⟩, _, _, rfl, ⟨u, rfl⟩, _, _, rfl, ⟨w, rfl, hw⟩, _, _, rfl, ⟨h, rfl, hh⟩, _, _, rfl, ⟨es, rfl, hes, tes⟩, rfl⟩, rfl⟩ := hT
  refine hW.vc [(6, [], .take 0 <| .take 1 <| .take 2 <| .take 3 <| .take 4 <| .alt 5 (.take 6 <| .take 7 <| .take 8 <| .take 9 <| .take 10 <| .take 11 <| .take 12 <| .take 13 <| .take 14 <| .take 15 <| .take 16 <| .take 17 <| .take 18 <| .take 19 <| .take 20 <| .take 21 <| .take 22 <| .take 23 <| .take 24 <| .take 25 <| .take 26 <| .take 27 <| .alt 28 (.take 29 <| .take 30 <| .done) .stop) .stop)] _ _ ?_
  simp [-List.getD_eq_getElem?_getD, nth_fold, nth_zero, nth_succ, pv_I, pv_B, pv_S, pv_L, pv_A, pv_at, lv_int, lv_bool, lv_str, lv_list, lv_agg, PTy.leaves, PTy.wd, inR, TI.sz, TI.pty, lk, set1, memB, anyB, kill, strike, stillH, unpath, still, prom, proms, dpB, dpAll, ndB, isNil, shOk, takeIn, takeOk, St.slot, ofConst1, ofConsts, ofConst, St.ev, SV.cells, SV.ofCells, SV.leafB, leafAll, fixL, zeroSV, zeroSVs, zeroLf, zeroLfs, zeroPV, resL, resLs, resB, resBs, resT, resTs, resEs, introL, noP, elP, introV, introVs, packV, binI, binS, imp, evs, closes, findFn, slsOf, slsAll, argLs, argsLs, pathOf, rdHs1, rdHsL, rdHs, rdsHs, rdOk, lendOk, backL, backs, ownersOf, allRd, soleMt, firstP, callRd, callPt, callOw, callOwn, callRes, idxs, oprs, fillSV, partsOk, convRes, viewE, viewA, pathE, pathA, sliceRes, evO, etaL, storeEl, loadEl, flatL, flatLs, flatB, leafD, leafDs, dataB, ownO, sameO, isStruct, aggOk, leafAt, srcOf, joinB, joinOk, appRes, copyTo, copyRes, builtinRes, loadHy, eqCs, lvsOf, opRes, nilRes, guardOf, csz, ksz, unwd, dstOk, putS, vcK, vwCall, skipR, stepD, vcD, growP, rdCall, convP, rn, entV, entVs, entR, entO, entH, hlts, domH, entA, entL, ent, itVal, hsV, hsVs, itSlots, itBoxes, dropL, hsL, hsA, onlyR, gcH, gcA, itReach, itLay, itSt, mr, mrs, itRho, itOk, introB, introBs, introR, introX, introT, introTs, lkAll, numb, resMs, retOk, mtTy, bxCs, mtSls, mtHs, finFr, finOf, SV.lt, SV.lts, IntKind.min, IntKind.max, IntKind.signed, IntKind.bits, LIM, ty3, T3_sz, T3_pty, T3, ty4, T4_sz, T4_pty, T4, ty9, T9_sz, T9_pty, T9, ty23, T23_sz, T23_pty, T23, ty25, T25_sz, T25_pty, T25, ty105, T105_sz, T105_pty, T105, c_isView, c_isNumber, c_isSize, c_within, c_isRow]
  intro h1
  refine ⟨view_no, fun h2 h3 h4 h5 => ?_⟩
  obtain ⟨h6, h7⟩ := view_eq (u := u) (f := f) h2 h3 h4
  refine hW.loopS _ _ _ [.sl 28 .dp (.int .i64)] (fun ys => ∃ i : Nat, ys = [.int .i64 i] ∧ i ≤ es.length ∧ upB w h (-1) es = upB w h (pvY es i) (es.drop i)) (fun ys => es.length - (nth ys 0).I.toNat) ?_ ?_
  · simp [-List.getD_eq_getElem?_getD, nth_fold, nth_zero, nth_succ, pv_I, pv_B, pv_S, pv_L, pv_A, pv_at, lv_int, lv_bool, lv_str, lv_list, lv_agg, PTy.leaves, PTy.wd, inR, TI.sz, TI.pty, lk, set1, memB, anyB, kill, strike, stillH, unpath, still, prom, proms, dpB, dpAll, ndB, isNil, shOk, takeIn, takeOk, St.slot, ofConst1, ofConsts, ofConst, St.ev, SV.cells, SV.ofCells, SV.leafB, leafAll, fixL, zeroSV, zeroSVs, zeroLf, zeroLfs, zeroPV, resL, resLs, resB, resBs, resT, resTs, resEs, introL, noP, elP, introV, introVs, packV, binI, binS, imp, evs, closes, findFn, slsOf, slsAll, argLs, argsLs, pathOf, rdHs1, rdHsL, rdHs, rdsHs, rdOk, lendOk, backL, backs, ownersOf, allRd, soleMt, firstP, callRd, callPt, callOw, callOwn, callRes, idxs, oprs, fillSV, partsOk, convRes, viewE, viewA, pathE, pathA, sliceRes, evO, etaL, storeEl, loadEl, flatL, flatLs, flatB, leafD, leafDs, dataB, ownO, sameO, isStruct, aggOk, leafAt, srcOf, joinB, joinOk, appRes, copyTo, copyRes, builtinRes, loadHy, eqCs, lvsOf, opRes, nilRes, guardOf, csz, ksz, unwd, dstOk, putS, vcK, vwCall, skipR, stepD, vcD, growP, rdCall, convP, rn, entV, entVs, entR, entO, entH, hlts, domH, entA, entL, ent, itVal, hsV, hsVs, itSlots, itBoxes, dropL, hsL, hsA, onlyR, gcH, gcA, itReach, itLay, itSt, mr, mrs, itRho, itOk, introB, introBs, introR, introX, introT, introTs, lkAll, numb, resMs, retOk, mtTy, bxCs, mtSls, mtHs, finFr, finOf, SV.lt, SV.lts, IntKind.min, IntKind.max, IntKind.signed, IntKind.bits, LIM, ty3, T3_sz, T3_pty, T3, ty4, T4_sz, T4_pty, T4, ty9, T9_sz, T9_pty, T9, ty23, T23_sz, T23_pty, T23, ty25, T25_sz, T25_pty, T25, ty105, T105_sz, T105_pty, T105, c_isView, c_isNumber, c_isSize, c_within, c_isRow]
    exact ⟨0, rfl, by simp, by simp [pvY]⟩
  · rintro ys ⟨i, rfl, g1, g2⟩
    refine hW.vc [(6, [], .take 0 <| .take 1 <| .take 2 <| .take 3 <| .take 4 <| .alt 5 (.take 6 <| .take 7 <| .take 8 <| .take 9 <| .take 10 <| .take 11 <| .take 12 <| .take 13 <| .take 14 <| .take 15 <| .take 16 <| .take 17 <| .take 18 <| .take 19 <| .take 20 <| .take 21 <| .take 22 <| .take 23 <| .take 24 <| .take 25 <| .take 26 <| .take 27 <| .alt 28 (.take 29 <| .take 30 <| .done) .stop) .stop)] _ _ ?_
    simp [-List.getD_eq_getElem?_getD, nth_fold, nth_zero, nth_succ, pv_I, pv_B, pv_S, pv_L, pv_A, pv_at, lv_int, lv_bool, lv_str, lv_list, lv_agg, PTy.leaves, PTy.wd, inR, TI.sz, TI.pty, lk, set1, memB, anyB, kill, strike, stillH, unpath, still, prom, proms, dpB, dpAll, ndB, isNil, shOk, takeIn, takeOk, St.slot, ofConst1, ofConsts, ofConst, St.ev, SV.cells, SV.ofCells, SV.leafB, leafAll, fixL, zeroSV, zeroSVs, zeroLf, zeroLfs, zeroPV, resL, resLs, resB, resBs, resT, resTs, resEs, introL, noP, elP, introV, introVs, packV, binI, binS, imp, evs, closes, findFn, slsOf, slsAll, argLs, argsLs, pathOf, rdHs1, rdHsL, rdHs, rdsHs, rdOk, lendOk, backL, backs, ownersOf, allRd, soleMt, firstP, callRd, callPt, callOw, callOwn, callRes, idxs, oprs, fillSV, partsOk, convRes, viewE, viewA, pathE, pathA, sliceRes, evO, etaL, storeEl, loadEl, flatL, flatLs, flatB, leafD, leafDs, dataB, ownO, sameO, isStruct, aggOk, leafAt, srcOf, joinB, joinOk, appRes, copyTo, copyRes, builtinRes, loadHy, eqCs, lvsOf, opRes, nilRes, guardOf, csz, ksz, unwd, dstOk, putS, vcK, vwCall, skipR, stepD, vcD, growP, rdCall, convP, rn, entV, entVs, entR, entO, entH, hlts, domH, entA, entL, ent, itVal, hsV, hsVs, itSlots, itBoxes, dropL, hsL, hsA, onlyR, gcH, gcA, itReach, itLay, itSt, mr, mrs, itRho, itOk, introB, introBs, introR, introX, introT, introTs, lkAll, numb, resMs, retOk, mtTy, bxCs, mtSls, mtHs, finFr, finOf, SV.lt, SV.lts, IntKind.min, IntKind.max, IntKind.signed, IntKind.bits, LIM, ty3, T3_sz, T3_pty, T3, ty4, T4_sz, T4_pty, T4, ty9, T9_sz, T9_pty, T9, ty23, T23_sz, T23_pty, T23, ty25, T25_sz, T25_pty, T25, ty105, T105_sz, T105_pty, T105, c_isView, c_isNumber, c_isSize, c_within, c_isRow]
    have k1 : IntKind.i64.wrap (h - 1) = h - 1 := wrap64 (by omega)
    simp only [k1]
    have k2 : 0 < i → (IntKind.i64.wrap ((i : Int) - 1)).toNat = i - 1 := fun h => by rw [wrap64 (by omega)]; omega
    have k3 : 0 < i → IntKind.i64.wrap ((i : Int) - 1) = i - 1 := fun h => wrap64 (by omega)
    refine ⟨fun g3 => ⟨g3, fun _ _ _ => ⟨by decide +kernel, fun g4 g5 => ⟨⟨g4, g5⟩, by rw [k3 g5]; omega⟩, fun g4 g5 => ⟨⟨g4, g5⟩, by rw [k2 g5]; omega⟩, fun _ => ⟨fun g4 => ⟨g4, fun g5 => ⟨g4, g5⟩⟩, fun _ _ => by omega, ?_⟩⟩⟩, ?_⟩
    · rw [drop_nth g3, upB] at g2
      have k4 : 0 < i → pvY es i = (nth (nth es (i - 1)).A 0).I := fun h => by rw [pvY, if_neg (by omega)]
      refine ⟨fun g4 => ?_, fun g4 g5 g6 => ?_⟩
      · rw [h7, g2]
        rcases g4 with (g4 | ⟨g4, g5⟩) | g4
        · simp [g4]
        · rw [k2 g4] at g5
          have : ¬ pvY es i < (nth (nth es i).A 0).I := by rw [k4 g4]; omega
          simp [this]
        · simp [g4]
      · rw [wrap64 (by omega)]
        have k5 : pvY es i < (nth (nth es i).A 0).I := by
          by_cases h0 : 0 < i
          · have := g5 h0
            rw [k2 h0] at this
            rw [k4 h0]; exact this
          · have : pvY es i = -1 := by rw [pvY, if_pos (by omega)]
            rw [this]
            simp [inB] at g4; omega
        refine ⟨⟨i + 1, by omega, by omega, ?_⟩, by omega⟩
        have k6 : pvY es (i + 1) = (nth (nth es i).A 0).I := by simp [pvY]
        rw [g2, g4, g6, k6]
        simp [k5]
    · intro g3
      rw [List.drop_eq_nil_of_le g3, upB] at g2
      have k5 : IntKind.i64.wrap (n - 1) = n - 1 := wrap64 (by simp [inB] at h2; omega)
      rw [h7, g2, k5]
      refine ⟨fun g4 _ => ?_, fun g4 => ?_⟩
      · subst g4
        rw [Bool.eq_iff_iff]; simp [selB]
      · subst g4
        simp [selB]

def c_iViewOK : FSpec := c_isView
end Go.Proofs.Ytmjjdfhpnckacab
