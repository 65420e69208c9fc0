/-
  The contracts of the laws' helpers that mark messages.
  Conditions: none.
-/
import Derived.Test.YtmjjdfhpnckacabFr
namespace Go.Proofs.Ytmjjdfhpnckacab
set_option maxRecDepth 100000
set_option linter.unusedSimpArgs false

def msN (e : PV) : Int := 8 + 2 * (nth e.A 8).L.length
def mod3 (k : Int) : Bool := k.tmod 3 == 0
def mkM (k : Int) (e : PV) : PV := .agg [.int .i64 k, .int .i64 (k + 1), .int .i64 (k + 2), .int .i64 (k + 3), .int .i64 (k + 4), .int .i64 (k + 5), .int .i64 (k + 6), .bool (mod3 (k + 7)), .list (markR (k + 8) (nth e.A 8).L.length)]
def sumMs (k : Int) : List PV → Int
  | [] => k
  | e :: es => sumMs (k + msN e) es
def markMs (k : Int) : List PV → List PV
  | [] => []
  | e :: es => mkM k e :: markMs (k + msN e) es
theorem sumMs_snoc (x : PV) : ∀ (es : List PV) (k : Int), sumMs k (es ++ [x]) = sumMs k es + msN x
  | [], k => rfl
  | e :: es, k => by simp only [List.cons_append, sumMs]; exact sumMs_snoc x es _
theorem markMs_snoc (x : PV) : ∀ (es : List PV) (k : Int), markMs k (es ++ [x]) = markMs k es ++ [mkM (sumMs k es) x]
  | [], k => rfl
  | e :: es, k => by simp only [List.cons_append, markMs, sumMs]; rw [markMs_snoc x es]
theorem markMs_len : ∀ (es : List PV) (k : Int), (markMs k es).length = es.length
  | [], k => rfl
  | e :: es, k => by simp only [markMs, List.length_cons, markMs_len es]
theorem sumMs_ge : ∀ (es : List PV) (k : Int), k ≤ sumMs k es
  | [], k => Int.le_refl _
  | e :: es, k => by have := sumMs_ge es (k + msN e); simp only [sumMs]; unfold msN at *; omega
theorem sumMs_take (es : List PV) (k : Int) {i : Nat} (h : i < es.length) : sumMs k (es.take i) + msN (nth es i) ≤ sumMs k es := by
  induction es generalizing k i with
  | nil => simp at h
  | cons e es ih =>
    cases i with
    | zero => rw [nth_zero]; exact sumMs_ge es (k + msN e)
    | succ i => rw [nth_succ]; exact ih (k + msN e) (by simpa using h)
/-- Twice marked is once marked. -/
theorem msN_mk (k : Int) (e : PV) : msN (mkM k e) = msN e := by simp [msN, mkM, nth_zero, nth_succ, pv_A, pv_L, markR_len]

def c_markMessageS : FSpec := ⟨[(.mt, .list (.agg [.int .i64, .int .i64, .int .i64, .int .i64, .int .i64, .int .i64, .int .i64, .bool, .list (.agg [.int .i64, .str])])), (.rd, .int .i64)], [.int .i64], true, fun ps => 0 ≤ (nth ps 1).I ∧ sumMs (nth ps 1).I (nth ps 0).L ≤ 1073741823, fun ps => [.int .i64 (sumMs (nth ps 1).I (nth ps 0).L)], fun ps => [.list (markMs (nth ps 1).I (nth ps 0).L)]⟩
theorem k_markMessageS : FnOk Try.prog 23 c_markMessageS := by
  refine fn_mk [0, 1, 4, 5] [.tmp 4] (env_cons (cs := []) k_markEntryS (env_nil (tyTab_ok []))) mixed Try.func23 rfl (by decide) rfl (by decide) rfl ?_
  intro ps hT hpre W hW
  simp only [c_markMessageS, TyA, Ty, Tys] at hT hpre
  obtain ⟨_, _, rfl, ⟨es, rfl, hes, tes⟩, _, _, rfl, ⟨k, rfl, hk⟩, rfl⟩ := hT
  simp only [nth_zero, nth_succ, pv_I, pv_L] at hpre
  refine hW.vc [] _ _ ?_
  simp [-List.getD_eq_getElem?_getD, nth_fold, nth_zero, nth_succ, pv_I, pv_B, pv_S, pv_L, pv_A, pv_at, lv_int, lv_bool, lv_str, lv_list, lv_agg, PTy.leaves, PTy.wd, inR, TI.sz, TI.pty, lk, set1, memB, anyB, kill, strike, stillH, unpath, still, prom, proms, dpB, dpAll, ndB, isNil, shOk, takeIn, takeOk, St.slot, ofConst1, ofConsts, ofConst, St.ev, SV.cells, SV.ofCells, SV.leafB, leafAll, fixL, zeroSV, zeroSVs, zeroLf, zeroLfs, zeroPV, resL, resLs, resB, resBs, resT, resTs, resEs, introL, noP, elP, introV, introVs, packV, binI, binS, imp, evs, closes, findFn, slsOf, slsAll, argLs, argsLs, pathOf, rdHs1, rdHsL, rdHs, rdsHs, rdOk, lendOk, backL, backs, ownersOf, allRd, soleMt, firstP, callRd, callPt, callOw, callOwn, callRes, idxs, oprs, fillSV, partsOk, convRes, viewE, viewA, pathE, pathA, sliceRes, evO, etaL, storeEl, loadEl, flatL, flatLs, flatB, leafD, leafDs, dataB, ownO, sameO, isStruct, aggOk, leafAt, srcOf, joinB, joinOk, appRes, copyTo, copyRes, builtinRes, loadHy, eqCs, lvsOf, opRes, nilRes, guardOf, csz, ksz, unwd, dstOk, putS, vcK, vwCall, skipR, stepD, vcD, growP, rdCall, convP, rn, entV, entVs, entR, entO, entH, hlts, domH, entA, entL, ent, itVal, hsV, hsVs, itSlots, itBoxes, dropL, hsL, hsA, onlyR, gcH, gcA, itReach, itLay, itSt, mr, mrs, itRho, itOk, introB, introBs, introR, introX, introT, introTs, lkAll, numb, resMs, retOk, mtTy, bxCs, mtSls, mtHs, finFr, finOf, SV.lt, SV.lts, IntKind.min, IntKind.max, IntKind.signed, IntKind.bits, LIM, ty3, T3_sz, T3_pty, T3, ty4, T4_sz, T4_pty, T4, ty9, T9_sz, T9_pty, T9, ty39, T39_sz, T39_pty, T39, ty42, T42_sz, T42_pty, T42, ty54, T54_sz, T54_pty, T54, ty128, T128_sz, T128_pty, T128, c_markMessageS, c_markEntryS]
  refine hW.loopS _ _ _ [.ar 0 (.agg [.int .i64, .int .i64, .int .i64, .int .i64, .int .i64, .int .i64, .int .i64, .bool, .list (.agg [.int .i64, .str])]), .sl 1 .dp (.int .i64), .sl 5 .dp (.int .i64)] (fun ys => ∃ i : Nat, ys = [.list (markMs k (es.take i) ++ es.drop i), .int .i64 (sumMs k (es.take i)), .int .i64 i] ∧ i ≤ es.length) (fun ys => es.length - (nth ys 2).I.toNat) ?_ ?_
  · simp [-List.getD_eq_getElem?_getD, nth_fold, nth_zero, nth_succ, pv_I, pv_B, pv_S, pv_L, pv_A, pv_at, lv_int, lv_bool, lv_str, lv_list, lv_agg, PTy.leaves, PTy.wd, inR, TI.sz, TI.pty, lk, set1, memB, anyB, kill, strike, stillH, unpath, still, prom, proms, dpB, dpAll, ndB, isNil, shOk, takeIn, takeOk, St.slot, ofConst1, ofConsts, ofConst, St.ev, SV.cells, SV.ofCells, SV.leafB, leafAll, fixL, zeroSV, zeroSVs, zeroLf, zeroLfs, zeroPV, resL, resLs, resB, resBs, resT, resTs, resEs, introL, noP, elP, introV, introVs, packV, binI, binS, imp, evs, closes, findFn, slsOf, slsAll, argLs, argsLs, pathOf, rdHs1, rdHsL, rdHs, rdsHs, rdOk, lendOk, backL, backs, ownersOf, allRd, soleMt, firstP, callRd, callPt, callOw, callOwn, callRes, idxs, oprs, fillSV, partsOk, convRes, viewE, viewA, pathE, pathA, sliceRes, evO, etaL, storeEl, loadEl, flatL, flatLs, flatB, leafD, leafDs, dataB, ownO, sameO, isStruct, aggOk, leafAt, srcOf, joinB, joinOk, appRes, copyTo, copyRes, builtinRes, loadHy, eqCs, lvsOf, opRes, nilRes, guardOf, csz, ksz, unwd, dstOk, putS, vcK, vwCall, skipR, stepD, vcD, growP, rdCall, convP, rn, entV, entVs, entR, entO, entH, hlts, domH, entA, entL, ent, itVal, hsV, hsVs, itSlots, itBoxes, dropL, hsL, hsA, onlyR, gcH, gcA, itReach, itLay, itSt, mr, mrs, itRho, itOk, introB, introBs, introR, introX, introT, introTs, lkAll, numb, resMs, retOk, mtTy, bxCs, mtSls, mtHs, finFr, finOf, SV.lt, SV.lts, IntKind.min, IntKind.max, IntKind.signed, IntKind.bits, LIM, ty3, T3_sz, T3_pty, T3, ty4, T4_sz, T4_pty, T4, ty9, T9_sz, T9_pty, T9, ty39, T39_sz, T39_pty, T39, ty42, T42_sz, T42_pty, T42, ty54, T54_sz, T54_pty, T54, ty128, T128_sz, T128_pty, T128, c_markMessageS, c_markEntryS]
    exact ⟨0, ⟨by simp [markMs], by simp [sumMs], rfl⟩, by omega⟩
  · rintro ys ⟨i, rfl, h2⟩
    by_cases h3 : i < es.length
    · have h4 : i < (markMs k (es.take i) ++ es.drop i).length := by rw [List.length_append, markMs_len, List.length_take, List.length_drop]; omega
      have h5 : (markMs k (es.take i) ++ es.drop i).length = es.length := by rw [List.length_append, markMs_len, List.length_take, List.length_drop]; omega
      obtain ⟨L, hL⟩ : ∃ L, L = markMs k (es.take i) ++ es.drop i := ⟨_, rfl⟩
      obtain ⟨K, hK⟩ : ∃ K, K = sumMs k (es.take i) := ⟨_, rfl⟩
      rw [← hL] at h4 h5
      rw [← hL, ← hK]
      have h6 : ∀ x, nth (L.set i x) i = x := fun x => nth_set h4
      refine hW.vc [] _ _ ?_
      simp [-List.getD_eq_getElem?_getD, nth_fold, nth_zero, nth_succ, pv_I, pv_B, pv_S, pv_L, pv_A, pv_at, lv_int, lv_bool, lv_str, lv_list, lv_agg, PTy.leaves, PTy.wd, inR, TI.sz, TI.pty, lk, set1, memB, anyB, kill, strike, stillH, unpath, still, prom, proms, dpB, dpAll, ndB, isNil, shOk, takeIn, takeOk, St.slot, ofConst1, ofConsts, ofConst, St.ev, SV.cells, SV.ofCells, SV.leafB, leafAll, fixL, zeroSV, zeroSVs, zeroLf, zeroLfs, zeroPV, resL, resLs, resB, resBs, resT, resTs, resEs, introL, noP, elP, introV, introVs, packV, binI, binS, imp, evs, closes, findFn, slsOf, slsAll, argLs, argsLs, pathOf, rdHs1, rdHsL, rdHs, rdsHs, rdOk, lendOk, backL, backs, ownersOf, allRd, soleMt, firstP, callRd, callPt, callOw, callOwn, callRes, idxs, oprs, fillSV, partsOk, convRes, viewE, viewA, pathE, pathA, sliceRes, evO, etaL, storeEl, loadEl, flatL, flatLs, flatB, leafD, leafDs, dataB, ownO, sameO, isStruct, aggOk, leafAt, srcOf, joinB, joinOk, appRes, copyTo, copyRes, builtinRes, loadHy, eqCs, lvsOf, opRes, nilRes, guardOf, csz, ksz, unwd, dstOk, putS, vcK, vwCall, skipR, stepD, vcD, growP, rdCall, convP, rn, entV, entVs, entR, entO, entH, hlts, domH, entA, entL, ent, itVal, hsV, hsVs, itSlots, itBoxes, dropL, hsL, hsA, onlyR, gcH, gcA, itReach, itLay, itSt, mr, mrs, itRho, itOk, introB, introBs, introR, introX, introT, introTs, lkAll, numb, resMs, retOk, mtTy, bxCs, mtSls, mtHs, finFr, finOf, SV.lt, SV.lts, IntKind.min, IntKind.max, IntKind.signed, IntKind.bits, LIM, ty3, T3_sz, T3_pty, T3, ty4, T4_sz, T4_pty, T4, ty9, T9_sz, T9_pty, T9, ty39, T39_sz, T39_pty, T39, ty42, T42_sz, T42_pty, T42, ty54, T54_sz, T54_pty, T54, ty128, T128_sz, T128_pty, T128, c_markMessageS, c_markEntryS, h6]
      have g1 := sumMs_take es k h3
      have g2 := sumMs_ge (es.take i) k
      rw [← hK] at g1 g2
      have g3 : nth L i = nth es i := by rw [hL, drop_nth h3]; simp [nth, List.getElem?_append_right, markMs_len, List.length_take, Nat.min_eq_left h2]
      have g4 : msN (nth es i) = 8 + 2 * (nth (nth es i).A 8).L.length := rfl
      rw [g3]
      have e1 : IntKind.i64.wrap (K + 1) = K + 1 := wrap64 (by omega)
      have e2 : IntKind.i64.wrap (K + 1 + 1) = K + 2 := by rw [wrap64 (by omega)]; omega
      have e3 : IntKind.i64.wrap (K + 2 + 1) = K + 3 := by rw [wrap64 (by omega)]; omega
      have e4 : IntKind.i64.wrap (K + 3 + 1) = K + 4 := by rw [wrap64 (by omega)]; omega
      have e5 : IntKind.i64.wrap (K + 4 + 1) = K + 5 := by rw [wrap64 (by omega)]; omega
      have e6 : IntKind.i64.wrap (K + 5 + 1) = K + 6 := by rw [wrap64 (by omega)]; omega
      have e7 : IntKind.i64.wrap (K + 6 + 1) = K + 7 := by rw [wrap64 (by omega)]; omega
      have e8 : IntKind.i64.wrap (K + 7 + 1) = K + 8 := by rw [wrap64 (by omega)]; omega
      have e9 : IntKind.i64.wrap ((i : Int) + 1) = (i : Int) + 1 := wrap64 (by rw [LIM] at hes; omega)
      simp only [e1, e2, e3, e4, e5, e6, e7, e8, e9]
      refine fun _ => ⟨fun _ => ⟨h4, fun _ => ⟨⟨by omega, by omega⟩, ⟨i + 1, ⟨?_, ?_, by omega⟩, by omega⟩, by omega⟩⟩, fun h => by omega⟩
      · rw [take_nth h3, markMs_snoc, hL]
        exact mark_step (by rw [markMs_len, List.length_take]; omega) h3 (by rw [hK]; rfl)
      · rw [take_nth h3, sumMs_snoc, ← hK, g4]; omega
    · have : i = es.length := by omega
      subst this
      have h4 : markMs k (es.take es.length) ++ es.drop es.length = markMs k es := by simp
      have h5 : (markMs k es).length = es.length := markMs_len es k
      rw [h4, List.take_length]
      obtain ⟨L, hL⟩ : ∃ L, L = markMs k es := ⟨_, rfl⟩
      rw [← hL] at h5 ⊢
      have h6 : ∀ x, nth (L.set es.length x) es.length = PV.d := fun x => by simp [nth, h5]
      refine hW.vc [] _ _ ?_
      simp [-List.getD_eq_getElem?_getD, nth_fold, nth_zero, nth_succ, pv_I, pv_B, pv_S, pv_L, pv_A, pv_at, lv_int, lv_bool, lv_str, lv_list, lv_agg, PTy.leaves, PTy.wd, inR, TI.sz, TI.pty, lk, set1, memB, anyB, kill, strike, stillH, unpath, still, prom, proms, dpB, dpAll, ndB, isNil, shOk, takeIn, takeOk, St.slot, ofConst1, ofConsts, ofConst, St.ev, SV.cells, SV.ofCells, SV.leafB, leafAll, fixL, zeroSV, zeroSVs, zeroLf, zeroLfs, zeroPV, resL, resLs, resB, resBs, resT, resTs, resEs, introL, noP, elP, introV, introVs, packV, binI, binS, imp, evs, closes, findFn, slsOf, slsAll, argLs, argsLs, pathOf, rdHs1, rdHsL, rdHs, rdsHs, rdOk, lendOk, backL, backs, ownersOf, allRd, soleMt, firstP, callRd, callPt, callOw, callOwn, callRes, idxs, oprs, fillSV, partsOk, convRes, viewE, viewA, pathE, pathA, sliceRes, evO, etaL, storeEl, loadEl, flatL, flatLs, flatB, leafD, leafDs, dataB, ownO, sameO, isStruct, aggOk, leafAt, srcOf, joinB, joinOk, appRes, copyTo, copyRes, builtinRes, loadHy, eqCs, lvsOf, opRes, nilRes, guardOf, csz, ksz, unwd, dstOk, putS, vcK, vwCall, skipR, stepD, vcD, growP, rdCall, convP, rn, entV, entVs, entR, entO, entH, hlts, domH, entA, entL, ent, itVal, hsV, hsVs, itSlots, itBoxes, dropL, hsL, hsA, onlyR, gcH, gcA, itReach, itLay, itSt, mr, mrs, itRho, itOk, introB, introBs, introR, introX, introT, introTs, lkAll, numb, resMs, retOk, mtTy, bxCs, mtSls, mtHs, finFr, finOf, SV.lt, SV.lts, IntKind.min, IntKind.max, IntKind.signed, IntKind.bits, LIM, ty3, T3_sz, T3_pty, T3, ty4, T4_sz, T4_pty, T4, ty9, T9_sz, T9_pty, T9, ty39, T39_sz, T39_pty, T39, ty42, T42_sz, T42_pty, T42, ty54, T54_sz, T54_pty, T54, ty128, T128_sz, T128_pty, T128, c_markMessageS, c_markEntryS, h6, h5]
      exact fun _ => hL

def heldM1 (k : Int) (e : PV) : Bool := (nth e.A 0).I == k && (nth e.A 1).I == k + 1 && (nth e.A 2).I == k + 2 && (nth e.A 3).I == k + 3 && (nth e.A 4).I == k + 4 && (nth e.A 5).I == k + 5 && (nth e.A 6).I == k + 6 && (nth e.A 7).B == mod3 (k + 7) && heldGo heldR1 2 (k + 8) (nth e.A 8).L == k + msN e
def heldMs (k : Int) : List PV → Int
  | [] => k
  | e :: es => if heldM1 k e then heldMs (k + msN e) es else -1
theorem heldMs_mark : ∀ (es : List PV) (k : Int), heldMs k (markMs k es) = sumMs k es
  | [], k => rfl
  | e :: es, k => by
    rw [markMs, heldMs, if_pos, msN_mk, heldMs_mark es, sumMs]
    rw [heldM1, msN_mk]
    simp [mkM, msN, nth_zero, nth_succ, pv_A, pv_I, pv_L, pv_B, heldR_mark]
    omega
def c_heldMessageS : FSpec := ⟨[(.rd, .list (.agg [.int .i64, .int .i64, .int .i64, .int .i64, .int .i64, .int .i64, .int .i64, .bool, .list (.agg [.int .i64, .str])])), (.rd, .int .i64)], [.int .i64], true, fun ps => 0 ≤ (nth ps 1).I ∧ sumMs (nth ps 1).I (nth ps 0).L ≤ 1073741823, fun ps => [.int .i64 (heldMs (nth ps 1).I (nth ps 0).L)], fun _ => []⟩
set_option maxHeartbeats 1000000 in
theorem k_heldMessageS : FnOk Try.prog 25 c_heldMessageS := by
  refine fn_mk [0, 1, 4, 5] [.tmp 4] (env_cons (cs := []) k_heldEntryS (env_nil (tyTab_ok []))) mixed Try.func25 rfl (by decide) rfl (by decide) rfl ?_
  intro ps hT hpre W hW
  simp only [c_heldMessageS, TyA, Ty, Tys] at hT hpre
  obtain ⟨_, _, rfl, ⟨es, rfl, hes, tes⟩, _, _, rfl, ⟨k, rfl, hk⟩, rfl⟩ := hT
  simp only [nth_zero, nth_succ, pv_I, pv_L] at hpre
  refine hW.vc [] _ _ ?_
  simp [-List.getD_eq_getElem?_getD, nth_fold, nth_zero, nth_succ, pv_I, pv_B, pv_S, pv_L, pv_A, pv_at, lv_int, lv_bool, lv_str, lv_list, lv_agg, PTy.leaves, PTy.wd, inR, TI.sz, TI.pty, lk, set1, memB, anyB, kill, strike, stillH, unpath, still, prom, proms, dpB, dpAll, ndB, isNil, shOk, takeIn, takeOk, St.slot, ofConst1, ofConsts, ofConst, St.ev, SV.cells, SV.ofCells, SV.leafB, leafAll, fixL, zeroSV, zeroSVs, zeroLf, zeroLfs, zeroPV, resL, resLs, resB, resBs, resT, resTs, resEs, introL, noP, elP, introV, introVs, packV, binI, binS, imp, evs, closes, findFn, slsOf, slsAll, argLs, argsLs, pathOf, rdHs1, rdHsL, rdHs, rdsHs, rdOk, lendOk, backL, backs, ownersOf, allRd, soleMt, firstP, callRd, callPt, callOw, callOwn, callRes, idxs, oprs, fillSV, partsOk, convRes, viewE, viewA, pathE, pathA, sliceRes, evO, etaL, storeEl, loadEl, flatL, flatLs, flatB, leafD, leafDs, dataB, ownO, sameO, isStruct, aggOk, leafAt, srcOf, joinB, joinOk, appRes, copyTo, copyRes, builtinRes, loadHy, eqCs, lvsOf, opRes, nilRes, guardOf, csz, ksz, unwd, dstOk, putS, vcK, vwCall, skipR, stepD, vcD, growP, rdCall, convP, rn, entV, entVs, entR, entO, entH, hlts, domH, entA, entL, ent, itVal, hsV, hsVs, itSlots, itBoxes, dropL, hsL, hsA, onlyR, gcH, gcA, itReach, itLay, itSt, mr, mrs, itRho, itOk, introB, introBs, introR, introX, introT, introTs, lkAll, numb, resMs, retOk, mtTy, bxCs, mtSls, mtHs, finFr, finOf, SV.lt, SV.lts, IntKind.min, IntKind.max, IntKind.signed, IntKind.bits, LIM, ty3, T3_sz, T3_pty, T3, ty4, T4_sz, T4_pty, T4, ty9, T9_sz, T9_pty, T9, ty39, T39_sz, T39_pty, T39, ty42, T42_sz, T42_pty, T42, ty54, T54_sz, T54_pty, T54, ty128, T128_sz, T128_pty, T128, c_heldMessageS, c_heldEntryS]
  refine hW.loopS _ _ _ [.sl 1 .dp (.int .i64), .sl 5 .dp (.int .i64)] (fun ys => ∃ i : Nat, ys = [.int .i64 (sumMs k (es.take i)), .int .i64 i] ∧ i ≤ es.length ∧ heldMs k es = heldMs (sumMs k (es.take i)) (es.drop i)) (fun ys => es.length - (nth ys 1).I.toNat) ?_ ?_
  · simp [-List.getD_eq_getElem?_getD, nth_fold, nth_zero, nth_succ, pv_I, pv_B, pv_S, pv_L, pv_A, pv_at, lv_int, lv_bool, lv_str, lv_list, lv_agg, PTy.leaves, PTy.wd, inR, TI.sz, TI.pty, lk, set1, memB, anyB, kill, strike, stillH, unpath, still, prom, proms, dpB, dpAll, ndB, isNil, shOk, takeIn, takeOk, St.slot, ofConst1, ofConsts, ofConst, St.ev, SV.cells, SV.ofCells, SV.leafB, leafAll, fixL, zeroSV, zeroSVs, zeroLf, zeroLfs, zeroPV, resL, resLs, resB, resBs, resT, resTs, resEs, introL, noP, elP, introV, introVs, packV, binI, binS, imp, evs, closes, findFn, slsOf, slsAll, argLs, argsLs, pathOf, rdHs1, rdHsL, rdHs, rdsHs, rdOk, lendOk, backL, backs, ownersOf, allRd, soleMt, firstP, callRd, callPt, callOw, callOwn, callRes, idxs, oprs, fillSV, partsOk, convRes, viewE, viewA, pathE, pathA, sliceRes, evO, etaL, storeEl, loadEl, flatL, flatLs, flatB, leafD, leafDs, dataB, ownO, sameO, isStruct, aggOk, leafAt, srcOf, joinB, joinOk, appRes, copyTo, copyRes, builtinRes, loadHy, eqCs, lvsOf, opRes, nilRes, guardOf, csz, ksz, unwd, dstOk, putS, vcK, vwCall, skipR, stepD, vcD, growP, rdCall, convP, rn, entV, entVs, entR, entO, entH, hlts, domH, entA, entL, ent, itVal, hsV, hsVs, itSlots, itBoxes, dropL, hsL, hsA, onlyR, gcH, gcA, itReach, itLay, itSt, mr, mrs, itRho, itOk, introB, introBs, introR, introX, introT, introTs, lkAll, numb, resMs, retOk, mtTy, bxCs, mtSls, mtHs, finFr, finOf, SV.lt, SV.lts, IntKind.min, IntKind.max, IntKind.signed, IntKind.bits, LIM, ty3, T3_sz, T3_pty, T3, ty4, T4_sz, T4_pty, T4, ty9, T9_sz, T9_pty, T9, ty39, T39_sz, T39_pty, T39, ty42, T42_sz, T42_pty, T42, ty54, T54_sz, T54_pty, T54, ty128, T128_sz, T128_pty, T128, c_heldMessageS, c_heldEntryS]
    exact ⟨0, ⟨by simp [sumMs], rfl⟩, by omega, by simp [sumMs]⟩
  · rintro ys ⟨i, rfl, h2, h3⟩
    refine hW.vc [] _ _ ?_
    simp [-List.getD_eq_getElem?_getD, nth_fold, nth_zero, nth_succ, pv_I, pv_B, pv_S, pv_L, pv_A, pv_at, lv_int, lv_bool, lv_str, lv_list, lv_agg, PTy.leaves, PTy.wd, inR, TI.sz, TI.pty, lk, set1, memB, anyB, kill, strike, stillH, unpath, still, prom, proms, dpB, dpAll, ndB, isNil, shOk, takeIn, takeOk, St.slot, ofConst1, ofConsts, ofConst, St.ev, SV.cells, SV.ofCells, SV.leafB, leafAll, fixL, zeroSV, zeroSVs, zeroLf, zeroLfs, zeroPV, resL, resLs, resB, resBs, resT, resTs, resEs, introL, noP, elP, introV, introVs, packV, binI, binS, imp, evs, closes, findFn, slsOf, slsAll, argLs, argsLs, pathOf, rdHs1, rdHsL, rdHs, rdsHs, rdOk, lendOk, backL, backs, ownersOf, allRd, soleMt, firstP, callRd, callPt, callOw, callOwn, callRes, idxs, oprs, fillSV, partsOk, convRes, viewE, viewA, pathE, pathA, sliceRes, evO, etaL, storeEl, loadEl, flatL, flatLs, flatB, leafD, leafDs, dataB, ownO, sameO, isStruct, aggOk, leafAt, srcOf, joinB, joinOk, appRes, copyTo, copyRes, builtinRes, loadHy, eqCs, lvsOf, opRes, nilRes, guardOf, csz, ksz, unwd, dstOk, putS, vcK, vwCall, skipR, stepD, vcD, growP, rdCall, convP, rn, entV, entVs, entR, entO, entH, hlts, domH, entA, entL, ent, itVal, hsV, hsVs, itSlots, itBoxes, dropL, hsL, hsA, onlyR, gcH, gcA, itReach, itLay, itSt, mr, mrs, itRho, itOk, introB, introBs, introR, introX, introT, introTs, lkAll, numb, resMs, retOk, mtTy, bxCs, mtSls, mtHs, finFr, finOf, SV.lt, SV.lts, IntKind.min, IntKind.max, IntKind.signed, IntKind.bits, LIM, ty3, T3_sz, T3_pty, T3, ty4, T4_sz, T4_pty, T4, ty9, T9_sz, T9_pty, T9, ty39, T39_sz, T39_pty, T39, ty42, T42_sz, T42_pty, T42, ty54, T54_sz, T54_pty, T54, ty128, T128_sz, T128_pty, T128, c_heldMessageS, c_heldEntryS]
    by_cases h4 : i < es.length
    · have g1 := sumMs_take es k h4
      have g2 := sumMs_ge (es.take i) k
      obtain ⟨K, hK⟩ : ∃ K, K = sumMs k (es.take i) := ⟨_, rfl⟩
      rw [← hK] at g1 g2 h3 ⊢
      have g4 : msN (nth es i) = 8 + 2 * (nth (nth es i).A 8).L.length := rfl
      rw [drop_nth h4, heldMs] at h3
      have no : heldM1 K (nth es i) = false → heldMs k es = -1 := fun q => by rw [h3, if_neg (by rw [q]; simp)]
      have e1 : IntKind.i64.wrap (K + 1) = K + 1 := wrap64 (by omega)
      have e2 : IntKind.i64.wrap (K + 1 + 1) = K + 2 := by rw [wrap64 (by omega)]; omega
      have e3 : IntKind.i64.wrap (K + 2 + 1) = K + 3 := by rw [wrap64 (by omega)]; omega
      have e4 : IntKind.i64.wrap (K + 3 + 1) = K + 4 := by rw [wrap64 (by omega)]; omega
      have e5 : IntKind.i64.wrap (K + 4 + 1) = K + 5 := by rw [wrap64 (by omega)]; omega
      have e6 : IntKind.i64.wrap (K + 5 + 1) = K + 6 := by rw [wrap64 (by omega)]; omega
      have e7 : IntKind.i64.wrap (K + 6 + 1) = K + 7 := by rw [wrap64 (by omega)]; omega
      have e8 : IntKind.i64.wrap (K + 7 + 1) = K + 8 := by rw [wrap64 (by omega)]; omega
      have e9 : IntKind.i64.wrap ((i : Int) + 1) = (i : Int) + 1 := wrap64 (by rw [LIM] at hes; omega)
      simp only [e1, e2, e3, e4, e5, e6, e7, e8, e9]
      have b1 : 0 ≤ K + 8 ∧ K + 8 + 2 * ((nth (nth es i).A 8).L.length : Int) ≤ 1073741823 := ⟨by omega, by omega⟩
      have a1 := held_le (f := heldR1) (d := 2) (by omega) (es := (nth (nth es i).A 8).L) (k := K + 8) (by omega)
      obtain ⟨H, hH⟩ : ∃ H, H = heldGo heldR1 2 (K + 8) (nth (nth es i).A 8).L := ⟨_, rfl⟩
      rw [← hH] at a1 ⊢
      have b2 : H < 0 → ¬ H = K + msN (nth es i) := fun _ => by omega
      have b3 : 0 ≤ H → H = K + msN (nth es i) := fun _ => by omega
      have b4 : es.length ≤ i → False := fun _ => by omega
      have b5 : (i : Int) + 1 = ((i + 1 : Nat) : Int) := rfl
      have b6 : i + 1 ≤ es.length := h4
      have b7 : es.length - ((i : Int) + 1).toNat < es.length - i := by omega
      refine fun _ => ⟨fun _ => ⟨h4, fun _ => ⟨fun q => (no (by simp [heldM1, q])).symm, fun q0 => ⟨h4, fun _ => ⟨fun q => (no (by simp [heldM1, q])).symm, fun q1 => ⟨h4, fun _ => ⟨fun q => (no (by simp [heldM1, q])).symm, fun q2 =>
        ⟨h4, fun _ => ⟨fun q => (no (by simp [heldM1, q])).symm, fun q3 => ⟨h4, fun _ => ⟨fun q => (no (by simp [heldM1, q])).symm, fun q4 => ⟨h4, fun _ => ⟨fun q => (no (by simp [heldM1, q])).symm, fun q5 =>
        ⟨h4, fun _ => ⟨fun q => (no (by simp [heldM1, q])).symm, fun q6 => ⟨h4, fun _ => ⟨fun q => (no (by simp [heldM1, mod3, q])).symm, fun q7 => ⟨h4, fun _ => ?_⟩⟩⟩⟩⟩⟩⟩⟩⟩⟩⟩⟩⟩⟩⟩⟩⟩, fun h => (b4 h).elim⟩
      refine ⟨b1, fun q => (no ?_).symm, fun q8 => ?_⟩
      · have := b2 q
        rw [hH] at this
        simp [heldM1, this]
      · have a2 := b3 q8
        have a3 : heldM1 K (nth es i) = true := by rw [hH] at a2; simp [heldM1, q0, q1, q2, q3, q4, q5, q6, q7, a2, mod3]
        rw [if_pos a3] at h3
        refine ⟨⟨i + 1, ⟨?_, b5⟩, b6, ?_⟩, b7⟩
        · rw [take_nth h4, sumMs_snoc, ← hK, a2]
        · rw [take_nth h4, sumMs_snoc, ← hK, h3]
    · have : i = es.length := by omega
      subst this
      refine fun _ => ⟨fun h => absurd h (Nat.lt_irrefl _), fun _ => ?_⟩
      rw [h3, List.drop_length]; rfl

end Go.Proofs.Ytmjjdfhpnckacab
