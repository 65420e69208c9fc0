/-
  The contracts of the program's functions on nodes: a leader's start, a tick.
  Conditions: none.
-/
import Derived.Test.YtmjjdfhpnckacabFt
namespace Go.Proofs.Ytmjjdfhpnckacab
set_option maxRecDepth 100000
set_option linter.unusedSimpArgs false

def c_Mul64 : FSpec := ⟨[(.rd, .int .u64), (.rd, .int .u64)], [.int .u64, .int .u64], true, fun ps => (nth ps 0).I = 1 ∧ 0 ≤ (nth ps 1).I ∧ (nth ps 1).I ≤ 5, fun ps => [.int .u64 0, .int .u64 (nth ps 1).I], fun _ => []⟩
theorem k_Mul64 : FnOk Try.prog 210 c_Mul64 := by
  refine fn_mk [0, 1, 4, 5, 6, 7, 8, 9, 10, 11, 12, 13] [.tmp 4, .tmp 5] (env_nil (tyTab_ok [])) mixed Try.func210 rfl (by decide) rfl (by decide) rfl ?_
  intro ps hT hpre W hW
  simp only [c_Mul64, TyA, Ty, Tys] at hT hpre
  obtain ⟨_, _, rfl, ⟨x, rfl, hx⟩, _, _, rfl, ⟨y, rfl, hy⟩, rfl⟩ := hT
  simp only [nth_zero, nth_succ, pv_I] at hpre
  obtain ⟨rfl, h1, h2⟩ := hpre
  refine hW.vc [] _ _ ?_
  simp [-List.getD_eq_getElem?_getD, nth_fold, nth_zero, nth_succ, pv_I, pv_B, pv_S, pv_L, pv_A, pv_at, lv_int, lv_bool, lv_str, lv_list, lv_agg, PTy.leaves, PTy.wd, inR, TI.sz, TI.pty, lk, set1, memB, anyB, kill, strike, stillH, unpath, still, prom, proms, dpB, dpAll, ndB, isNil, shOk, takeIn, takeOk, St.slot, ofConst1, ofConsts, ofConst, St.ev, SV.cells, SV.ofCells, SV.leafB, leafAll, fixL, zeroSV, zeroSVs, zeroLf, zeroLfs, zeroPV, resL, resLs, resB, resBs, resT, resTs, resEs, introL, noP, elP, introV, introVs, packV, binI, binS, imp, evs, closes, findFn, slsOf, slsAll, argLs, argsLs, pathOf, rdHs1, rdHsL, rdHs, rdsHs, rdOk, lendOk, backL, backs, ownersOf, allRd, soleMt, firstP, callRd, callPt, callOw, callOwn, callRes, idxs, oprs, fillSV, partsOk, convRes, viewE, viewA, pathE, pathA, sliceRes, evO, etaL, storeEl, loadEl, flatL, flatLs, flatB, leafD, leafDs, dataB, ownO, sameO, isStruct, aggOk, leafAt, srcOf, joinB, joinOk, appRes, copyTo, copyRes, builtinRes, loadHy, eqCs, lvsOf, opRes, nilRes, guardOf, csz, ksz, unwd, dstOk, putS, vcK, vwCall, skipR, stepD, vcD, growP, rdCall, convP, rn, entV, entVs, entR, entO, entH, hlts, domH, entA, entL, ent, itVal, hsV, hsVs, itSlots, itBoxes, dropL, hsL, hsA, onlyR, gcH, gcA, itReach, itLay, itSt, mr, mrs, itRho, itOk, introB, introBs, introR, introX, introT, introTs, lkAll, numb, resMs, retOk, mtTy, bxCs, mtSls, mtHs, finFr, finOf, SV.lt, SV.lts, IntKind.min, IntKind.max, IntKind.signed, IntKind.bits, LIM, ty222, T222_sz, T222_pty, T222, c_Mul64]
  obtain rfl | rfl | rfl | rfl | rfl | rfl : y = 0 ∨ y = 1 ∨ y = 2 ∨ y = 3 ∨ y = 4 ∨ y = 5 := by omega
  all_goals decide +kernel
def c_Mul : FSpec := c_Mul64
theorem k_Mul : FnOk Try.prog 191 c_Mul := by
  refine fn_mk [0, 1, 4, 5, 6, 7, 8, 9] [.tmp 4, .tmp 5] (env_cons (cs := []) k_Mul64 (env_nil (tyTab_ok []))) mixed Try.func191 rfl (by decide) rfl (by decide) rfl ?_
  intro ps hT hpre W hW
  simp only [c_Mul, TyA, Ty, Tys] at hT hpre
  simp only [c_Mul64, TyA, Ty, Tys] at hT hpre
  obtain ⟨_, _, rfl, ⟨x, rfl, hx⟩, _, _, rfl, ⟨y, rfl, hy⟩, rfl⟩ := hT
  simp only [nth_zero, nth_succ, pv_I] at hpre
  refine hW.vc [] _ _ ?_
  simp [-List.getD_eq_getElem?_getD, nth_fold, nth_zero, nth_succ, pv_I, pv_B, pv_S, pv_L, pv_A, pv_at, lv_int, lv_bool, lv_str, lv_list, lv_agg, PTy.leaves, PTy.wd, inR, TI.sz, TI.pty, lk, set1, memB, anyB, kill, strike, stillH, unpath, still, prom, proms, dpB, dpAll, ndB, isNil, shOk, takeIn, takeOk, St.slot, ofConst1, ofConsts, ofConst, St.ev, SV.cells, SV.ofCells, SV.leafB, leafAll, fixL, zeroSV, zeroSVs, zeroLf, zeroLfs, zeroPV, resL, resLs, resB, resBs, resT, resTs, resEs, introL, noP, elP, introV, introVs, packV, binI, binS, imp, evs, closes, findFn, slsOf, slsAll, argLs, argsLs, pathOf, rdHs1, rdHsL, rdHs, rdsHs, rdOk, lendOk, backL, backs, ownersOf, allRd, soleMt, firstP, callRd, callPt, callOw, callOwn, callRes, idxs, oprs, fillSV, partsOk, convRes, viewE, viewA, pathE, pathA, sliceRes, evO, etaL, storeEl, loadEl, flatL, flatLs, flatB, leafD, leafDs, dataB, ownO, sameO, isStruct, aggOk, leafAt, srcOf, joinB, joinOk, appRes, copyTo, copyRes, builtinRes, loadHy, eqCs, lvsOf, opRes, nilRes, guardOf, csz, ksz, unwd, dstOk, putS, vcK, vwCall, skipR, stepD, vcD, growP, rdCall, convP, rn, entV, entVs, entR, entO, entH, hlts, domH, entA, entL, ent, itVal, hsV, hsVs, itSlots, itBoxes, dropL, hsL, hsA, onlyR, gcH, gcA, itReach, itLay, itSt, mr, mrs, itRho, itOk, introB, introBs, introR, introX, introT, introTs, lkAll, numb, resMs, retOk, mtTy, bxCs, mtSls, mtHs, finFr, finOf, SV.lt, SV.lts, IntKind.min, IntKind.max, IntKind.signed, IntKind.bits, LIM, ty174, T174_sz, T174_pty, T174, ty219, T219_sz, T219_pty, T219, ty222, T222_sz, T222_pty, T222, c_Mul, c_Mul64]
  exact hpre

theorem wrapU64 {n : Int} (h : 0 ≤ n ∧ n ≤ 9223372036854775807) : IntKind.u64.wrap n = n := by
  simp [IntKind.wrap, IntKind.signed, IntKind.bits]; omega
theorem rep_step {x z : PV} {m k q : Nat} : (List.replicate k x ++ List.replicate (m - k) z).drop (k + q) = List.replicate (m - (k + q)) z := by
  rw [List.drop_append, List.drop_replicate, List.drop_replicate, List.length_replicate]
  have e1 : k - (k + q) = 0 := by omega
  have e3 : m - k - (k + q - k) = m - (k + q) := by omega
  rw [e1, e3, List.replicate_zero, List.nil_append]
def c_Repeat : FSpec := ⟨[(.rd, .list (.int .i64)), (.rd, .int .i64)], [.list (.int .i64)], true, fun ps => (nth ps 0).L.length = 1 ∧ 1 ≤ (nth ps 1).I ∧ (nth ps 1).I ≤ 5, fun ps => [.list (List.replicate (nth ps 1).I.toNat (nth (nth ps 0).L 0))], fun _ => []⟩
theorem k_Repeat : FnOk Try.prog 175 c_Repeat := by
  refine fn_mk [0, 1, 4, 5, 6, 7, 8] [.tmp 4] (env_cons (cs := []) k_Mul (env_nil (tyTab_ok []))) mixed Try.func175 rfl (by decide) rfl (by decide) rfl ?_
  intro ps hT hpre W hW
  simp only [c_Repeat, TyA, Ty, Tys] at hT hpre
  obtain ⟨_, _, rfl, ⟨es, rfl, hes, tes⟩, _, _, rfl, ⟨c, rfl, hc⟩, rfl⟩ := hT
  simp only [nth_zero, nth_succ, pv_I, pv_L] at hpre
  obtain ⟨h1, h2, h3⟩ := hpre
  refine hW.vc [(9, [7], .take 0 <| .take 1 <| .take 2 <| .take 4 <| .take 5 <| .alt 3 (.alt 6 (.alt 7 (.take 8 <| .alt 9 (.done) .stop) .stop) .stop) (.alt 6 (.alt 3 (.alt 7 (.take 8 <| .alt 9 (.done) .stop) .stop) .stop) .stop))] _ _ ?_
  simp [-List.getD_eq_getElem?_getD, nth_fold, nth_zero, nth_succ, pv_I, pv_B, pv_S, pv_L, pv_A, pv_at, lv_int, lv_bool, lv_str, lv_list, lv_agg, PTy.leaves, PTy.wd, inR, TI.sz, TI.pty, lk, set1, memB, anyB, kill, strike, stillH, unpath, still, prom, proms, dpB, dpAll, ndB, isNil, shOk, takeIn, takeOk, St.slot, ofConst1, ofConsts, ofConst, St.ev, SV.cells, SV.ofCells, SV.leafB, leafAll, fixL, zeroSV, zeroSVs, zeroLf, zeroLfs, zeroPV, resL, resLs, resB, resBs, resT, resTs, resEs, introL, noP, elP, introV, introVs, packV, binI, binS, imp, evs, closes, findFn, slsOf, slsAll, argLs, argsLs, pathOf, rdHs1, rdHsL, rdHs, rdsHs, rdOk, lendOk, backL, backs, ownersOf, allRd, soleMt, firstP, callRd, callPt, callOw, callOwn, callRes, idxs, oprs, fillSV, partsOk, convRes, viewE, viewA, pathE, pathA, sliceRes, evO, etaL, storeEl, loadEl, flatL, flatLs, flatB, leafD, leafDs, dataB, ownO, sameO, isStruct, aggOk, leafAt, srcOf, joinB, joinOk, appRes, copyTo, copyRes, builtinRes, loadHy, eqCs, lvsOf, opRes, nilRes, guardOf, csz, ksz, unwd, dstOk, putS, vcK, vwCall, skipR, stepD, vcD, growP, rdCall, convP, rn, entV, entVs, entR, entO, entH, hlts, domH, entA, entL, ent, itVal, hsV, hsVs, itSlots, itBoxes, dropL, hsL, hsA, onlyR, gcH, gcA, itReach, itLay, itSt, mr, mrs, itRho, itOk, introB, introBs, introR, introX, introT, introTs, lkAll, numb, resMs, retOk, mtTy, bxCs, mtSls, mtHs, finFr, finOf, SV.lt, SV.lts, IntKind.min, IntKind.max, IntKind.signed, IntKind.bits, LIM, ty3, T3_sz, T3_pty, T3, ty4, T4_sz, T4_pty, T4, ty35, T35_sz, T35_pty, T35, ty174, T174_sz, T174_pty, T174, c_Repeat, c_Mul, c_Mul64, c_Mul64]
  obtain ⟨x, rfl⟩ := List.length_eq_one_iff.1 h1
  have e1 : IntKind.u64.wrap c = c := wrapU64 (by omega)
  have e2 : IntKind.i64.wrap c = c := wrap64 (by omega)
  rw [e1, e2]
  refine ⟨fun h => absurd h (by omega), fun _ _ => ⟨⟨by simp [IntKind.wrap, IntKind.signed, IntKind.bits], by omega, by omega⟩, fun h => absurd h (by omega), fun _ => ⟨⟨by omega, by omega, by omega⟩, ?_⟩⟩⟩
  obtain ⟨m, rfl⟩ : ∃ m : Nat, c = m := ⟨c.toNat, by omega⟩
  have e3 : min 1 m = 1 := by omega
  have e4 : List.take m [x] = [x] := List.take_of_length_le (by simp; omega)
  simp only [Int.toNat_natCast, List.length_singleton, e3, e4]
  refine hW.loopS _ _ _ [.sl 7 .dp (.list (.int .i64)), .sl 8 .dp (.int .i64)] (fun ys => ∃ k : Nat, ys = [.list (List.replicate k x ++ List.replicate (m - k) (.int .i64 0)), .int .i64 k] ∧ 1 ≤ k ∧ k ≤ m) (fun ys => m - (nth ys 1).I.toNat) ?_ ?_
  · simp [-List.getD_eq_getElem?_getD, nth_fold, nth_zero, nth_succ, pv_I, pv_B, pv_S, pv_L, pv_A, pv_at, lv_int, lv_bool, lv_str, lv_list, lv_agg, PTy.leaves, PTy.wd, inR, TI.sz, TI.pty, lk, set1, memB, anyB, kill, strike, stillH, unpath, still, prom, proms, dpB, dpAll, ndB, isNil, shOk, takeIn, takeOk, St.slot, ofConst1, ofConsts, ofConst, St.ev, SV.cells, SV.ofCells, SV.leafB, leafAll, fixL, zeroSV, zeroSVs, zeroLf, zeroLfs, zeroPV, resL, resLs, resB, resBs, resT, resTs, resEs, introL, noP, elP, introV, introVs, packV, binI, binS, imp, evs, closes, findFn, slsOf, slsAll, argLs, argsLs, pathOf, rdHs1, rdHsL, rdHs, rdsHs, rdOk, lendOk, backL, backs, ownersOf, allRd, soleMt, firstP, callRd, callPt, callOw, callOwn, callRes, idxs, oprs, fillSV, partsOk, convRes, viewE, viewA, pathE, pathA, sliceRes, evO, etaL, storeEl, loadEl, flatL, flatLs, flatB, leafD, leafDs, dataB, ownO, sameO, isStruct, aggOk, leafAt, srcOf, joinB, joinOk, appRes, copyTo, copyRes, builtinRes, loadHy, eqCs, lvsOf, opRes, nilRes, guardOf, csz, ksz, unwd, dstOk, putS, vcK, vwCall, skipR, stepD, vcD, growP, rdCall, convP, rn, entV, entVs, entR, entO, entH, hlts, domH, entA, entL, ent, itVal, hsV, hsVs, itSlots, itBoxes, dropL, hsL, hsA, onlyR, gcH, gcA, itReach, itLay, itSt, mr, mrs, itRho, itOk, introB, introBs, introR, introX, introT, introTs, lkAll, numb, resMs, retOk, mtTy, bxCs, mtSls, mtHs, finFr, finOf, SV.lt, SV.lts, IntKind.min, IntKind.max, IntKind.signed, IntKind.bits, LIM, ty3, T3_sz, T3_pty, T3, ty4, T4_sz, T4_pty, T4, ty35, T35_sz, T35_pty, T35, ty174, T174_sz, T174_pty, T174, c_Repeat, c_Mul, c_Mul64]
    exact ⟨1, ⟨rfl, rfl⟩, by omega, by omega⟩
  · rintro ys ⟨k, rfl, g1, g2⟩
    refine hW.vc [(9, [7], .take 0 <| .take 1 <| .take 2 <| .take 4 <| .take 5 <| .alt 3 (.alt 6 (.alt 7 (.take 8 <| .alt 9 (.done) .stop) .stop) .stop) (.alt 6 (.alt 3 (.alt 7 (.take 8 <| .alt 9 (.done) .stop) .stop) .stop) .stop))] _ _ ?_
    simp [-List.getD_eq_getElem?_getD, nth_fold, nth_zero, nth_succ, pv_I, pv_B, pv_S, pv_L, pv_A, pv_at, lv_int, lv_bool, lv_str, lv_list, lv_agg, PTy.leaves, PTy.wd, inR, TI.sz, TI.pty, lk, set1, memB, anyB, kill, strike, stillH, unpath, still, prom, proms, dpB, dpAll, ndB, isNil, shOk, takeIn, takeOk, St.slot, ofConst1, ofConsts, ofConst, St.ev, SV.cells, SV.ofCells, SV.leafB, leafAll, fixL, zeroSV, zeroSVs, zeroLf, zeroLfs, zeroPV, resL, resLs, resB, resBs, resT, resTs, resEs, introL, noP, elP, introV, introVs, packV, binI, binS, imp, evs, closes, findFn, slsOf, slsAll, argLs, argsLs, pathOf, rdHs1, rdHsL, rdHs, rdsHs, rdOk, lendOk, backL, backs, ownersOf, allRd, soleMt, firstP, callRd, callPt, callOw, callOwn, callRes, idxs, oprs, fillSV, partsOk, convRes, viewE, viewA, pathE, pathA, sliceRes, evO, etaL, storeEl, loadEl, flatL, flatLs, flatB, leafD, leafDs, dataB, ownO, sameO, isStruct, aggOk, leafAt, srcOf, joinB, joinOk, appRes, copyTo, copyRes, builtinRes, loadHy, eqCs, lvsOf, opRes, nilRes, guardOf, csz, ksz, unwd, dstOk, putS, vcK, vwCall, skipR, stepD, vcD, growP, rdCall, convP, rn, entV, entVs, entR, entO, entH, hlts, domH, entA, entL, ent, itVal, hsV, hsVs, itSlots, itBoxes, dropL, hsL, hsA, onlyR, gcH, gcA, itReach, itLay, itSt, mr, mrs, itRho, itOk, introB, introBs, introR, introX, introT, introTs, lkAll, numb, resMs, retOk, mtTy, bxCs, mtSls, mtHs, finFr, finOf, SV.lt, SV.lts, IntKind.min, IntKind.max, IntKind.signed, IntKind.bits, LIM, ty3, T3_sz, T3_pty, T3, ty4, T4_sz, T4_pty, T4, ty35, T35_sz, T35_pty, T35, ty174, T174_sz, T174_pty, T174, c_Repeat, c_Mul, c_Mul64, c_Mul64]
    have e5 : ((k : Int) + ((m - k : Nat) : Int)).toNat - k = m - k := by omega
    simp only [e5, Nat.min_self, Nat.min_comm (m - k) k, rep_step]
    have e6 : 1 ≤ m - k → 1 ≤ min k (m - k) := fun h => by omega
    have e8 : min (m - k) (min k (m - k)) = min k (m - k) := by omega
    have e7 : min k (m - k) ≤ m - k := by omega
    rw [wrap64 (by omega)]
    refine fun _ => ⟨fun h => ⟨by decide +kernel, by omega, fun _ => ⟨by omega, fun _ => ⟨⟨k + min k (m - k), ⟨by rw [e8], by omega⟩, by omega, by omega⟩, by omega⟩⟩⟩, fun h => ?_⟩
    have : k = m := by omega
    subst this
    simp

def c_reset : FSpec := ⟨[(.bx, .box [.int .i64, .int .i64, .int .i64, .int .i64, .int .i64, .bool, .list (.agg [.int .i64, .str]), .int .i64, .int .i64, .int .i64, .list (.int .i64), .list (.int .i64), .list (.int .i64)]), (.rd, .int .i64)], [], true, fun ps => 1 ≤ (nth (nth ps 0).A 1).I ∧ (nth (nth ps 0).A 1).I ≤ 5, fun _ => [],
  fun ps => [.agg [nth (nth ps 0).A 0, nth (nth ps 0).A 1, nth (nth ps 0).A 2, nth (nth ps 0).A 3, nth (nth ps 0).A 4, nth (nth ps 0).A 5, nth (nth ps 0).A 6, nth (nth ps 0).A 7, nth (nth ps 0).A 8, nth (nth ps 0).A 9, nth (nth ps 0).A 10,
    .list (List.replicate (nth (nth ps 0).A 1).I.toNat (.int .i64 (nth ps 1).I)), .list (List.replicate (nth (nth ps 0).A 1).I.toNat (.int .i64 0))]]⟩
theorem k_reset : FnOk Try.prog 150 c_reset := by
  refine fn_mk [0, 1] [] (env_cons (cs := []) k_Repeat (env_nil (tyTab_ok []))) mixed Try.func150 rfl (by decide) rfl (by decide) rfl ?_
  intro ps hT hpre W hW
  simp only [c_reset, TyA, Ty, Tys] at hT hpre
  obtain ⟨_, _, rfl, ⟨_, rfl, _, _, rfl, ⟨n0, rfl, hn0⟩, _, _, rfl, ⟨n1, rfl, hn1⟩, _, _, rfl, ⟨n2, rfl, hn2⟩, _, _, rfl, ⟨n3, rfl, hn3⟩, _, _, rfl, ⟨n4, rfl, hn4⟩, _, _, rfl, ⟨u, rfl⟩, _, _, rfl, ⟨es, rfl, hes, tes⟩, _, _, rfl, ⟨n5, rfl, hn5⟩, _, _, rfl, ⟨n6, rfl, hn6⟩, _, _, rfl, ⟨n7, rfl, hn7⟩, _, _, rfl, ⟨vs, rfl, hvs, tvs⟩, _, _, rfl, ⟨xs, rfl, hxs, txs⟩, _, _, rfl, ⟨ms, rfl, hms, tms⟩, rfl⟩, _, _, rfl, ⟨x, rfl, hx⟩, rfl⟩ := hT
  simp only [nth_zero, nth_succ, pv_I, pv_L, pv_A] at hpre
  refine hW.vc [(0, [16, 19], .take 0 <| .take 1 <| .take 2 <| .take 4 <| .take 5 <| .take 6 <| .take 7 <| .take 9 <| .take 10 <| .take 11 <| .take 12 <| .alt 3 (.alt 8 (.take 14 <| .take 15 <| .alt 13 (.alt 16 (.take 17 <| .take 18 <| .alt 19 (.done) .stop) .stop) (.alt 16 (.alt 13 (.take 17 <| .take 18 <| .alt 19 (.done) .stop) .stop) .stop)) (.alt 13 (.alt 8 (.take 14 <| .take 15 <| .alt 16 (.take 17 <| .take 18 <| .alt 19 (.done) .stop) .stop) .stop) .stop)) (.alt 13 (.alt 3 (.alt 8 (.take 14 <| .take 15 <| .alt 16 (.take 17 <| .take 18 <| .alt 19 (.done) .stop) .stop) .stop) .stop) .stop))] _ _ ?_
  simp [-List.getD_eq_getElem?_getD, nth_fold, nth_zero, nth_succ, pv_I, pv_B, pv_S, pv_L, pv_A, pv_at, lv_int, lv_bool, lv_str, lv_list, lv_agg, PTy.leaves, PTy.wd, inR, TI.sz, TI.pty, lk, set1, memB, anyB, kill, strike, stillH, unpath, still, prom, proms, dpB, dpAll, ndB, isNil, shOk, takeIn, takeOk, St.slot, ofConst1, ofConsts, ofConst, St.ev, SV.cells, SV.ofCells, SV.leafB, leafAll, fixL, zeroSV, zeroSVs, zeroLf, zeroLfs, zeroPV, resL, resLs, resB, resBs, resT, resTs, resEs, introL, noP, elP, introV, introVs, packV, binI, binS, imp, evs, closes, findFn, slsOf, slsAll, argLs, argsLs, pathOf, rdHs1, rdHsL, rdHs, rdsHs, rdOk, lendOk, backL, backs, ownersOf, allRd, soleMt, firstP, callRd, callPt, callOw, callOwn, callRes, idxs, oprs, fillSV, partsOk, convRes, viewE, viewA, pathE, pathA, sliceRes, evO, etaL, storeEl, loadEl, flatL, flatLs, flatB, leafD, leafDs, dataB, ownO, sameO, isStruct, aggOk, leafAt, srcOf, joinB, joinOk, appRes, copyTo, copyRes, builtinRes, loadHy, eqCs, lvsOf, opRes, nilRes, guardOf, csz, ksz, unwd, dstOk, putS, vcK, vwCall, skipR, stepD, vcD, growP, rdCall, convP, rn, entV, entVs, entR, entO, entH, hlts, domH, entA, entL, ent, itVal, hsV, hsVs, itSlots, itBoxes, dropL, hsL, hsA, onlyR, gcH, gcA, itReach, itLay, itSt, mr, mrs, itRho, itOk, introB, introBs, introR, introX, introT, introTs, lkAll, numb, resMs, retOk, mtTy, bxCs, mtSls, mtHs, finFr, finOf, SV.lt, SV.lts, IntKind.min, IntKind.max, IntKind.signed, IntKind.bits, LIM, ty3, T3_sz, T3_pty, T3, ty4, T4_sz, T4_pty, T4, ty9, T9_sz, T9_pty, T9, ty35, T35_sz, T35_pty, T35, ty39, T39_sz, T39_pty, T39, ty41, T41_sz, T41_pty, T41, ty128, T128_sz, T128_pty, T128, ty131, T131_sz, T131_pty, T131, c_reset, c_Repeat]
  exact ⟨by decide +kernel, ⟨hpre, by omega, by omega, by omega⟩, ⟨by omega, by omega, by omega⟩, hpre⟩

/-- How many have a place, the node itself counted. -/
def cntG (id p : Int) (ms : List PV) : Nat → Int
  | 0 => 1
  | i + 1 => if (i : Int) ≠ id ∧ p ≤ (nth ms i).I then cntG id p ms i + 1 else cntG id p ms i
theorem cntG_le (id p : Int) (ms : List PV) : ∀ i, 1 ≤ cntG id p ms i ∧ cntG id p ms i ≤ i + 1
  | 0 => by simp [cntG]
  | i + 1 => by
    have := cntG_le id p ms i
    rw [cntG]
    split <;> omega
/-- What is committed, seen from a place downwards. -/
def advG (n : ND) : Nat → Int
  | 0 => n.com
  | p + 1 => if (p : Int) + 1 ≤ n.com then n.com else if tmAt n.log ((p : Int) + 1) = n.term ∧ n.nodes < 2 * cntG n.id ((p : Int) + 1) n.ms n.ms.length then (p : Int) + 1 else advG n p
theorem advG_low {n : ND} {p : Nat} (h : (p : Int) ≤ n.com) (h0 : 0 ≤ n.com) : advG n p = n.com := by
  cases p with
  | zero => rfl
  | succ p => rw [advG, if_pos (by omega)]
theorem advG_up {n : ND} {p : Nat} (h : n.com < p) (h0 : 0 ≤ n.com) : advG n p = if tmAt n.log p = n.term ∧ n.nodes < 2 * cntG n.id p n.ms n.ms.length then (p : Int) else advG n (p - 1) := by
  cases p with
  | zero => omega
  | succ p =>
    have e : ((p + 1 : Nat) : Int) = (p : Int) + 1 := rfl
    rw [advG, if_neg (by omega), e]; rfl
def c_advance : FSpec := ⟨[(.bx, .box [.int .i64, .int .i64, .int .i64, .int .i64, .int .i64, .bool, .list (.agg [.int .i64, .str]), .int .i64, .int .i64, .int .i64, .list (.int .i64), .list (.int .i64), .list (.int .i64)])], [], true, fun ps => 0 ≤ (nth (nth ps 0).A 7).I ∧ (nth (nth ps 0).A 12).L.length ≤ 5 ∧ (nth (nth ps 0).A 6).L.length ≤ 1024, fun _ => [],
  fun ps => [.agg [nth (nth ps 0).A 0, nth (nth ps 0).A 1, nth (nth ps 0).A 2, nth (nth ps 0).A 3, nth (nth ps 0).A 4, nth (nth ps 0).A 5, nth (nth ps 0).A 6, .int .i64 (advG (ndOf (nth ps 0).A) (nth (nth ps 0).A 6).L.length), nth (nth ps 0).A 8, nth (nth ps 0).A 9, nth (nth ps 0).A 10, nth (nth ps 0).A 11, nth (nth ps 0).A 12]]⟩
theorem k_advance : FnOk Try.prog 124 c_advance := by
  refine fn_mk [0, 2, 3, 4, 5, 22, 23, 24] [] (env_cons (cs := []) k_termAt (env_nil (tyTab_ok []))) mixed Try.func124 rfl (by decide) rfl (by decide) rfl ?_
  intro ps hT hpre W hW
  simp only [c_advance, TyA, Ty, Tys] at hT hpre
  obtain ⟨_, _, rfl, ⟨_, rfl, _, _, rfl, ⟨n0, rfl, hn0⟩, _, _, rfl, ⟨n1, rfl, hn1⟩, _, _, rfl, ⟨n2, rfl, hn2⟩, _, _, rfl, ⟨n3, rfl, hn3⟩, _, _, rfl, ⟨n4, rfl, hn4⟩, _, _, rfl, ⟨u, rfl⟩, _, _, rfl, ⟨es, rfl, hes, tes⟩, _, _, rfl, ⟨n5, rfl, hn5⟩, _, _, rfl, ⟨n6, rfl, hn6⟩, _, _, rfl, ⟨n7, rfl, hn7⟩, _, _, rfl, ⟨vs, rfl, hvs, tvs⟩, _, _, rfl, ⟨xs, rfl, hxs, txs⟩, _, _, rfl, ⟨ms, rfl, hms, tms⟩, rfl⟩, rfl⟩ := hT
  simp only [nth_zero, nth_succ, pv_I, pv_L, pv_A] at hpre
  refine hW.vc [(10, [], .take 0 <| .take 1 <| .take 3 <| .take 4 <| .take 5 <| .take 6 <| .alt 2 (.take 7 <| .take 8 <| .take 9 <| .take 10 <| .take 11 <| .take 12 <| .take 13 <| .take 14 <| .take 15 <| .take 16 <| .done) .stop)] _ _ ?_
  simp [-List.getD_eq_getElem?_getD, nth_fold, nth_zero, nth_succ, pv_I, pv_B, pv_S, pv_L, pv_A, pv_at, lv_int, lv_bool, lv_str, lv_list, lv_agg, PTy.leaves, PTy.wd, inR, TI.sz, TI.pty, lk, set1, memB, anyB, kill, strike, stillH, unpath, still, prom, proms, dpB, dpAll, ndB, isNil, shOk, takeIn, takeOk, St.slot, ofConst1, ofConsts, ofConst, St.ev, SV.cells, SV.ofCells, SV.leafB, leafAll, fixL, zeroSV, zeroSVs, zeroLf, zeroLfs, zeroPV, resL, resLs, resB, resBs, resT, resTs, resEs, introL, noP, elP, introV, introVs, packV, binI, binS, imp, evs, closes, findFn, slsOf, slsAll, argLs, argsLs, pathOf, rdHs1, rdHsL, rdHs, rdsHs, rdOk, lendOk, backL, backs, ownersOf, allRd, soleMt, firstP, callRd, callPt, callOw, callOwn, callRes, idxs, oprs, fillSV, partsOk, convRes, viewE, viewA, pathE, pathA, sliceRes, evO, etaL, storeEl, loadEl, flatL, flatLs, flatB, leafD, leafDs, dataB, ownO, sameO, isStruct, aggOk, leafAt, srcOf, joinB, joinOk, appRes, copyTo, copyRes, builtinRes, loadHy, eqCs, lvsOf, opRes, nilRes, guardOf, csz, ksz, unwd, dstOk, putS, vcK, vwCall, skipR, stepD, vcD, growP, rdCall, convP, rn, entV, entVs, entR, entO, entH, hlts, domH, entA, entL, ent, itVal, hsV, hsVs, itSlots, itBoxes, dropL, hsL, hsA, onlyR, gcH, gcA, itReach, itLay, itSt, mr, mrs, itRho, itOk, introB, introBs, introR, introX, introT, introTs, lkAll, numb, resMs, retOk, mtTy, bxCs, mtSls, mtHs, finFr, finOf, SV.lt, SV.lts, IntKind.min, IntKind.max, IntKind.signed, IntKind.bits, LIM, ty3, T3_sz, T3_pty, T3, ty4, T4_sz, T4_pty, T4, ty9, T9_sz, T9_pty, T9, ty35, T35_sz, T35_pty, T35, ty39, T39_sz, T39_pty, T39, ty41, T41_sz, T41_pty, T41, ty128, T128_sz, T128_pty, T128, ty131, T131_sz, T131_pty, T131, c_advance, c_termAt, ndOf]
  obtain ⟨p1, p2, p3⟩ := hpre
  obtain ⟨nd, hnd⟩ : ∃ nd : ND, nd = ⟨n0, n1, n2, n3, n4, u, es, n5, n6, n7, vs, xs, ms⟩ := ⟨_, rfl⟩
  have hc : nd.com = n5 := by rw [hnd]
  have hl : nd.log = es := by rw [hnd]
  have ht : nd.term = n2 := by rw [hnd]
  have hn : nd.nodes = n1 := by rw [hnd]
  have hi : nd.id = n0 := by rw [hnd]
  have hm : nd.ms = ms := by rw [hnd]
  refine fun _ => hW.loopS _ _ _ [.sl 2 .dp (.int .i64)] (fun ys => ∃ p : Nat, ys = [.int .i64 p] ∧ p ≤ es.length ∧ advG nd es.length = advG nd p) (fun ys => (nth ys 0).I.toNat) ?_ ?_
  · simp [-List.getD_eq_getElem?_getD, nth_fold, nth_zero, nth_succ, pv_I, pv_B, pv_S, pv_L, pv_A, pv_at, lv_int, lv_bool, lv_str, lv_list, lv_agg, PTy.leaves, PTy.wd, inR, TI.sz, TI.pty, lk, set1, memB, anyB, kill, strike, stillH, unpath, still, prom, proms, dpB, dpAll, ndB, isNil, shOk, takeIn, takeOk, St.slot, ofConst1, ofConsts, ofConst, St.ev, SV.cells, SV.ofCells, SV.leafB, leafAll, fixL, zeroSV, zeroSVs, zeroLf, zeroLfs, zeroPV, resL, resLs, resB, resBs, resT, resTs, resEs, introL, noP, elP, introV, introVs, packV, binI, binS, imp, evs, closes, findFn, slsOf, slsAll, argLs, argsLs, pathOf, rdHs1, rdHsL, rdHs, rdsHs, rdOk, lendOk, backL, backs, ownersOf, allRd, soleMt, firstP, callRd, callPt, callOw, callOwn, callRes, idxs, oprs, fillSV, partsOk, convRes, viewE, viewA, pathE, pathA, sliceRes, evO, etaL, storeEl, loadEl, flatL, flatLs, flatB, leafD, leafDs, dataB, ownO, sameO, isStruct, aggOk, leafAt, srcOf, joinB, joinOk, appRes, copyTo, copyRes, builtinRes, loadHy, eqCs, lvsOf, opRes, nilRes, guardOf, csz, ksz, unwd, dstOk, putS, vcK, vwCall, skipR, stepD, vcD, growP, rdCall, convP, rn, entV, entVs, entR, entO, entH, hlts, domH, entA, entL, ent, itVal, hsV, hsVs, itSlots, itBoxes, dropL, hsL, hsA, onlyR, gcH, gcA, itReach, itLay, itSt, mr, mrs, itRho, itOk, introB, introBs, introR, introX, introT, introTs, lkAll, numb, resMs, retOk, mtTy, bxCs, mtSls, mtHs, finFr, finOf, SV.lt, SV.lts, IntKind.min, IntKind.max, IntKind.signed, IntKind.bits, LIM, ty3, T3_sz, T3_pty, T3, ty4, T4_sz, T4_pty, T4, ty9, T9_sz, T9_pty, T9, ty35, T35_sz, T35_pty, T35, ty39, T39_sz, T39_pty, T39, ty41, T41_sz, T41_pty, T41, ty128, T128_sz, T128_pty, T128, ty131, T131_sz, T131_pty, T131, c_advance, c_termAt]
    exact ⟨_, rfl, by omega, rfl⟩
  · rintro ys ⟨p, rfl, g1, g2⟩
    refine hW.vc [(10, [], .take 0 <| .take 1 <| .take 3 <| .take 4 <| .take 5 <| .take 6 <| .alt 2 (.take 7 <| .take 8 <| .take 9 <| .take 10 <| .take 11 <| .take 12 <| .take 13 <| .take 14 <| .take 15 <| .take 16 <| .done) .stop)] _ _ ?_
    simp [-List.getD_eq_getElem?_getD, nth_fold, nth_zero, nth_succ, pv_I, pv_B, pv_S, pv_L, pv_A, pv_at, lv_int, lv_bool, lv_str, lv_list, lv_agg, PTy.leaves, PTy.wd, inR, TI.sz, TI.pty, lk, set1, memB, anyB, kill, strike, stillH, unpath, still, prom, proms, dpB, dpAll, ndB, isNil, shOk, takeIn, takeOk, St.slot, ofConst1, ofConsts, ofConst, St.ev, SV.cells, SV.ofCells, SV.leafB, leafAll, fixL, zeroSV, zeroSVs, zeroLf, zeroLfs, zeroPV, resL, resLs, resB, resBs, resT, resTs, resEs, introL, noP, elP, introV, introVs, packV, binI, binS, imp, evs, closes, findFn, slsOf, slsAll, argLs, argsLs, pathOf, rdHs1, rdHsL, rdHs, rdsHs, rdOk, lendOk, backL, backs, ownersOf, allRd, soleMt, firstP, callRd, callPt, callOw, callOwn, callRes, idxs, oprs, fillSV, partsOk, convRes, viewE, viewA, pathE, pathA, sliceRes, evO, etaL, storeEl, loadEl, flatL, flatLs, flatB, leafD, leafDs, dataB, ownO, sameO, isStruct, aggOk, leafAt, srcOf, joinB, joinOk, appRes, copyTo, copyRes, builtinRes, loadHy, eqCs, lvsOf, opRes, nilRes, guardOf, csz, ksz, unwd, dstOk, putS, vcK, vwCall, skipR, stepD, vcD, growP, rdCall, convP, rn, entV, entVs, entR, entO, entH, hlts, domH, entA, entL, ent, itVal, hsV, hsVs, itSlots, itBoxes, dropL, hsL, hsA, onlyR, gcH, gcA, itReach, itLay, itSt, mr, mrs, itRho, itOk, introB, introBs, introR, introX, introT, introTs, lkAll, numb, resMs, retOk, mtTy, bxCs, mtSls, mtHs, finFr, finOf, SV.lt, SV.lts, IntKind.min, IntKind.max, IntKind.signed, IntKind.bits, LIM, ty3, T3_sz, T3_pty, T3, ty4, T4_sz, T4_pty, T4, ty9, T9_sz, T9_pty, T9, ty35, T35_sz, T35_pty, T35, ty39, T39_sz, T39_pty, T39, ty41, T41_sz, T41_pty, T41, ty128, T128_sz, T128_pty, T128, ty131, T131_sz, T131_pty, T131, c_advance, c_termAt, ndOf]
    rw [← hnd]
    refine ⟨fun g3 _ => ?_, fun g3 => ?_⟩
    · refine hW.loopS _ _ _ [.sl 24 .dp (.int .i64), .sl 3 .dp (.int .i64)] (fun ys => ∃ i : Nat, ys = [.int .i64 i, .int .i64 (cntG n0 p ms i)] ∧ i ≤ ms.length) (fun ys => ms.length - (nth ys 0).I.toNat) ?_ ?_
      · simp [-List.getD_eq_getElem?_getD, nth_fold, nth_zero, nth_succ, pv_I, pv_B, pv_S, pv_L, pv_A, pv_at, lv_int, lv_bool, lv_str, lv_list, lv_agg, PTy.leaves, PTy.wd, inR, TI.sz, TI.pty, lk, set1, memB, anyB, kill, strike, stillH, unpath, still, prom, proms, dpB, dpAll, ndB, isNil, shOk, takeIn, takeOk, St.slot, ofConst1, ofConsts, ofConst, St.ev, SV.cells, SV.ofCells, SV.leafB, leafAll, fixL, zeroSV, zeroSVs, zeroLf, zeroLfs, zeroPV, resL, resLs, resB, resBs, resT, resTs, resEs, introL, noP, elP, introV, introVs, packV, binI, binS, imp, evs, closes, findFn, slsOf, slsAll, argLs, argsLs, pathOf, rdHs1, rdHsL, rdHs, rdsHs, rdOk, lendOk, backL, backs, ownersOf, allRd, soleMt, firstP, callRd, callPt, callOw, callOwn, callRes, idxs, oprs, fillSV, partsOk, convRes, viewE, viewA, pathE, pathA, sliceRes, evO, etaL, storeEl, loadEl, flatL, flatLs, flatB, leafD, leafDs, dataB, ownO, sameO, isStruct, aggOk, leafAt, srcOf, joinB, joinOk, appRes, copyTo, copyRes, builtinRes, loadHy, eqCs, lvsOf, opRes, nilRes, guardOf, csz, ksz, unwd, dstOk, putS, vcK, vwCall, skipR, stepD, vcD, growP, rdCall, convP, rn, entV, entVs, entR, entO, entH, hlts, domH, entA, entL, ent, itVal, hsV, hsVs, itSlots, itBoxes, dropL, hsL, hsA, onlyR, gcH, gcA, itReach, itLay, itSt, mr, mrs, itRho, itOk, introB, introBs, introR, introX, introT, introTs, lkAll, numb, resMs, retOk, mtTy, bxCs, mtSls, mtHs, finFr, finOf, SV.lt, SV.lts, IntKind.min, IntKind.max, IntKind.signed, IntKind.bits, LIM, ty3, T3_sz, T3_pty, T3, ty4, T4_sz, T4_pty, T4, ty9, T9_sz, T9_pty, T9, ty35, T35_sz, T35_pty, T35, ty39, T39_sz, T39_pty, T39, ty41, T41_sz, T41_pty, T41, ty128, T128_sz, T128_pty, T128, ty131, T131_sz, T131_pty, T131, c_advance, c_termAt]
        exact ⟨0, ⟨rfl, rfl⟩, by omega⟩
      · rintro ys ⟨i, rfl, q1⟩
        refine hW.vc [(10, [], .take 0 <| .take 1 <| .take 3 <| .take 4 <| .take 5 <| .take 6 <| .alt 2 (.take 7 <| .take 8 <| .take 9 <| .take 10 <| .take 11 <| .take 12 <| .take 13 <| .take 14 <| .take 15 <| .take 16 <| .done) .stop)] _ _ ?_
        simp [-List.getD_eq_getElem?_getD, nth_fold, nth_zero, nth_succ, pv_I, pv_B, pv_S, pv_L, pv_A, pv_at, lv_int, lv_bool, lv_str, lv_list, lv_agg, PTy.leaves, PTy.wd, inR, TI.sz, TI.pty, lk, set1, memB, anyB, kill, strike, stillH, unpath, still, prom, proms, dpB, dpAll, ndB, isNil, shOk, takeIn, takeOk, St.slot, ofConst1, ofConsts, ofConst, St.ev, SV.cells, SV.ofCells, SV.leafB, leafAll, fixL, zeroSV, zeroSVs, zeroLf, zeroLfs, zeroPV, resL, resLs, resB, resBs, resT, resTs, resEs, introL, noP, elP, introV, introVs, packV, binI, binS, imp, evs, closes, findFn, slsOf, slsAll, argLs, argsLs, pathOf, rdHs1, rdHsL, rdHs, rdsHs, rdOk, lendOk, backL, backs, ownersOf, allRd, soleMt, firstP, callRd, callPt, callOw, callOwn, callRes, idxs, oprs, fillSV, partsOk, convRes, viewE, viewA, pathE, pathA, sliceRes, evO, etaL, storeEl, loadEl, flatL, flatLs, flatB, leafD, leafDs, dataB, ownO, sameO, isStruct, aggOk, leafAt, srcOf, joinB, joinOk, appRes, copyTo, copyRes, builtinRes, loadHy, eqCs, lvsOf, opRes, nilRes, guardOf, csz, ksz, unwd, dstOk, putS, vcK, vwCall, skipR, stepD, vcD, growP, rdCall, convP, rn, entV, entVs, entR, entO, entH, hlts, domH, entA, entL, ent, itVal, hsV, hsVs, itSlots, itBoxes, dropL, hsL, hsA, onlyR, gcH, gcA, itReach, itLay, itSt, mr, mrs, itRho, itOk, introB, introBs, introR, introX, introT, introTs, lkAll, numb, resMs, retOk, mtTy, bxCs, mtSls, mtHs, finFr, finOf, SV.lt, SV.lts, IntKind.min, IntKind.max, IntKind.signed, IntKind.bits, LIM, ty3, T3_sz, T3_pty, T3, ty4, T4_sz, T4_pty, T4, ty9, T9_sz, T9_pty, T9, ty35, T35_sz, T35_pty, T35, ty39, T39_sz, T39_pty, T39, ty41, T41_sz, T41_pty, T41, ty128, T128_sz, T128_pty, T128, ty131, T131_sz, T131_pty, T131, c_advance, c_termAt, ndOf]
        have hb := cntG_le n0 p ms i
        rw [← hnd, g2]
        have hu : n5 < p → advG nd p = if tmAt es p = n2 ∧ n1 < 2 * cntG n0 p ms ms.length then (p : Int) else advG nd (p - 1) := fun h => by
          rw [advG_up (by rw [hc]; exact h) (by rw [hc]; exact p1), hl, ht, hn, hi, hm]
        refine ⟨fun q2 => ⟨q2, fun _ => ⟨fun a b => ⟨⟨i + 1, ⟨wrap64 (by omega), ?_⟩, by omega⟩, by rw [wrap64 (by omega)]; omega⟩, fun a => ⟨⟨i + 1, ⟨wrap64 (by omega), ?_⟩, by omega⟩, by rw [wrap64 (by omega)]; omega⟩⟩⟩, fun q2 => ⟨by decide +kernel, g1, ?_⟩⟩
        · rw [cntG, if_pos ⟨a, b⟩, wrap64 (by omega)]
        · rw [cntG, if_neg (fun h => by have := a h.1; omega)]
        · have : i = ms.length := by omega
          subst this
          rw [wrap64 (n := 2 * _) (by omega), wrap64 (n := (p : Int) - 1) (by omega)]
          refine ⟨fun a b => by rw [hu g3, if_pos ⟨a, b⟩], fun a => ⟨⟨p - 1, by omega, by omega, ?_⟩, by omega⟩⟩
          rw [hu g3, if_neg (fun h => by have := a h.1; omega)]
    · rw [g2, advG_low (by rw [hc]; exact g3) (by rw [hc]; exact p1), hc]

end Go.Proofs.Ytmjjdfhpnckacab
