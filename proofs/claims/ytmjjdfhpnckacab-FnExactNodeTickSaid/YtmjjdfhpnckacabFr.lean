/-
  The contracts of the laws' helpers on nodes and messages.
  Conditions: none.
-/
import Derived.Test.YtmjjdfhpnckacabFq
namespace Go.Proofs.Ytmjjdfhpnckacab
set_option maxRecDepth 100000
set_option linter.unusedSimpArgs false

/-- What is left behind a node's size. -/
def szQ (a : Int) (v x m : Nat) : Int := if a < 0 then -1 else if szR1 a v < 0 then -1 else if szR1 (szR1 a v) x < 0 then -1 else szR1 (szR1 (szR1 a v) x) m
def szN (v : List PV) (l : Int) : Int := szQ (szGs rowLen (nth v 6).L l) (nth v 10).L.length (nth v 11).L.length (nth v 12).L.length
theorem szR1_le {l : Int} {n : Nat} (h : 0 ≤ l) : szR1 l n ≤ l ∧ -1 ≤ szR1 l n ∧ (0 ≤ szR1 l n → (n : Int) ≤ l) := by
  unfold szR1; split <;> omega

def c_szNode : FSpec := ⟨[(.rd, .agg [.int .i64, .int .i64, .int .i64, .int .i64, .int .i64, .bool, .list (.agg [.int .i64, .str]), .int .i64, .int .i64, .int .i64, .list (.int .i64), .list (.int .i64), .list (.int .i64)]), (.rd, .int .i64)], [.int .i64], true, fun ps => 0 ≤ (nth ps 1).I, fun ps => [.int .i64 (szN (nth ps 0).A (nth ps 1).I)], fun _ => []⟩
theorem k_szNode : FnOk Try.prog 16 c_szNode := by
  refine fn_mk [0, 1, 2, 4] [.tmp 4] (env_cons (cs := []) k_szIntS (env_cons (cs := []) k_szEntryS (env_nil (tyTab_ok [])))) mixed Try.func16 rfl (by decide) rfl (by decide) rfl ?_
  intro ps hT hpre W hW
  simp only [c_szNode, TyA, Ty, Tys] at hT hpre
  obtain ⟨_, _, rfl, ⟨_, rfl, _, _, rfl, ⟨n0, rfl, hn0⟩, _, _, rfl, ⟨n1, rfl, hn1⟩, _, _, rfl, ⟨n2, rfl, hn2⟩, _, _, rfl, ⟨n3, rfl, hn3⟩, _, _, rfl, ⟨n4, rfl, hn4⟩, _, _, rfl, ⟨u, rfl⟩, _, _, rfl, ⟨es, rfl, hes, tes⟩, _, _, rfl, ⟨n5, rfl, hn5⟩, _, _, rfl, ⟨n6, rfl, hn6⟩, _, _, rfl, ⟨n7, rfl, hn7⟩, _, _, rfl, ⟨vs, rfl, hvs, tvs⟩, _, _, rfl, ⟨xs, rfl, hxs, txs⟩, _, _, rfl, ⟨ms, rfl, hms, tms⟩, rfl⟩, _, _, rfl, ⟨l, rfl, hl⟩, rfl⟩ := hT
  simp only [nth_zero, nth_succ, pv_I] at hpre
  have h1 := szGs_le rowLen_nn (es := es) hpre
  refine hW.vc [] _ _ ?_
  simp [-List.getD_eq_getElem?_getD, nth_fold, nth_zero, nth_succ, pv_I, pv_B, pv_S, pv_L, pv_A, pv_at, lv_int, lv_bool, lv_str, lv_list, lv_agg, PTy.leaves, PTy.wd, inR, TI.sz, TI.pty, lk, set1, memB, anyB, kill, strike, stillH, unpath, still, prom, proms, dpB, dpAll, ndB, isNil, shOk, takeIn, takeOk, St.slot, ofConst1, ofConsts, ofConst, St.ev, SV.cells, SV.ofCells, SV.leafB, leafAll, fixL, zeroSV, zeroSVs, zeroLf, zeroLfs, zeroPV, resL, resLs, resB, resBs, resT, resTs, resEs, introL, noP, elP, introV, introVs, packV, binI, binS, imp, evs, closes, findFn, slsOf, slsAll, argLs, argsLs, pathOf, rdHs1, rdHsL, rdHs, rdsHs, rdOk, lendOk, backL, backs, ownersOf, allRd, soleMt, firstP, callRd, callPt, callOw, callOwn, callRes, idxs, oprs, fillSV, partsOk, convRes, viewE, viewA, pathE, pathA, sliceRes, evO, etaL, storeEl, loadEl, flatL, flatLs, flatB, leafD, leafDs, dataB, ownO, sameO, isStruct, aggOk, leafAt, srcOf, joinB, joinOk, appRes, copyTo, copyRes, builtinRes, loadHy, eqCs, lvsOf, opRes, nilRes, guardOf, csz, ksz, unwd, dstOk, putS, vcK, vwCall, skipR, stepD, vcD, growP, rdCall, convP, rn, entV, entVs, entR, entO, entH, hlts, domH, entA, entL, ent, itVal, hsV, hsVs, itSlots, itBoxes, dropL, hsL, hsA, onlyR, gcH, gcA, itReach, itLay, itSt, mr, mrs, itRho, itOk, introB, introBs, introR, introX, introT, introTs, lkAll, numb, resMs, retOk, mtTy, bxCs, mtSls, mtHs, finFr, finOf, SV.lt, SV.lts, IntKind.min, IntKind.max, IntKind.signed, IntKind.bits, LIM, ty3, T3_sz, T3_pty, T3, ty4, T4_sz, T4_pty, T4, ty9, T9_sz, T9_pty, T9, ty34, T34_sz, T34_pty, T34, ty35, T35_sz, T35_pty, T35, ty37, T37_sz, T37_pty, T37, ty119, T119_sz, T119_pty, T119, c_szNode, c_szEntryS, c_szIntS]
  simp only [szN, nth_zero, nth_succ, pv_L]
  unfold szQ
  refine ⟨hpre, fun q => by rw [if_pos q], fun q => ⟨q, fun q2 => by rw [if_neg (by omega), if_pos q2], fun q2 => ⟨q2, fun q3 => by rw [if_neg (by omega), if_neg (by omega), if_pos q3], fun q3 => ⟨q3, fun q4 => ?_, fun q4 => ?_⟩⟩⟩⟩
  · rw [if_neg (by omega), if_neg (by omega), if_neg (by omega)]
    have := (szR1_le (n := ms.length) q3).2.1
    omega
  · rw [if_neg (by omega), if_neg (by omega), if_neg (by omega)]
theorem szN_le {n0 n1 n2 n3 n4 n5 n6 n7 : Int} {u : Bool} {es vs xs ms : List PV} {l : Int} (h : 0 ≤ l) (h2 : 0 ≤ szN [.int .i64 n0, .int .i64 n1, .int .i64 n2, .int .i64 n3, .int .i64 n4, .bool u, .list es, .int .i64 n5, .int .i64 n6, .int .i64 n7, .list vs, .list xs, .list ms] l) :
    (es.length : Int) + vs.length + xs.length + ms.length ≤ 4 * l := by
  simp only [szN, nth_zero, nth_succ, pv_L] at h2
  unfold szQ at h2
  have a1 := szGs_le rowLen_nn (es := es) h
  split at h2
  · omega
  · rename_i q1
    have a2 := szR1_le (n := vs.length) (Int.not_lt.1 q1)
    split at h2
    · omega
    · rename_i q2
      have a3 := szR1_le (n := xs.length) (Int.not_lt.1 q2)
      split at h2
      · omega
      · rename_i q3
        have a4 := szR1_le (n := ms.length) (Int.not_lt.1 q3)
        omega

def c_toNode : FSpec := ⟨[(.rd, .agg [.int .i64, .int .i64, .int .i64, .int .i64, .int .i64, .bool, .list (.agg [.int .i64, .str]), .int .i64, .int .i64, .int .i64, .list (.int .i64), .list (.int .i64), .list (.int .i64)])], [.agg [.int .i64, .int .i64, .int .i64, .int .i64, .int .i64, .bool, .list (.agg [.int .i64, .str]), .int .i64, .int .i64, .int .i64, .list (.int .i64), .list (.int .i64), .list (.int .i64)]], true, fun ps => (nth (nth ps 0).A 6).L.length ≤ 1048576 ∧ (nth (nth ps 0).A 10).L.length ≤ 1048576 ∧ (nth (nth ps 0).A 11).L.length ≤ 1048576 ∧ (nth (nth ps 0).A 12).L.length ≤ 1048576, fun ps => [nth ps 0], fun _ => []⟩
theorem k_toNode : FnOk Try.prog 18 c_toNode := by
  refine fn_mk [0, 1, 2, 3] [.cell 2 41] (env_cons (cs := []) k_toIntS (env_cons (cs := []) k_toEntryS (env_nil (tyTab_ok [])))) mixed Try.func18 rfl (by decide) rfl (by decide) rfl ?_
  intro ps hT hpre W hW
  simp only [c_toNode, TyA, Ty, Tys] at hT hpre
  obtain ⟨_, _, rfl, ⟨_, rfl, _, _, rfl, ⟨n0, rfl, hn0⟩, _, _, rfl, ⟨n1, rfl, hn1⟩, _, _, rfl, ⟨n2, rfl, hn2⟩, _, _, rfl, ⟨n3, rfl, hn3⟩, _, _, rfl, ⟨n4, rfl, hn4⟩, _, _, rfl, ⟨u, rfl⟩, _, _, rfl, ⟨es, rfl, hes, tes⟩, _, _, rfl, ⟨n5, rfl, hn5⟩, _, _, rfl, ⟨n6, rfl, hn6⟩, _, _, rfl, ⟨n7, rfl, hn7⟩, _, _, rfl, ⟨vs, rfl, hvs, tvs⟩, _, _, rfl, ⟨xs, rfl, hxs, txs⟩, _, _, rfl, ⟨ms, rfl, hms, tms⟩, rfl⟩, rfl⟩ := hT
  simp only [nth_zero, nth_succ, pv_A, pv_L] at hpre
  refine hW.vc [] _ _ ?_
  simp [-List.getD_eq_getElem?_getD, nth_fold, nth_zero, nth_succ, pv_I, pv_B, pv_S, pv_L, pv_A, pv_at, lv_int, lv_bool, lv_str, lv_list, lv_agg, PTy.leaves, PTy.wd, inR, TI.sz, TI.pty, lk, set1, memB, anyB, kill, strike, stillH, unpath, still, prom, proms, dpB, dpAll, ndB, isNil, shOk, takeIn, takeOk, St.slot, ofConst1, ofConsts, ofConst, St.ev, SV.cells, SV.ofCells, SV.leafB, leafAll, fixL, zeroSV, zeroSVs, zeroLf, zeroLfs, zeroPV, resL, resLs, resB, resBs, resT, resTs, resEs, introL, noP, elP, introV, introVs, packV, binI, binS, imp, evs, closes, findFn, slsOf, slsAll, argLs, argsLs, pathOf, rdHs1, rdHsL, rdHs, rdsHs, rdOk, lendOk, backL, backs, ownersOf, allRd, soleMt, firstP, callRd, callPt, callOw, callOwn, callRes, idxs, oprs, fillSV, partsOk, convRes, viewE, viewA, pathE, pathA, sliceRes, evO, etaL, storeEl, loadEl, flatL, flatLs, flatB, leafD, leafDs, dataB, ownO, sameO, isStruct, aggOk, leafAt, srcOf, joinB, joinOk, appRes, copyTo, copyRes, builtinRes, loadHy, eqCs, lvsOf, opRes, nilRes, guardOf, csz, ksz, unwd, dstOk, putS, vcK, vwCall, skipR, stepD, vcD, growP, rdCall, convP, rn, entV, entVs, entR, entO, entH, hlts, domH, entA, entL, ent, itVal, hsV, hsVs, itSlots, itBoxes, dropL, hsL, hsA, onlyR, gcH, gcA, itReach, itLay, itSt, mr, mrs, itRho, itOk, introB, introBs, introR, introX, introT, introTs, lkAll, numb, resMs, retOk, mtTy, bxCs, mtSls, mtHs, finFr, finOf, SV.lt, SV.lts, IntKind.min, IntKind.max, IntKind.signed, IntKind.bits, LIM, ty3, T3_sz, T3_pty, T3, ty4, T4_sz, T4_pty, T4, ty9, T9_sz, T9_pty, T9, ty34, T34_sz, T34_pty, T34, ty35, T35_sz, T35_pty, T35, ty37, T37_sz, T37_pty, T37, ty39, T39_sz, T39_pty, T39, ty41, T41_sz, T41_pty, T41, ty119, T119_sz, T119_pty, T119, ty128, T128_sz, T128_pty, T128, c_toNode, c_toEntryS, c_toIntS]
  exact hpre

def eqNd (a b : List PV) : Bool := (nth a 0).I == (nth b 0).I && (nth a 1).I == (nth b 1).I && (nth a 2).I == (nth b 2).I && (nth a 3).I == (nth b 3).I && (nth a 4).I == (nth b 4).I && (nth a 5).B == (nth b 5).B && eqL eqRow2 (nth a 6).L (nth b 6).L &&
  (nth a 7).I == (nth b 7).I && (nth a 8).I == (nth b 8).I && (nth a 9).I == (nth b 9).I && eqL eqB (nth a 10).L (nth b 10).L && eqL eqB (nth a 11).L (nth b 11).L && eqL eqB (nth a 12).L (nth b 12).L
def c_eqNode : FSpec := ⟨[(.rd, .agg [.int .i64, .int .i64, .int .i64, .int .i64, .int .i64, .bool, .list (.agg [.int .i64, .str]), .int .i64, .int .i64, .int .i64, .list (.int .i64), .list (.int .i64), .list (.int .i64)]), (.rd, .agg [.int .i64, .int .i64, .int .i64, .int .i64, .int .i64, .bool, .list (.agg [.int .i64, .str]), .int .i64, .int .i64, .int .i64, .list (.int .i64), .list (.int .i64), .list (.int .i64)])], [.bool], true, fun _ => True, fun ps => [.bool (eqNd (nth ps 0).A (nth ps 1).A)], fun _ => []⟩
theorem k_eqNode : FnOk Try.prog 20 c_eqNode := by
  refine fn_mk [0, 1, 2, 3, 4] [.tmp 4] (env_cons (cs := []) k_eqIntS (env_cons (cs := []) k_eqEntryS (env_nil (tyTab_ok [])))) mixed Try.func20 rfl (by decide) rfl (by decide) rfl ?_
  intro ps hT hpre W hW
  simp only [c_eqNode, TyA, Ty, Tys] at hT hpre
  obtain ⟨_, _, rfl, ⟨_, rfl, _, _, rfl, ⟨n0, rfl, hn0⟩, _, _, rfl, ⟨n1, rfl, hn1⟩, _, _, rfl, ⟨n2, rfl, hn2⟩, _, _, rfl, ⟨n3, rfl, hn3⟩, _, _, rfl, ⟨n4, rfl, hn4⟩, _, _, rfl, ⟨u, rfl⟩, _, _, rfl, ⟨es, rfl, hes, tes⟩, _, _, rfl, ⟨n5, rfl, hn5⟩, _, _, rfl, ⟨n6, rfl, hn6⟩, _, _, rfl, ⟨n7, rfl, hn7⟩, _, _, rfl, ⟨vs, rfl, hvs, tvs⟩, _, _, rfl, ⟨xs, rfl, hxs, txs⟩, _, _, rfl, ⟨ms, rfl, hms, tms⟩, rfl⟩, _, _, rfl, ⟨_, rfl, _, _, rfl, ⟨n0', rfl, hn0'⟩, _, _, rfl, ⟨n1', rfl, hn1'⟩, _, _, rfl, ⟨n2', rfl, hn2'⟩, _, _, rfl, ⟨n3', rfl, hn3'⟩, _, _, rfl, ⟨n4', rfl, hn4'⟩, _, _, rfl, ⟨u', rfl⟩, _, _, rfl, ⟨es', rfl, hes', tes'⟩, _, _, rfl, ⟨n5', rfl, hn5'⟩, _, _, rfl, ⟨n6', rfl, hn6'⟩, _, _, rfl, ⟨n7', rfl, hn7'⟩, _, _, rfl, ⟨vs', rfl, hvs', tvs'⟩, _, _, rfl, ⟨xs', rfl, hxs', txs'⟩, _, _, rfl, ⟨ms', rfl, hms', tms'⟩, rfl⟩, rfl⟩ := hT
  refine hW.vc [] _ _ ?_
  simp [-List.getD_eq_getElem?_getD, nth_fold, nth_zero, nth_succ, pv_I, pv_B, pv_S, pv_L, pv_A, pv_at, lv_int, lv_bool, lv_str, lv_list, lv_agg, PTy.leaves, PTy.wd, inR, TI.sz, TI.pty, lk, set1, memB, anyB, kill, strike, stillH, unpath, still, prom, proms, dpB, dpAll, ndB, isNil, shOk, takeIn, takeOk, St.slot, ofConst1, ofConsts, ofConst, St.ev, SV.cells, SV.ofCells, SV.leafB, leafAll, fixL, zeroSV, zeroSVs, zeroLf, zeroLfs, zeroPV, resL, resLs, resB, resBs, resT, resTs, resEs, introL, noP, elP, introV, introVs, packV, binI, binS, imp, evs, closes, findFn, slsOf, slsAll, argLs, argsLs, pathOf, rdHs1, rdHsL, rdHs, rdsHs, rdOk, lendOk, backL, backs, ownersOf, allRd, soleMt, firstP, callRd, callPt, callOw, callOwn, callRes, idxs, oprs, fillSV, partsOk, convRes, viewE, viewA, pathE, pathA, sliceRes, evO, etaL, storeEl, loadEl, flatL, flatLs, flatB, leafD, leafDs, dataB, ownO, sameO, isStruct, aggOk, leafAt, srcOf, joinB, joinOk, appRes, copyTo, copyRes, builtinRes, loadHy, eqCs, lvsOf, opRes, nilRes, guardOf, csz, ksz, unwd, dstOk, putS, vcK, vwCall, skipR, stepD, vcD, growP, rdCall, convP, rn, entV, entVs, entR, entO, entH, hlts, domH, entA, entL, ent, itVal, hsV, hsVs, itSlots, itBoxes, dropL, hsL, hsA, onlyR, gcH, gcA, itReach, itLay, itSt, mr, mrs, itRho, itOk, introB, introBs, introR, introX, introT, introTs, lkAll, numb, resMs, retOk, mtTy, bxCs, mtSls, mtHs, finFr, finOf, SV.lt, SV.lts, IntKind.min, IntKind.max, IntKind.signed, IntKind.bits, LIM, ty3, T3_sz, T3_pty, T3, ty4, T4_sz, T4_pty, T4, ty9, T9_sz, T9_pty, T9, ty35, T35_sz, T35_pty, T35, ty39, T39_sz, T39_pty, T39, ty41, T41_sz, T41_pty, T41, ty128, T128_sz, T128_pty, T128, c_eqNode, c_eqEntryS, c_eqIntS]
  simp only [eqNd, nth_zero, nth_succ, pv_I, pv_B, pv_L]
  exact ⟨fun q1 => by simp [q1], fun q1 => ⟨fun q2 => by simp [q2], fun q2 => ⟨fun q3 => by simp [q3], fun q3 => ⟨fun q4 => by simp [q4], fun q4 => ⟨fun q5 => by simp [q5], fun q5 => ⟨fun q6 => by simp [q6], fun q6 => ⟨fun q7 => by simp [q7], fun q7 => ⟨fun q8 => by simp [q8], fun q8 => ⟨fun q9 => by simp [q9], fun q9 => ⟨fun q10 => by simp [q10], fun q10 => ⟨fun q11 => by simp [q11], fun q11 => ⟨fun q12 => by simp [q12], fun q12 => ⟨fun q13 => by simp [q13], fun q13 => by simp [q1, q2, q3, q4, q5, q6, q7, q8, q9, q10, q11, q12, q13]⟩⟩⟩⟩⟩⟩⟩⟩⟩⟩⟩⟩⟩
theorem eqNd_refl (v : List PV) : eqNd v v = true := by simp [eqNd, eqL_refl (f := eqRow2) eqRow2_refl, eqB_refl]

def eqMg (a b : List PV) : Bool := (nth a 0).I == (nth b 0).I && (nth a 1).I == (nth b 1).I && (nth a 2).I == (nth b 2).I && (nth a 3).I == (nth b 3).I && (nth a 4).I == (nth b 4).I && (nth a 5).I == (nth b 5).I && (nth a 6).I == (nth b 6).I && (nth a 7).B == (nth b 7).B && eqL eqRow2 (nth a 8).L (nth b 8).L
theorem eqMg_refl (v : List PV) : eqMg v v = true := by simp [eqMg, eqL_refl (f := eqRow2) eqRow2_refl]
def c_eqMessage : FSpec := ⟨[(.rd, .agg [.int .i64, .int .i64, .int .i64, .int .i64, .int .i64, .int .i64, .int .i64, .bool, .list (.agg [.int .i64, .str])]), (.rd, .agg [.int .i64, .int .i64, .int .i64, .int .i64, .int .i64, .int .i64, .int .i64, .bool, .list (.agg [.int .i64, .str])])], [.bool], true, fun _ => True, fun ps => [.bool (eqMg (nth ps 0).A (nth ps 1).A)], fun _ => []⟩
theorem k_eqMessage : FnOk Try.prog 45 c_eqMessage := by
  refine fn_mk [0, 1, 2, 3, 4] [.tmp 4] (env_cons (cs := []) k_eqEntryS (env_nil (tyTab_ok []))) mixed Try.func45 rfl (by decide) rfl (by decide) rfl ?_
  intro ps hT hpre W hW
  simp only [c_eqMessage, TyA, Ty, Tys] at hT hpre
  obtain ⟨_, _, rfl, ⟨_, rfl, _, _, rfl, ⟨n0, rfl, hn0⟩, _, _, rfl, ⟨n1, rfl, hn1⟩, _, _, rfl, ⟨n2, rfl, hn2⟩, _, _, rfl, ⟨n3, rfl, hn3⟩, _, _, rfl, ⟨n4, rfl, hn4⟩, _, _, rfl, ⟨n5, rfl, hn5⟩, _, _, rfl, ⟨n6, rfl, hn6⟩, _, _, rfl, ⟨u, rfl⟩, _, _, rfl, ⟨es, rfl, hes, tes⟩, rfl⟩, _, _, rfl, ⟨_, rfl, _, _, rfl, ⟨n0', rfl, hn0'⟩, _, _, rfl, ⟨n1', rfl, hn1'⟩, _, _, rfl, ⟨n2', rfl, hn2'⟩, _, _, rfl, ⟨n3', rfl, hn3'⟩, _, _, rfl, ⟨n4', rfl, hn4'⟩, _, _, rfl, ⟨n5', rfl, hn5'⟩, _, _, rfl, ⟨n6', rfl, hn6'⟩, _, _, rfl, ⟨u', rfl⟩, _, _, rfl, ⟨es', rfl, hes', tes'⟩, rfl⟩, rfl⟩ := hT
  refine hW.vc [] _ _ ?_
  simp [-List.getD_eq_getElem?_getD, nth_fold, nth_zero, nth_succ, pv_I, pv_B, pv_S, pv_L, pv_A, pv_at, lv_int, lv_bool, lv_str, lv_list, lv_agg, PTy.leaves, PTy.wd, inR, TI.sz, TI.pty, lk, set1, memB, anyB, kill, strike, stillH, unpath, still, prom, proms, dpB, dpAll, ndB, isNil, shOk, takeIn, takeOk, St.slot, ofConst1, ofConsts, ofConst, St.ev, SV.cells, SV.ofCells, SV.leafB, leafAll, fixL, zeroSV, zeroSVs, zeroLf, zeroLfs, zeroPV, resL, resLs, resB, resBs, resT, resTs, resEs, introL, noP, elP, introV, introVs, packV, binI, binS, imp, evs, closes, findFn, slsOf, slsAll, argLs, argsLs, pathOf, rdHs1, rdHsL, rdHs, rdsHs, rdOk, lendOk, backL, backs, ownersOf, allRd, soleMt, firstP, callRd, callPt, callOw, callOwn, callRes, idxs, oprs, fillSV, partsOk, convRes, viewE, viewA, pathE, pathA, sliceRes, evO, etaL, storeEl, loadEl, flatL, flatLs, flatB, leafD, leafDs, dataB, ownO, sameO, isStruct, aggOk, leafAt, srcOf, joinB, joinOk, appRes, copyTo, copyRes, builtinRes, loadHy, eqCs, lvsOf, opRes, nilRes, guardOf, csz, ksz, unwd, dstOk, putS, vcK, vwCall, skipR, stepD, vcD, growP, rdCall, convP, rn, entV, entVs, entR, entO, entH, hlts, domH, entA, entL, ent, itVal, hsV, hsVs, itSlots, itBoxes, dropL, hsL, hsA, onlyR, gcH, gcA, itReach, itLay, itSt, mr, mrs, itRho, itOk, introB, introBs, introR, introX, introT, introTs, lkAll, numb, resMs, retOk, mtTy, bxCs, mtSls, mtHs, finFr, finOf, SV.lt, SV.lts, IntKind.min, IntKind.max, IntKind.signed, IntKind.bits, LIM, ty3, T3_sz, T3_pty, T3, ty4, T4_sz, T4_pty, T4, ty9, T9_sz, T9_pty, T9, ty39, T39_sz, T39_pty, T39, ty54, T54_sz, T54_pty, T54, ty128, T128_sz, T128_pty, T128, c_eqMessage, c_eqEntryS]
  simp only [eqMg, nth_zero, nth_succ, pv_I, pv_B, pv_L]
  exact ⟨fun q1 => by simp [q1], fun q1 => ⟨fun q2 => by simp [q2], fun q2 => ⟨fun q3 => by simp [q3], fun q3 => ⟨fun q4 => by simp [q4], fun q4 => ⟨fun q5 => by simp [q5], fun q5 => ⟨fun q6 => by simp [q6], fun q6 => ⟨fun q7 => by simp [q7], fun q7 => ⟨fun q8 => by simp [q8], fun q8 => ⟨fun q9 => by simp [q9], fun q9 => by simp [q1, q2, q3, q4, q5, q6, q7, q8, q9]⟩⟩⟩⟩⟩⟩⟩⟩⟩
def eqMg2 (a b : PV) : Bool := eqMg a.A b.A
theorem eqMs_refl (es : List PV) : eqL eqMg2 es es = true := eqL_refl fun _ => eqMg_refl _

def c_eqMessageS : FSpec := ⟨[(.rd, .list (.agg [.int .i64, .int .i64, .int .i64, .int .i64, .int .i64, .int .i64, .int .i64, .bool, .list (.agg [.int .i64, .str])])), (.rd, .list (.agg [.int .i64, .int .i64, .int .i64, .int .i64, .int .i64, .int .i64, .int .i64, .bool, .list (.agg [.int .i64, .str])]))], [.bool], true, fun _ => True, fun ps => [.bool (eqL eqMg2 (nth ps 0).L (nth ps 1).L)], fun _ => []⟩
theorem k_eqMessageS : FnOk Try.prog 21 c_eqMessageS := by
  refine fn_mk [0, 1, 4, 5] [.tmp 4] (env_cons (cs := []) k_eqMessage (env_nil (tyTab_ok []))) mixed Try.func21 rfl (by decide) rfl (by decide) rfl ?_
  intro ps hT hpre W hW
  simp only [c_eqMessageS, TyA, Ty, Tys] at hT hpre
  obtain ⟨_, _, rfl, ⟨es, rfl, hes, tes⟩, _, _, rfl, ⟨es2, rfl, hes2, tes2⟩, rfl⟩ := hT
  refine hW.vc [(6, [], .take 0 <| .take 1 <| .take 2 <| .take 3 <| .take 4 <| .take 5 <| .take 6 <| .take 7 <| .alt 8 (.take 9 <| .done) .stop)] _ _ ?_
  simp [-List.getD_eq_getElem?_getD, nth_fold, nth_zero, nth_succ, pv_I, pv_B, pv_S, pv_L, pv_A, pv_at, lv_int, lv_bool, lv_str, lv_list, lv_agg, PTy.leaves, PTy.wd, inR, TI.sz, TI.pty, lk, set1, memB, anyB, kill, strike, stillH, unpath, still, prom, proms, dpB, dpAll, ndB, isNil, shOk, takeIn, takeOk, St.slot, ofConst1, ofConsts, ofConst, St.ev, SV.cells, SV.ofCells, SV.leafB, leafAll, fixL, zeroSV, zeroSVs, zeroLf, zeroLfs, zeroPV, resL, resLs, resB, resBs, resT, resTs, resEs, introL, noP, elP, introV, introVs, packV, binI, binS, imp, evs, closes, findFn, slsOf, slsAll, argLs, argsLs, pathOf, rdHs1, rdHsL, rdHs, rdsHs, rdOk, lendOk, backL, backs, ownersOf, allRd, soleMt, firstP, callRd, callPt, callOw, callOwn, callRes, idxs, oprs, fillSV, partsOk, convRes, viewE, viewA, pathE, pathA, sliceRes, evO, etaL, storeEl, loadEl, flatL, flatLs, flatB, leafD, leafDs, dataB, ownO, sameO, isStruct, aggOk, leafAt, srcOf, joinB, joinOk, appRes, copyTo, copyRes, builtinRes, loadHy, eqCs, lvsOf, opRes, nilRes, guardOf, csz, ksz, unwd, dstOk, putS, vcK, vwCall, skipR, stepD, vcD, growP, rdCall, convP, rn, entV, entVs, entR, entO, entH, hlts, domH, entA, entL, ent, itVal, hsV, hsVs, itSlots, itBoxes, dropL, hsL, hsA, onlyR, gcH, gcA, itReach, itLay, itSt, mr, mrs, itRho, itOk, introB, introBs, introR, introX, introT, introTs, lkAll, numb, resMs, retOk, mtTy, bxCs, mtSls, mtHs, finFr, finOf, SV.lt, SV.lts, IntKind.min, IntKind.max, IntKind.signed, IntKind.bits, LIM, ty3, T3_sz, T3_pty, T3, ty4, T4_sz, T4_pty, T4, ty9, T9_sz, T9_pty, T9, ty39, T39_sz, T39_pty, T39, ty42, T42_sz, T42_pty, T42, ty54, T54_sz, T54_pty, T54, ty128, T128_sz, T128_pty, T128, c_eqMessageS, c_eqMessage]
  refine fun h1 h2 => ⟨fun h3 => eqL_len (by omega), fun h3 => ?_⟩
  refine hW.loopS _ _ _ [.sl 5 .dp (.int .i64)] (fun ys => ∃ i : Nat, ys = [.int .i64 i] ∧ i ≤ es.length ∧ eqL eqMg2 es es2 = eqL eqMg2 (es.drop i) (es2.drop i)) (fun ys => es.length - (nth ys 0).I.toNat) ?_ ?_
  · simp [-List.getD_eq_getElem?_getD, nth_fold, nth_zero, nth_succ, pv_I, pv_B, pv_S, pv_L, pv_A, pv_at, lv_int, lv_bool, lv_str, lv_list, lv_agg, PTy.leaves, PTy.wd, inR, TI.sz, TI.pty, lk, set1, memB, anyB, kill, strike, stillH, unpath, still, prom, proms, dpB, dpAll, ndB, isNil, shOk, takeIn, takeOk, St.slot, ofConst1, ofConsts, ofConst, St.ev, SV.cells, SV.ofCells, SV.leafB, leafAll, fixL, zeroSV, zeroSVs, zeroLf, zeroLfs, zeroPV, resL, resLs, resB, resBs, resT, resTs, resEs, introL, noP, elP, introV, introVs, packV, binI, binS, imp, evs, closes, findFn, slsOf, slsAll, argLs, argsLs, pathOf, rdHs1, rdHsL, rdHs, rdsHs, rdOk, lendOk, backL, backs, ownersOf, allRd, soleMt, firstP, callRd, callPt, callOw, callOwn, callRes, idxs, oprs, fillSV, partsOk, convRes, viewE, viewA, pathE, pathA, sliceRes, evO, etaL, storeEl, loadEl, flatL, flatLs, flatB, leafD, leafDs, dataB, ownO, sameO, isStruct, aggOk, leafAt, srcOf, joinB, joinOk, appRes, copyTo, copyRes, builtinRes, loadHy, eqCs, lvsOf, opRes, nilRes, guardOf, csz, ksz, unwd, dstOk, putS, vcK, vwCall, skipR, stepD, vcD, growP, rdCall, convP, rn, entV, entVs, entR, entO, entH, hlts, domH, entA, entL, ent, itVal, hsV, hsVs, itSlots, itBoxes, dropL, hsL, hsA, onlyR, gcH, gcA, itReach, itLay, itSt, mr, mrs, itRho, itOk, introB, introBs, introR, introX, introT, introTs, lkAll, numb, resMs, retOk, mtTy, bxCs, mtSls, mtHs, finFr, finOf, SV.lt, SV.lts, IntKind.min, IntKind.max, IntKind.signed, IntKind.bits, LIM, ty3, T3_sz, T3_pty, T3, ty4, T4_sz, T4_pty, T4, ty9, T9_sz, T9_pty, T9, ty39, T39_sz, T39_pty, T39, ty42, T42_sz, T42_pty, T42, ty54, T54_sz, T54_pty, T54, ty128, T128_sz, T128_pty, T128, c_eqMessageS, c_eqMessage]
    exact ⟨0, rfl, by simp, by simp⟩
  · rintro ys ⟨i, rfl, h4, h5⟩
    refine hW.vc [(6, [], .take 0 <| .take 1 <| .take 2 <| .take 3 <| .take 4 <| .take 5 <| .take 6 <| .take 7 <| .alt 8 (.take 9 <| .done) .stop)] _ _ ?_
    simp [-List.getD_eq_getElem?_getD, nth_fold, nth_zero, nth_succ, pv_I, pv_B, pv_S, pv_L, pv_A, pv_at, lv_int, lv_bool, lv_str, lv_list, lv_agg, PTy.leaves, PTy.wd, inR, TI.sz, TI.pty, lk, set1, memB, anyB, kill, strike, stillH, unpath, still, prom, proms, dpB, dpAll, ndB, isNil, shOk, takeIn, takeOk, St.slot, ofConst1, ofConsts, ofConst, St.ev, SV.cells, SV.ofCells, SV.leafB, leafAll, fixL, zeroSV, zeroSVs, zeroLf, zeroLfs, zeroPV, resL, resLs, resB, resBs, resT, resTs, resEs, introL, noP, elP, introV, introVs, packV, binI, binS, imp, evs, closes, findFn, slsOf, slsAll, argLs, argsLs, pathOf, rdHs1, rdHsL, rdHs, rdsHs, rdOk, lendOk, backL, backs, ownersOf, allRd, soleMt, firstP, callRd, callPt, callOw, callOwn, callRes, idxs, oprs, fillSV, partsOk, convRes, viewE, viewA, pathE, pathA, sliceRes, evO, etaL, storeEl, loadEl, flatL, flatLs, flatB, leafD, leafDs, dataB, ownO, sameO, isStruct, aggOk, leafAt, srcOf, joinB, joinOk, appRes, copyTo, copyRes, builtinRes, loadHy, eqCs, lvsOf, opRes, nilRes, guardOf, csz, ksz, unwd, dstOk, putS, vcK, vwCall, skipR, stepD, vcD, growP, rdCall, convP, rn, entV, entVs, entR, entO, entH, hlts, domH, entA, entL, ent, itVal, hsV, hsVs, itSlots, itBoxes, dropL, hsL, hsA, onlyR, gcH, gcA, itReach, itLay, itSt, mr, mrs, itRho, itOk, introB, introBs, introR, introX, introT, introTs, lkAll, numb, resMs, retOk, mtTy, bxCs, mtSls, mtHs, finFr, finOf, SV.lt, SV.lts, IntKind.min, IntKind.max, IntKind.signed, IntKind.bits, LIM, ty3, T3_sz, T3_pty, T3, ty4, T4_sz, T4_pty, T4, ty9, T9_sz, T9_pty, T9, ty39, T39_sz, T39_pty, T39, ty42, T42_sz, T42_pty, T42, ty54, T54_sz, T54_pty, T54, ty128, T128_sz, T128_pty, T128, c_eqMessageS, c_eqMessage]
    refine fun _ => ⟨fun h6 => ⟨by decide +kernel, h6, fun _ _ _ _ _ _ _ _ _ _ _ _ _ _ _ => ⟨by omega, fun _ _ _ _ _ _ _ _ _ _ _ _ _ _ _ => ?_⟩⟩, fun h6 => ?_⟩
    · rw [drop_nth h6, drop_nth (by omega : i < es2.length), eqL] at h5
      have h8 : eqMg [PV.int IntKind.i64 (nth (nth es i).A 0).I, PV.int IntKind.i64 (nth (nth es i).A 1).I, PV.int IntKind.i64 (nth (nth es i).A 2).I, PV.int IntKind.i64 (nth (nth es i).A 3).I, PV.int IntKind.i64 (nth (nth es i).A 4).I, PV.int IntKind.i64 (nth (nth es i).A 5).I,
            PV.int IntKind.i64 (nth (nth es i).A 6).I, PV.bool (nth (nth es i).A 7).B, PV.list (nth (nth es i).A 8).L]
          [PV.int IntKind.i64 (nth (nth es2 i).A 0).I, PV.int IntKind.i64 (nth (nth es2 i).A 1).I, PV.int IntKind.i64 (nth (nth es2 i).A 2).I, PV.int IntKind.i64 (nth (nth es2 i).A 3).I, PV.int IntKind.i64 (nth (nth es2 i).A 4).I, PV.int IntKind.i64 (nth (nth es2 i).A 5).I,
            PV.int IntKind.i64 (nth (nth es2 i).A 6).I, PV.bool (nth (nth es2 i).A 7).B, PV.list (nth (nth es2 i).A 8).L] = eqMg2 (nth es i) (nth es2 i) := rfl
      rw [wrap64 (by omega), h8]
      refine ⟨fun h7 => by rw [h5]; simp [h7], fun h7 => ⟨⟨i + 1, by omega, by omega, by rw [h5]; simp [h7]⟩, by omega⟩⟩
    · rw [h5, List.drop_eq_nil_of_le h6, List.drop_eq_nil_of_le (by omega)]; rfl

def c_markNode : FSpec := ⟨[(.mt, .agg [.int .i64, .int .i64, .int .i64, .int .i64, .int .i64, .bool, .list (.agg [.int .i64, .str]), .int .i64, .int .i64, .int .i64, .list (.int .i64), .list (.int .i64), .list (.int .i64)]), (.rd, .int .i64)], [.int .i64], true, fun ps => 0 ≤ (nth ps 1).I ∧ (nth ps 1).I + 2 * (nth (nth ps 0).A 6).L.length + (nth (nth ps 0).A 10).L.length + (nth (nth ps 0).A 11).L.length + (nth (nth ps 0).A 12).L.length ≤ 1073741823,
  fun ps => [.int .i64 ((nth ps 1).I + 2 * (nth (nth ps 0).A 6).L.length + (nth (nth ps 0).A 10).L.length + (nth (nth ps 0).A 11).L.length + (nth (nth ps 0).A 12).L.length)],
  fun ps => [.agg [nth (nth ps 0).A 0, nth (nth ps 0).A 1, nth (nth ps 0).A 2, nth (nth ps 0).A 3, nth (nth ps 0).A 4, nth (nth ps 0).A 5, .list (markR (nth ps 1).I (nth (nth ps 0).A 6).L.length), nth (nth ps 0).A 7, nth (nth ps 0).A 8, nth (nth ps 0).A 9,
    .list (markI ((nth ps 1).I + 2 * (nth (nth ps 0).A 6).L.length) (nth (nth ps 0).A 10).L.length), .list (markI ((nth ps 1).I + 2 * (nth (nth ps 0).A 6).L.length + (nth (nth ps 0).A 10).L.length) (nth (nth ps 0).A 11).L.length),
    .list (markI ((nth ps 1).I + 2 * (nth (nth ps 0).A 6).L.length + (nth (nth ps 0).A 10).L.length + (nth (nth ps 0).A 11).L.length) (nth (nth ps 0).A 12).L.length)]]⟩
theorem k_markNode : FnOk Try.prog 22 c_markNode := by
  refine fn_mk [0, 1, 2, 4] [.tmp 4] (env_cons (cs := []) k_markIntS (env_cons (cs := []) k_markEntryS (env_nil (tyTab_ok [])))) mixed Try.func22 rfl (by decide) rfl (by decide) rfl ?_
  intro ps hT hpre W hW
  simp only [c_markNode, TyA, Ty, Tys] at hT hpre
  obtain ⟨_, _, rfl, ⟨_, rfl, _, _, rfl, ⟨n0, rfl, hn0⟩, _, _, rfl, ⟨n1, rfl, hn1⟩, _, _, rfl, ⟨n2, rfl, hn2⟩, _, _, rfl, ⟨n3, rfl, hn3⟩, _, _, rfl, ⟨n4, rfl, hn4⟩, _, _, rfl, ⟨u, rfl⟩, _, _, rfl, ⟨es, rfl, hes, tes⟩, _, _, rfl, ⟨n5, rfl, hn5⟩, _, _, rfl, ⟨n6, rfl, hn6⟩, _, _, rfl, ⟨n7, rfl, hn7⟩, _, _, rfl, ⟨vs, rfl, hvs, tvs⟩, _, _, rfl, ⟨xs, rfl, hxs, txs⟩, _, _, rfl, ⟨ms, rfl, hms, tms⟩, rfl⟩, _, _, rfl, ⟨k, rfl, hk⟩, rfl⟩ := hT
  simp only [nth_zero, nth_succ, pv_I, pv_L, pv_A] at hpre
  refine hW.vc [] _ _ ?_
  simp [-List.getD_eq_getElem?_getD, nth_fold, nth_zero, nth_succ, pv_I, pv_B, pv_S, pv_L, pv_A, pv_at, lv_int, lv_bool, lv_str, lv_list, lv_agg, PTy.leaves, PTy.wd, inR, TI.sz, TI.pty, lk, set1, memB, anyB, kill, strike, stillH, unpath, still, prom, proms, dpB, dpAll, ndB, isNil, shOk, takeIn, takeOk, St.slot, ofConst1, ofConsts, ofConst, St.ev, SV.cells, SV.ofCells, SV.leafB, leafAll, fixL, zeroSV, zeroSVs, zeroLf, zeroLfs, zeroPV, resL, resLs, resB, resBs, resT, resTs, resEs, introL, noP, elP, introV, introVs, packV, binI, binS, imp, evs, closes, findFn, slsOf, slsAll, argLs, argsLs, pathOf, rdHs1, rdHsL, rdHs, rdsHs, rdOk, lendOk, backL, backs, ownersOf, allRd, soleMt, firstP, callRd, callPt, callOw, callOwn, callRes, idxs, oprs, fillSV, partsOk, convRes, viewE, viewA, pathE, pathA, sliceRes, evO, etaL, storeEl, loadEl, flatL, flatLs, flatB, leafD, leafDs, dataB, ownO, sameO, isStruct, aggOk, leafAt, srcOf, joinB, joinOk, appRes, copyTo, copyRes, builtinRes, loadHy, eqCs, lvsOf, opRes, nilRes, guardOf, csz, ksz, unwd, dstOk, putS, vcK, vwCall, skipR, stepD, vcD, growP, rdCall, convP, rn, entV, entVs, entR, entO, entH, hlts, domH, entA, entL, ent, itVal, hsV, hsVs, itSlots, itBoxes, dropL, hsL, hsA, onlyR, gcH, gcA, itReach, itLay, itSt, mr, mrs, itRho, itOk, introB, introBs, introR, introX, introT, introTs, lkAll, numb, resMs, retOk, mtTy, bxCs, mtSls, mtHs, finFr, finOf, SV.lt, SV.lts, IntKind.min, IntKind.max, IntKind.signed, IntKind.bits, LIM, ty3, T3_sz, T3_pty, T3, ty4, T4_sz, T4_pty, T4, ty9, T9_sz, T9_pty, T9, ty35, T35_sz, T35_pty, T35, ty39, T39_sz, T39_pty, T39, ty41, T41_sz, T41_pty, T41, ty128, T128_sz, T128_pty, T128, c_markNode, c_markEntryS, c_markIntS]
  exact ⟨by omega, by omega, by omega, by omega⟩
def heldN (k : Int) (es vs xs ms : List PV) : Int :=
  if heldGo heldR1 2 k es < 0 then -1 else if heldGo heldI1 1 (heldGo heldR1 2 k es) vs < 0 then -1 else if heldGo heldI1 1 (heldGo heldI1 1 (heldGo heldR1 2 k es) vs) xs < 0 then -1 else
    heldGo heldI1 1 (heldGo heldI1 1 (heldGo heldI1 1 (heldGo heldR1 2 k es) vs) xs) ms
theorem heldN_mark {k : Int} (h : 0 ≤ k) (a b c d : Nat) : heldN k (markR k a) (markI (k + 2 * a) b) (markI (k + 2 * a + b) c) (markI (k + 2 * a + b + c) d) = k + 2 * a + b + c + d := by
  simp only [heldN, heldR_mark, heldI_mark]
  rw [if_neg (by omega), if_neg (by omega), if_neg (by omega)]
theorem held_le {f : Int → PV → Bool} {d : Int} (hd : 0 ≤ d) : ∀ {es : List PV} {k : Int}, 0 ≤ k → heldGo f d k es = -1 ∨ heldGo f d k es = k + d * es.length
  | [], k, hk => by simp [heldGo]
  | e :: es, k, hk => by
    simp only [heldGo]
    split
    · rcases held_le hd (es := es) (k := k + d) (by omega) with h | h
      · exact .inl h
      · refine .inr ?_
        rw [h, List.length_cons, Int.natCast_add, Int.mul_add]; omega
    · exact .inl rfl
def c_heldNode : FSpec := ⟨[(.rd, .agg [.int .i64, .int .i64, .int .i64, .int .i64, .int .i64, .bool, .list (.agg [.int .i64, .str]), .int .i64, .int .i64, .int .i64, .list (.int .i64), .list (.int .i64), .list (.int .i64)]), (.rd, .int .i64)], [.int .i64], true, fun ps => 0 ≤ (nth ps 1).I ∧ (nth ps 1).I + 2 * (nth (nth ps 0).A 6).L.length + (nth (nth ps 0).A 10).L.length + (nth (nth ps 0).A 11).L.length + (nth (nth ps 0).A 12).L.length ≤ 1073741823,
  fun ps => [.int .i64 (heldN (nth ps 1).I (nth (nth ps 0).A 6).L (nth (nth ps 0).A 10).L (nth (nth ps 0).A 11).L (nth (nth ps 0).A 12).L)], fun _ => []⟩
theorem k_heldNode : FnOk Try.prog 24 c_heldNode := by
  refine fn_mk [0, 1, 2, 4] [.tmp 4] (env_cons (cs := []) k_heldIntS (env_cons (cs := []) k_heldEntryS (env_nil (tyTab_ok [])))) mixed Try.func24 rfl (by decide) rfl (by decide) rfl ?_
  intro ps hT hpre W hW
  simp only [c_heldNode, TyA, Ty, Tys] at hT hpre
  obtain ⟨_, _, rfl, ⟨_, rfl, _, _, rfl, ⟨n0, rfl, hn0⟩, _, _, rfl, ⟨n1, rfl, hn1⟩, _, _, rfl, ⟨n2, rfl, hn2⟩, _, _, rfl, ⟨n3, rfl, hn3⟩, _, _, rfl, ⟨n4, rfl, hn4⟩, _, _, rfl, ⟨u, rfl⟩, _, _, rfl, ⟨es, rfl, hes, tes⟩, _, _, rfl, ⟨n5, rfl, hn5⟩, _, _, rfl, ⟨n6, rfl, hn6⟩, _, _, rfl, ⟨n7, rfl, hn7⟩, _, _, rfl, ⟨vs, rfl, hvs, tvs⟩, _, _, rfl, ⟨xs, rfl, hxs, txs⟩, _, _, rfl, ⟨ms, rfl, hms, tms⟩, rfl⟩, _, _, rfl, ⟨k, rfl, hk⟩, rfl⟩ := hT
  simp only [nth_zero, nth_succ, pv_I, pv_L, pv_A] at hpre
  refine hW.vc [] _ _ ?_
  simp [-List.getD_eq_getElem?_getD, nth_fold, nth_zero, nth_succ, pv_I, pv_B, pv_S, pv_L, pv_A, pv_at, lv_int, lv_bool, lv_str, lv_list, lv_agg, PTy.leaves, PTy.wd, inR, TI.sz, TI.pty, lk, set1, memB, anyB, kill, strike, stillH, unpath, still, prom, proms, dpB, dpAll, ndB, isNil, shOk, takeIn, takeOk, St.slot, ofConst1, ofConsts, ofConst, St.ev, SV.cells, SV.ofCells, SV.leafB, leafAll, fixL, zeroSV, zeroSVs, zeroLf, zeroLfs, zeroPV, resL, resLs, resB, resBs, resT, resTs, resEs, introL, noP, elP, introV, introVs, packV, binI, binS, imp, evs, closes, findFn, slsOf, slsAll, argLs, argsLs, pathOf, rdHs1, rdHsL, rdHs, rdsHs, rdOk, lendOk, backL, backs, ownersOf, allRd, soleMt, firstP, callRd, callPt, callOw, callOwn, callRes, idxs, oprs, fillSV, partsOk, convRes, viewE, viewA, pathE, pathA, sliceRes, evO, etaL, storeEl, loadEl, flatL, flatLs, flatB, leafD, leafDs, dataB, ownO, sameO, isStruct, aggOk, leafAt, srcOf, joinB, joinOk, appRes, copyTo, copyRes, builtinRes, loadHy, eqCs, lvsOf, opRes, nilRes, guardOf, csz, ksz, unwd, dstOk, putS, vcK, vwCall, skipR, stepD, vcD, growP, rdCall, convP, rn, entV, entVs, entR, entO, entH, hlts, domH, entA, entL, ent, itVal, hsV, hsVs, itSlots, itBoxes, dropL, hsL, hsA, onlyR, gcH, gcA, itReach, itLay, itSt, mr, mrs, itRho, itOk, introB, introBs, introR, introX, introT, introTs, lkAll, numb, resMs, retOk, mtTy, bxCs, mtSls, mtHs, finFr, finOf, SV.lt, SV.lts, IntKind.min, IntKind.max, IntKind.signed, IntKind.bits, LIM, ty3, T3_sz, T3_pty, T3, ty4, T4_sz, T4_pty, T4, ty9, T9_sz, T9_pty, T9, ty35, T35_sz, T35_pty, T35, ty39, T39_sz, T39_pty, T39, ty41, T41_sz, T41_pty, T41, ty128, T128_sz, T128_pty, T128, c_heldNode, c_heldEntryS, c_heldIntS]
  have a1 := held_le (f := heldR1) (d := 2) (by omega) (es := es) hpre.1
  refine ⟨⟨hpre.1, by omega⟩, fun q => by rw [heldN, if_pos q], fun q => ?_⟩
  have a2 := held_le (f := heldI1) (d := 1) (by omega) (es := vs) q
  refine ⟨⟨q, by omega⟩, fun q2 => by rw [heldN, if_neg (by omega), if_pos q2], fun q2 => ?_⟩
  have a3 := held_le (f := heldI1) (d := 1) (by omega) (es := xs) q2
  refine ⟨⟨q2, by omega⟩, fun q3 => by rw [heldN, if_neg (by omega), if_neg (by omega), if_pos q3], fun q3 => ?_⟩
  have a4 := held_le (f := heldI1) (d := 1) (by omega) (es := ms) q3
  have e : heldN k es vs xs ms = heldGo heldI1 1 (heldGo heldI1 1 (heldGo heldI1 1 (heldGo heldR1 2 k es) vs) xs) ms := by rw [heldN, if_neg (by omega), if_neg (by omega), if_neg (by omega)]
  exact ⟨⟨q3, by omega⟩, fun q4 => by rw [e]; omega, fun _ => e.symm⟩

end Go.Proofs.Ytmjjdfhpnckacab
