/-
  The contracts of the functions that write numbers and fields as bytes.
  Conditions: none.
-/
import Derived.Test.YtmjjdfhpnckacabFh
import Derived.Test.YtmjjdfhpnckacabFg
namespace Go.Proofs.Ytmjjdfhpnckacab
set_option maxRecDepth 100000
set_option linter.unusedSimpArgs false

def byteOf (x : Int) : UInt8 := UInt8.ofNat (x % 256).toNat
theorem byteOf_nat (x : Int) : ((byteOf x).toNat : Int) = x % 256 := by
  have h1 := Int.emod_nonneg x (show (256 : Int) ≠ 0 by omega)
  have h2 := Int.emod_lt_of_pos x (show (0 : Int) < 256 by omega)
  unfold byteOf
  rw [UInt8.toNat_ofNat', Nat.mod_eq_of_lt (by omega)]
  omega
theorem wrap8_byte (x : Int) : IntKind.u8.wrap x = (byteOf x).toNat := by
  rw [byteOf_nat]; simp [IntKind.wrap, IntKind.signed, IntKind.bits]

/-- A number's bytes, the greatest first. -/
def nB (n : Int) (k : Nat) : List UInt8 := (List.range k).map fun i => byteOf (n / 256 ^ (k - 1 - i))
theorem nB_len (n : Int) (k : Nat) : (nB n k).length = k := by simp [nB]
theorem nB_get {n : Int} {k i : Nat} (h : i < k) : (nB n k).getD i 0 = byteOf (n / 256 ^ (k - 1 - i)) := by
  simp [nB, h]
theorem nB_take {n : Int} {k i : Nat} (h : i < k) : (nB n k).take (i + 1) = (nB n k).take i ++ [byteOf (n / 256 ^ (k - 1 - i))] := by
  rw [List.take_succ_eq_append_getElem (by rw [nB_len]; exact h)]; simp [nB]
theorem nB_drop {n : Int} {k i : Nat} (h : i < k) : (nB n k).drop i = byteOf (n / 256 ^ (k - 1 - i)) :: (nB n k).drop (i + 1) := by
  rw [List.drop_eq_getElem_cons (by rw [nB_len]; exact h)]; simp [nB]

theorem bytesPV_len (l : List UInt8) : (bytesPV l).length = l.length := by simp [bytesPV]
theorem bytesPV_app (l m : List UInt8) : bytesPV (l ++ m) = bytesPV l ++ bytesPV m := by simp [bytesPV]
theorem bytesPV_one (b : UInt8) : bytesPV [b] = [.int .u8 b.toNat] := rfl
theorem pvBytes_bytes (l : List UInt8) : pvBytes (bytesPV l) = l := by
  simp only [pvBytes, bytesPV, List.map_map]
  conv => rhs; rw [← List.map_id l]
  exact List.map_congr_left fun b _ => by simp [pv_I]
theorem bytesPV_take (l : List UInt8) (i : Nat) : bytesPV (l.take i) = (bytesPV l).take i := by simp [bytesPV]

theorem shr8 {n : Int} {i : Nat} (h : 0 ≤ n) (hi : i ≤ 7) : shrI .i64 n (8 * i : Nat) = n / 256 ^ i := by
  unfold shrI
  have e : min (((8 * i : Nat) : Int).toNat) IntKind.i64.bits = 8 * i := by
    have : IntKind.i64.bits = 64 := rfl
    rw [this, Int.toNat_natCast]; omega
  rw [e, Int.fdiv_eq_ediv_of_nonneg _ (Int.pow_nonneg (by omega)), Int.pow_mul]
  rfl

def c_bigBytes : FSpec := ⟨[(.rd, .int .i64), (.rd, .int .i64)], [.str], true, fun ps => 0 ≤ (nth ps 0).I ∧ 0 ≤ (nth ps 1).I ∧ (nth ps 1).I ≤ 7, fun ps => [.str (nB (nth ps 0).I (nth ps 1).I.toNat)], fun _ => []⟩
theorem k_bigBytes : FnOk Try.prog 137 c_bigBytes := by
  refine fn_mk [0, 1, 4, 5, 6] [.tmp 4] (env_nil (tyTab_ok [])) mixed Try.func137 rfl (by decide) rfl (by decide) rfl ?_
  intro ps hT hpre W hW
  simp only [c_bigBytes, TyA, Ty, Tys] at hT hpre
  obtain ⟨_, _, rfl, ⟨n, rfl, hn⟩, _, _, rfl, ⟨k, rfl, hk⟩, rfl⟩ := hT
  simp only [nth_zero, nth_succ, pv_I] at hpre
  obtain ⟨hp1, hp2, hp3⟩ := hpre
  obtain ⟨m, rfl⟩ := Int.eq_ofNat_of_zero_le hp2
  rw [inR64] at hn
  refine hW.vc [] _ _ ?_
  simp [-List.getD_eq_getElem?_getD, nth_fold, nth_zero, nth_succ, pv_I, pv_B, pv_S, pv_L, pv_A, pv_at, lv_int, lv_bool, lv_str, lv_list, lv_agg, PTy.leaves, PTy.wd, inR, TI.sz, TI.pty, lk, set1, memB, anyB, kill, strike, stillH, unpath, still, prom, proms, dpB, dpAll, ndB, isNil, shOk, takeIn, takeOk, St.slot, ofConst1, ofConsts, ofConst, St.ev, SV.cells, SV.ofCells, SV.leafB, leafAll, fixL, zeroSV, zeroSVs, zeroLf, zeroLfs, zeroPV, resL, resLs, resB, resBs, resT, resTs, resEs, introL, noP, elP, introV, introVs, packV, binI, binS, imp, evs, closes, findFn, slsOf, slsAll, argLs, argsLs, pathOf, rdHs1, rdHsL, rdHs, rdsHs, rdOk, lendOk, backL, backs, ownersOf, allRd, soleMt, firstP, callRd, callPt, callOw, callOwn, callRes, idxs, oprs, fillSV, partsOk, convRes, viewE, viewA, pathE, pathA, sliceRes, evO, etaL, storeEl, loadEl, flatL, flatLs, flatB, leafD, leafDs, dataB, ownO, sameO, isStruct, aggOk, leafAt, srcOf, joinB, joinOk, appRes, copyTo, copyRes, builtinRes, loadHy, eqCs, lvsOf, opRes, nilRes, guardOf, csz, ksz, unwd, dstOk, putS, vcK, vwCall, skipR, stepD, vcD, growP, rdCall, convP, rn, entV, entVs, entR, entO, entH, hlts, domH, entA, entL, ent, itVal, hsV, hsVs, itSlots, itBoxes, dropL, hsL, hsA, onlyR, gcH, gcA, itReach, itLay, itSt, mr, mrs, itRho, itOk, introB, introBs, introR, introX, introT, introTs, lkAll, numb, resMs, retOk, mtTy, bxCs, mtSls, mtHs, finFr, finOf, SV.lt, SV.lts, IntKind.min, IntKind.max, IntKind.signed, IntKind.bits, LIM, ty3, T3_sz, T3_pty, T3, ty4, T4_sz, T4_pty, T4, ty5, T5_sz, T5_pty, T5, ty9, T9_sz, T9_pty, T9, ty22, T22_sz, T22_pty, T22, c_bigBytes]
  refine ⟨by omega, hW.loopS _ _ _ [.sl 0 .dp (.int .i64), .sl 5 .dp (.list (.int .u8)), .sl 6 .dp (.int .i64)] (fun ys => ∃ j : Nat, ys = [.int .i64 (n / 256 ^ (m - j)), .list (List.replicate j (.int .u8 0) ++ (bytesPV (nB n m)).drop j), .int .i64 (j - 1)] ∧ j ≤ m) (fun ys => ((nth ys 2).I + 1).toNat) ?_ ?_⟩
  · simp [-List.getD_eq_getElem?_getD, nth_fold, nth_zero, nth_succ, pv_I, pv_B, pv_S, pv_L, pv_A, pv_at, lv_int, lv_bool, lv_str, lv_list, lv_agg, PTy.leaves, PTy.wd, inR, TI.sz, TI.pty, lk, set1, memB, anyB, kill, strike, stillH, unpath, still, prom, proms, dpB, dpAll, ndB, isNil, shOk, takeIn, takeOk, St.slot, ofConst1, ofConsts, ofConst, St.ev, SV.cells, SV.ofCells, SV.leafB, leafAll, fixL, zeroSV, zeroSVs, zeroLf, zeroLfs, zeroPV, resL, resLs, resB, resBs, resT, resTs, resEs, introL, noP, elP, introV, introVs, packV, binI, binS, imp, evs, closes, findFn, slsOf, slsAll, argLs, argsLs, pathOf, rdHs1, rdHsL, rdHs, rdsHs, rdOk, lendOk, backL, backs, ownersOf, allRd, soleMt, firstP, callRd, callPt, callOw, callOwn, callRes, idxs, oprs, fillSV, partsOk, convRes, viewE, viewA, pathE, pathA, sliceRes, evO, etaL, storeEl, loadEl, flatL, flatLs, flatB, leafD, leafDs, dataB, ownO, sameO, isStruct, aggOk, leafAt, srcOf, joinB, joinOk, appRes, copyTo, copyRes, builtinRes, loadHy, eqCs, lvsOf, opRes, nilRes, guardOf, csz, ksz, unwd, dstOk, putS, vcK, vwCall, skipR, stepD, vcD, growP, rdCall, convP, rn, entV, entVs, entR, entO, entH, hlts, domH, entA, entL, ent, itVal, hsV, hsVs, itSlots, itBoxes, dropL, hsL, hsA, onlyR, gcH, gcA, itReach, itLay, itSt, mr, mrs, itRho, itOk, introB, introBs, introR, introX, introT, introTs, lkAll, numb, resMs, retOk, mtTy, bxCs, mtSls, mtHs, finFr, finOf, SV.lt, SV.lts, IntKind.min, IntKind.max, IntKind.signed, IntKind.bits, LIM, ty3, T3_sz, T3_pty, T3, ty4, T4_sz, T4_pty, T4, ty5, T5_sz, T5_pty, T5, ty9, T9_sz, T9_pty, T9, ty22, T22_sz, T22_pty, T22, c_bigBytes]
    refine ⟨m, ⟨by simp, by rw [List.drop_eq_nil_of_le (by rw [bytesPV_len, nB_len]; omega), List.append_nil], by rw [wrap64 (by omega)]⟩, by omega⟩
  · rintro ys ⟨j, rfl, h1⟩
    refine hW.vc [] _ _ ?_
    simp [-List.getD_eq_getElem?_getD, nth_fold, nth_zero, nth_succ, pv_I, pv_B, pv_S, pv_L, pv_A, pv_at, lv_int, lv_bool, lv_str, lv_list, lv_agg, PTy.leaves, PTy.wd, inR, TI.sz, TI.pty, lk, set1, memB, anyB, kill, strike, stillH, unpath, still, prom, proms, dpB, dpAll, ndB, isNil, shOk, takeIn, takeOk, St.slot, ofConst1, ofConsts, ofConst, St.ev, SV.cells, SV.ofCells, SV.leafB, leafAll, fixL, zeroSV, zeroSVs, zeroLf, zeroLfs, zeroPV, resL, resLs, resB, resBs, resT, resTs, resEs, introL, noP, elP, introV, introVs, packV, binI, binS, imp, evs, closes, findFn, slsOf, slsAll, argLs, argsLs, pathOf, rdHs1, rdHsL, rdHs, rdsHs, rdOk, lendOk, backL, backs, ownersOf, allRd, soleMt, firstP, callRd, callPt, callOw, callOwn, callRes, idxs, oprs, fillSV, partsOk, convRes, viewE, viewA, pathE, pathA, sliceRes, evO, etaL, storeEl, loadEl, flatL, flatLs, flatB, leafD, leafDs, dataB, ownO, sameO, isStruct, aggOk, leafAt, srcOf, joinB, joinOk, appRes, copyTo, copyRes, builtinRes, loadHy, eqCs, lvsOf, opRes, nilRes, guardOf, csz, ksz, unwd, dstOk, putS, vcK, vwCall, skipR, stepD, vcD, growP, rdCall, convP, rn, entV, entVs, entR, entO, entH, hlts, domH, entA, entL, ent, itVal, hsV, hsVs, itSlots, itBoxes, dropL, hsL, hsA, onlyR, gcH, gcA, itReach, itLay, itSt, mr, mrs, itRho, itOk, introB, introBs, introR, introX, introT, introTs, lkAll, numb, resMs, retOk, mtTy, bxCs, mtSls, mtHs, finFr, finOf, SV.lt, SV.lts, IntKind.min, IntKind.max, IntKind.signed, IntKind.bits, LIM, ty3, T3_sz, T3_pty, T3, ty4, T4_sz, T4_pty, T4, ty5, T5_sz, T5_pty, T5, ty9, T9_sz, T9_pty, T9, ty22, T22_sz, T22_pty, T22, c_bigBytes]
    rw [bytesPV_len, nB_len]
    refine ⟨fun h2 => ⟨⟨h2, by omega⟩, by omega, ⟨j - 1, ⟨?_, ?_, by rw [wrap64 (by omega)]; omega⟩, by omega⟩, by rw [wrap64 (by omega)]; omega⟩, fun h2 => ?_⟩
    · have e : m - (j - 1) = (m - j) + 1 := by omega
      have := shr8 (n := n / 256 ^ (m - j)) (i := 1) (Int.ediv_nonneg hp1 (Int.pow_nonneg (by omega))) (by omega)
      rw [e, Int.pow_succ, ← Int.ediv_ediv_of_nonneg (Int.pow_nonneg (by omega))]
      simpa using this
    · have h3 : (bytesPV (nB n m)).drop (j - 1) = .int .u8 (byteOf (n / 256 ^ (m - j))).toNat :: (bytesPV (nB n m)).drop j := by
        have h4 := nB_drop (n := n) (show j - 1 < m by omega)
        have e1 : m - 1 - (j - 1) = m - j := by omega
        have e2 : j - 1 + 1 = j := by omega
        rw [e1, e2] at h4
        simp only [bytesPV, ← List.map_drop, h4, List.map_cons]
      have h5 : List.replicate j (PV.int IntKind.u8 0) = List.replicate (j - 1) (PV.int IntKind.u8 0) ++ [PV.int IntKind.u8 0] := by
        have : j = (j - 1) + 1 := by omega
        rw [this, List.replicate_succ']; simp
      rw [h3, wrap8_byte, h5, List.append_assoc, List.set_append_right _ _ (by simp), List.length_replicate, Nat.sub_self]
      rfl
    · have : j = 0 := by omega
      subst this
      simp [pvBytes_bytes]

def c_l02Number : FSpec := ⟨[(.rd, .int .i64), (.rd, .int .i64)], [.list (.int .u8)], true, fun ps => 0 ≤ (nth ps 0).I ∧ 0 ≤ (nth ps 1).I ∧ (nth ps 1).I ≤ 7, fun ps => [.list (bytesPV (nB (nth ps 0).I (nth ps 1).I.toNat))], fun _ => []⟩
theorem k_l02Number : FnOk Try.prog 141 c_l02Number := by
  refine fn_mk [0, 1, 4, 5, 6] [.tmp 4] (env_nil (tyTab_ok [])) mixed Try.func141 rfl (by decide) rfl (by decide) rfl ?_
  intro ps hT hpre W hW
  simp only [c_l02Number, TyA, Ty, Tys] at hT hpre
  obtain ⟨_, _, rfl, ⟨n, rfl, hn⟩, _, _, rfl, ⟨k, rfl, hk⟩, rfl⟩ := hT
  simp only [nth_zero, nth_succ, pv_I] at hpre
  obtain ⟨hp1, hp2, hp3⟩ := hpre
  obtain ⟨m, rfl⟩ := Int.eq_ofNat_of_zero_le hp2
  rw [inR64] at hn
  refine hW.vc [] _ _ ?_
  simp [-List.getD_eq_getElem?_getD, nth_fold, nth_zero, nth_succ, pv_I, pv_B, pv_S, pv_L, pv_A, pv_at, lv_int, lv_bool, lv_str, lv_list, lv_agg, PTy.leaves, PTy.wd, inR, TI.sz, TI.pty, lk, set1, memB, anyB, kill, strike, stillH, unpath, still, prom, proms, dpB, dpAll, ndB, isNil, shOk, takeIn, takeOk, St.slot, ofConst1, ofConsts, ofConst, St.ev, SV.cells, SV.ofCells, SV.leafB, leafAll, fixL, zeroSV, zeroSVs, zeroLf, zeroLfs, zeroPV, resL, resLs, resB, resBs, resT, resTs, resEs, introL, noP, elP, introV, introVs, packV, binI, binS, imp, evs, closes, findFn, slsOf, slsAll, argLs, argsLs, pathOf, rdHs1, rdHsL, rdHs, rdsHs, rdOk, lendOk, backL, backs, ownersOf, allRd, soleMt, firstP, callRd, callPt, callOw, callOwn, callRes, idxs, oprs, fillSV, partsOk, convRes, viewE, viewA, pathE, pathA, sliceRes, evO, etaL, storeEl, loadEl, flatL, flatLs, flatB, leafD, leafDs, dataB, ownO, sameO, isStruct, aggOk, leafAt, srcOf, joinB, joinOk, appRes, copyTo, copyRes, builtinRes, loadHy, eqCs, lvsOf, opRes, nilRes, guardOf, csz, ksz, unwd, dstOk, putS, vcK, vwCall, skipR, stepD, vcD, growP, rdCall, convP, rn, entV, entVs, entR, entO, entH, hlts, domH, entA, entL, ent, itVal, hsV, hsVs, itSlots, itBoxes, dropL, hsL, hsA, onlyR, gcH, gcA, itReach, itLay, itSt, mr, mrs, itRho, itOk, introB, introBs, introR, introX, introT, introTs, lkAll, numb, resMs, retOk, mtTy, bxCs, mtSls, mtHs, finFr, finOf, SV.lt, SV.lts, IntKind.min, IntKind.max, IntKind.signed, IntKind.bits, LIM, ty3, T3_sz, T3_pty, T3, ty4, T4_sz, T4_pty, T4, ty5, T5_sz, T5_pty, T5, ty22, T22_sz, T22_pty, T22, ty174, T174_sz, T174_pty, T174, c_l02Number]
  refine hW.loopS _ _ _ [.sl 5 .dp (.list (.int .u8)), .sl 6 .dp (.int .i64)] (fun ys => ∃ j : Nat, ys = [.list (bytesPV ((nB n m).take (m - j))), .int .i64 (j - 1)] ∧ j ≤ m) (fun ys => ((nth ys 1).I + 1).toNat) ?_ ?_
  · simp [-List.getD_eq_getElem?_getD, nth_fold, nth_zero, nth_succ, pv_I, pv_B, pv_S, pv_L, pv_A, pv_at, lv_int, lv_bool, lv_str, lv_list, lv_agg, PTy.leaves, PTy.wd, inR, TI.sz, TI.pty, lk, set1, memB, anyB, kill, strike, stillH, unpath, still, prom, proms, dpB, dpAll, ndB, isNil, shOk, takeIn, takeOk, St.slot, ofConst1, ofConsts, ofConst, St.ev, SV.cells, SV.ofCells, SV.leafB, leafAll, fixL, zeroSV, zeroSVs, zeroLf, zeroLfs, zeroPV, resL, resLs, resB, resBs, resT, resTs, resEs, introL, noP, elP, introV, introVs, packV, binI, binS, imp, evs, closes, findFn, slsOf, slsAll, argLs, argsLs, pathOf, rdHs1, rdHsL, rdHs, rdsHs, rdOk, lendOk, backL, backs, ownersOf, allRd, soleMt, firstP, callRd, callPt, callOw, callOwn, callRes, idxs, oprs, fillSV, partsOk, convRes, viewE, viewA, pathE, pathA, sliceRes, evO, etaL, storeEl, loadEl, flatL, flatLs, flatB, leafD, leafDs, dataB, ownO, sameO, isStruct, aggOk, leafAt, srcOf, joinB, joinOk, appRes, copyTo, copyRes, builtinRes, loadHy, eqCs, lvsOf, opRes, nilRes, guardOf, csz, ksz, unwd, dstOk, putS, vcK, vwCall, skipR, stepD, vcD, growP, rdCall, convP, rn, entV, entVs, entR, entO, entH, hlts, domH, entA, entL, ent, itVal, hsV, hsVs, itSlots, itBoxes, dropL, hsL, hsA, onlyR, gcH, gcA, itReach, itLay, itSt, mr, mrs, itRho, itOk, introB, introBs, introR, introX, introT, introTs, lkAll, numb, resMs, retOk, mtTy, bxCs, mtSls, mtHs, finFr, finOf, SV.lt, SV.lts, IntKind.min, IntKind.max, IntKind.signed, IntKind.bits, LIM, ty3, T3_sz, T3_pty, T3, ty4, T4_sz, T4_pty, T4, ty5, T5_sz, T5_pty, T5, ty22, T22_sz, T22_pty, T22, ty174, T174_sz, T174_pty, T174, c_l02Number]
    refine ⟨m, ⟨by simp [bytesPV], by rw [wrap64 (by omega)]⟩, by omega⟩
  · rintro ys ⟨j, rfl, h1⟩
    refine hW.vc [] _ _ ?_
    simp [-List.getD_eq_getElem?_getD, nth_fold, nth_zero, nth_succ, pv_I, pv_B, pv_S, pv_L, pv_A, pv_at, lv_int, lv_bool, lv_str, lv_list, lv_agg, PTy.leaves, PTy.wd, inR, TI.sz, TI.pty, lk, set1, memB, anyB, kill, strike, stillH, unpath, still, prom, proms, dpB, dpAll, ndB, isNil, shOk, takeIn, takeOk, St.slot, ofConst1, ofConsts, ofConst, St.ev, SV.cells, SV.ofCells, SV.leafB, leafAll, fixL, zeroSV, zeroSVs, zeroLf, zeroLfs, zeroPV, resL, resLs, resB, resBs, resT, resTs, resEs, introL, noP, elP, introV, introVs, packV, binI, binS, imp, evs, closes, findFn, slsOf, slsAll, argLs, argsLs, pathOf, rdHs1, rdHsL, rdHs, rdsHs, rdOk, lendOk, backL, backs, ownersOf, allRd, soleMt, firstP, callRd, callPt, callOw, callOwn, callRes, idxs, oprs, fillSV, partsOk, convRes, viewE, viewA, pathE, pathA, sliceRes, evO, etaL, storeEl, loadEl, flatL, flatLs, flatB, leafD, leafDs, dataB, ownO, sameO, isStruct, aggOk, leafAt, srcOf, joinB, joinOk, appRes, copyTo, copyRes, builtinRes, loadHy, eqCs, lvsOf, opRes, nilRes, guardOf, csz, ksz, unwd, dstOk, putS, vcK, vwCall, skipR, stepD, vcD, growP, rdCall, convP, rn, entV, entVs, entR, entO, entH, hlts, domH, entA, entL, ent, itVal, hsV, hsVs, itSlots, itBoxes, dropL, hsL, hsA, onlyR, gcH, gcA, itReach, itLay, itSt, mr, mrs, itRho, itOk, introB, introBs, introR, introX, introT, introTs, lkAll, numb, resMs, retOk, mtTy, bxCs, mtSls, mtHs, finFr, finOf, SV.lt, SV.lts, IntKind.min, IntKind.max, IntKind.signed, IntKind.bits, LIM, ty3, T3_sz, T3_pty, T3, ty4, T4_sz, T4_pty, T4, ty5, T5_sz, T5_pty, T5, ty22, T22_sz, T22_pty, T22, ty174, T174_sz, T174_pty, T174, c_l02Number]
    refine ⟨fun h2 => ?_, fun h2 => ?_⟩
    · have e0 : (8 * ((j : Int) - 1)) = ((8 * (j - 1) : Nat) : Int) := by omega
      have e1 : IntKind.u64.wrap (IntKind.i64.wrap (8 * ((j : Int) - 1))) = ((8 * (j - 1) : Nat) : Int) := by
        rw [wrap64 (by omega), e0]
        simp [IntKind.wrap, IntKind.signed, IntKind.bits]; omega
      rw [e1, shr8 hp1 (by omega), wrap8_byte, wrap64 (by omega), bytesPV_len, List.length_take, nB_len]
      refine ⟨by omega, by omega, fun _ => ⟨⟨j - 1, ⟨?_, by omega⟩, by omega⟩, by omega⟩⟩
      have h4 := nB_take (n := n) (show m - j < m by omega)
      have e2 : m - 1 - (m - j) = j - 1 := by omega
      have e3 : m - j + 1 = m - (j - 1) := by omega
      rw [e2, e3] at h4
      rw [h4, bytesPV_app, bytesPV_one]
    · have : j = 0 := by omega
      subst this
      rw [Nat.sub_zero, List.take_of_length_le (by rw [nB_len]; omega)]

def bitI (b : Bool) : Int := if b then 1 else 0
def c_bit : FSpec := ⟨[(.rd, .bool)], [.int .i64], true, fun _ => True, fun ps => [.int .i64 (bitI (nth ps 0).B)], fun _ => []⟩
theorem k_bit : FnOk Try.prog 136 c_bit := by
  refine fn_mk [0, 2] [.tmp 2] (env_nil (tyTab_ok [])) mixed Try.func136 rfl (by decide) rfl (by decide) rfl ?_
  intro ps hT hpre W hW
  simp only [c_bit, TyA, Ty, Tys] at hT hpre
  obtain ⟨_, _, rfl, ⟨b, rfl⟩, rfl⟩ := hT
  refine hW.vc [] _ _ ?_
  cases b <;> simp [-List.getD_eq_getElem?_getD, nth_fold, nth_zero, nth_succ, pv_I, pv_B, pv_S, pv_L, pv_A, pv_at, lv_int, lv_bool, lv_str, lv_list, lv_agg, PTy.leaves, PTy.wd, inR, TI.sz, TI.pty, lk, set1, memB, anyB, kill, strike, stillH, unpath, still, prom, proms, dpB, dpAll, ndB, isNil, shOk, takeIn, takeOk, St.slot, ofConst1, ofConsts, ofConst, St.ev, SV.cells, SV.ofCells, SV.leafB, leafAll, fixL, zeroSV, zeroSVs, zeroLf, zeroLfs, zeroPV, resL, resLs, resB, resBs, resT, resTs, resEs, introL, noP, elP, introV, introVs, packV, binI, binS, imp, evs, closes, findFn, slsOf, slsAll, argLs, argsLs, pathOf, rdHs1, rdHsL, rdHs, rdsHs, rdOk, lendOk, backL, backs, ownersOf, allRd, soleMt, firstP, callRd, callPt, callOw, callOwn, callRes, idxs, oprs, fillSV, partsOk, convRes, viewE, viewA, pathE, pathA, sliceRes, evO, etaL, storeEl, loadEl, flatL, flatLs, flatB, leafD, leafDs, dataB, ownO, sameO, isStruct, aggOk, leafAt, srcOf, joinB, joinOk, appRes, copyTo, copyRes, builtinRes, loadHy, eqCs, lvsOf, opRes, nilRes, guardOf, csz, ksz, unwd, dstOk, putS, vcK, vwCall, skipR, stepD, vcD, growP, rdCall, convP, rn, entV, entVs, entR, entO, entH, hlts, domH, entA, entL, ent, itVal, hsV, hsVs, itSlots, itBoxes, dropL, hsL, hsA, onlyR, gcH, gcA, itReach, itLay, itSt, mr, mrs, itRho, itOk, introB, introBs, introR, introX, introT, introTs, lkAll, numb, resMs, retOk, mtTy, bxCs, mtSls, mtHs, finFr, finOf, SV.lt, SV.lts, IntKind.min, IntKind.max, IntKind.signed, IntKind.bits, LIM, ty3, T3_sz, T3_pty, T3, ty4, T4_sz, T4_pty, T4, c_bit, bitI]
def c_l01Bit : FSpec := c_bit
theorem k_l01Bit : FnOk Try.prog 140 c_l01Bit := by
  refine fn_mk [0, 2] [.tmp 2] (env_nil (tyTab_ok [])) mixed Try.func140 rfl (by decide) rfl (by decide) rfl ?_
  intro ps hT hpre W hW
  simp only [c_l01Bit, TyA, Ty, Tys] at hT hpre
  simp only [c_bit, TyA, Ty, Tys] at hT
  obtain ⟨_, _, rfl, ⟨b, rfl⟩, rfl⟩ := hT
  refine hW.vc [] _ _ ?_
  cases b <;> simp [-List.getD_eq_getElem?_getD, nth_fold, nth_zero, nth_succ, pv_I, pv_B, pv_S, pv_L, pv_A, pv_at, lv_int, lv_bool, lv_str, lv_list, lv_agg, PTy.leaves, PTy.wd, inR, TI.sz, TI.pty, lk, set1, memB, anyB, kill, strike, stillH, unpath, still, prom, proms, dpB, dpAll, ndB, isNil, shOk, takeIn, takeOk, St.slot, ofConst1, ofConsts, ofConst, St.ev, SV.cells, SV.ofCells, SV.leafB, leafAll, fixL, zeroSV, zeroSVs, zeroLf, zeroLfs, zeroPV, resL, resLs, resB, resBs, resT, resTs, resEs, introL, noP, elP, introV, introVs, packV, binI, binS, imp, evs, closes, findFn, slsOf, slsAll, argLs, argsLs, pathOf, rdHs1, rdHsL, rdHs, rdsHs, rdOk, lendOk, backL, backs, ownersOf, allRd, soleMt, firstP, callRd, callPt, callOw, callOwn, callRes, idxs, oprs, fillSV, partsOk, convRes, viewE, viewA, pathE, pathA, sliceRes, evO, etaL, storeEl, loadEl, flatL, flatLs, flatB, leafD, leafDs, dataB, ownO, sameO, isStruct, aggOk, leafAt, srcOf, joinB, joinOk, appRes, copyTo, copyRes, builtinRes, loadHy, eqCs, lvsOf, opRes, nilRes, guardOf, csz, ksz, unwd, dstOk, putS, vcK, vwCall, skipR, stepD, vcD, growP, rdCall, convP, rn, entV, entVs, entR, entO, entH, hlts, domH, entA, entL, ent, itVal, hsV, hsVs, itSlots, itBoxes, dropL, hsL, hsA, onlyR, gcH, gcA, itReach, itLay, itSt, mr, mrs, itRho, itOk, introB, introBs, introR, introX, introT, introTs, lkAll, numb, resMs, retOk, mtTy, bxCs, mtSls, mtHs, finFr, finOf, SV.lt, SV.lts, IntKind.min, IntKind.max, IntKind.signed, IntKind.bits, LIM, ty3, T3_sz, T3_pty, T3, ty4, T4_sz, T4_pty, T4, c_l01Bit, c_bit, bitI]

def numsB (es : List PV) : List UInt8 := es.flatMap fun e => nB (e.I + 1) 3
theorem numsB_take {es : List PV} {i : Nat} (h : i < es.length) : numsB (es.take (i + 1)) = numsB (es.take i) ++ nB ((nth es i).I + 1) 3 := by
  rw [take_nth h]; simp [numsB]
theorem numsB_len : ∀ (es : List PV), (numsB es).length = 3 * es.length
  | [] => rfl
  | e :: es => by
    have := numsB_len es
    simp only [numsB, List.flatMap_cons, List.length_append, nB_len, List.length_cons] at this ⊢
    omega

def c_l02Numbers : FSpec := ⟨[(.rd, .list (.int .i64))], [.list (.int .u8)], true, fun ps => (nth ps 0).L.length ≤ 1048576 ∧ ∀ e ∈ (nth ps 0).L, -1 ≤ e.I ∧ e.I ≤ 1073741824, fun ps => [.list (bytesPV (numsB (nth ps 0).L))], fun _ => []⟩
theorem k_l02Numbers : FnOk Try.prog 139 c_l02Numbers := by
  refine fn_mk [0, 2, 3, 4] [.tmp 2] (env_cons (cs := []) k_l02Number (env_nil (tyTab_ok []))) mixed Try.func139 rfl (by decide) rfl (by decide) rfl ?_
  intro ps hT hpre W hW
  simp only [c_l02Numbers, TyA, Ty, Tys] at hT hpre
  obtain ⟨_, _, rfl, ⟨es, rfl, hes, tes⟩, rfl⟩ := hT
  simp only [nth_zero, pv_L] at hpre
  obtain ⟨hp1, hp2⟩ := hpre
  refine hW.vc [] _ _ ?_
  simp [-List.getD_eq_getElem?_getD, nth_fold, nth_zero, nth_succ, pv_I, pv_B, pv_S, pv_L, pv_A, pv_at, lv_int, lv_bool, lv_str, lv_list, lv_agg, PTy.leaves, PTy.wd, inR, TI.sz, TI.pty, lk, set1, memB, anyB, kill, strike, stillH, unpath, still, prom, proms, dpB, dpAll, ndB, isNil, shOk, takeIn, takeOk, St.slot, ofConst1, ofConsts, ofConst, St.ev, SV.cells, SV.ofCells, SV.leafB, leafAll, fixL, zeroSV, zeroSVs, zeroLf, zeroLfs, zeroPV, resL, resLs, resB, resBs, resT, resTs, resEs, introL, noP, elP, introV, introVs, packV, binI, binS, imp, evs, closes, findFn, slsOf, slsAll, argLs, argsLs, pathOf, rdHs1, rdHsL, rdHs, rdsHs, rdOk, lendOk, backL, backs, ownersOf, allRd, soleMt, firstP, callRd, callPt, callOw, callOwn, callRes, idxs, oprs, fillSV, partsOk, convRes, viewE, viewA, pathE, pathA, sliceRes, evO, etaL, storeEl, loadEl, flatL, flatLs, flatB, leafD, leafDs, dataB, ownO, sameO, isStruct, aggOk, leafAt, srcOf, joinB, joinOk, appRes, copyTo, copyRes, builtinRes, loadHy, eqCs, lvsOf, opRes, nilRes, guardOf, csz, ksz, unwd, dstOk, putS, vcK, vwCall, skipR, stepD, vcD, growP, rdCall, convP, rn, entV, entVs, entR, entO, entH, hlts, domH, entA, entL, ent, itVal, hsV, hsVs, itSlots, itBoxes, dropL, hsL, hsA, onlyR, gcH, gcA, itReach, itLay, itSt, mr, mrs, itRho, itOk, introB, introBs, introR, introX, introT, introTs, lkAll, numb, resMs, retOk, mtTy, bxCs, mtSls, mtHs, finFr, finOf, SV.lt, SV.lts, IntKind.min, IntKind.max, IntKind.signed, IntKind.bits, LIM, ty3, T3_sz, T3_pty, T3, ty4, T4_sz, T4_pty, T4, ty5, T5_sz, T5_pty, T5, ty22, T22_sz, T22_pty, T22, ty35, T35_sz, T35_pty, T35, c_l02Numbers, c_l02Number]
  refine hW.loopS _ _ _ [.sl 3 .dp (.list (.int .u8)), .sl 4 .dp (.int .i64)] (fun ys => ∃ i : Nat, ys = [.list (bytesPV (numsB (es.take i))), .int .i64 i] ∧ i ≤ es.length) (fun ys => es.length - (nth ys 1).I.toNat) ?_ ?_
  · simp [-List.getD_eq_getElem?_getD, nth_fold, nth_zero, nth_succ, pv_I, pv_B, pv_S, pv_L, pv_A, pv_at, lv_int, lv_bool, lv_str, lv_list, lv_agg, PTy.leaves, PTy.wd, inR, TI.sz, TI.pty, lk, set1, memB, anyB, kill, strike, stillH, unpath, still, prom, proms, dpB, dpAll, ndB, isNil, shOk, takeIn, takeOk, St.slot, ofConst1, ofConsts, ofConst, St.ev, SV.cells, SV.ofCells, SV.leafB, leafAll, fixL, zeroSV, zeroSVs, zeroLf, zeroLfs, zeroPV, resL, resLs, resB, resBs, resT, resTs, resEs, introL, noP, elP, introV, introVs, packV, binI, binS, imp, evs, closes, findFn, slsOf, slsAll, argLs, argsLs, pathOf, rdHs1, rdHsL, rdHs, rdsHs, rdOk, lendOk, backL, backs, ownersOf, allRd, soleMt, firstP, callRd, callPt, callOw, callOwn, callRes, idxs, oprs, fillSV, partsOk, convRes, viewE, viewA, pathE, pathA, sliceRes, evO, etaL, storeEl, loadEl, flatL, flatLs, flatB, leafD, leafDs, dataB, ownO, sameO, isStruct, aggOk, leafAt, srcOf, joinB, joinOk, appRes, copyTo, copyRes, builtinRes, loadHy, eqCs, lvsOf, opRes, nilRes, guardOf, csz, ksz, unwd, dstOk, putS, vcK, vwCall, skipR, stepD, vcD, growP, rdCall, convP, rn, entV, entVs, entR, entO, entH, hlts, domH, entA, entL, ent, itVal, hsV, hsVs, itSlots, itBoxes, dropL, hsL, hsA, onlyR, gcH, gcA, itReach, itLay, itSt, mr, mrs, itRho, itOk, introB, introBs, introR, introX, introT, introTs, lkAll, numb, resMs, retOk, mtTy, bxCs, mtSls, mtHs, finFr, finOf, SV.lt, SV.lts, IntKind.min, IntKind.max, IntKind.signed, IntKind.bits, LIM, ty3, T3_sz, T3_pty, T3, ty4, T4_sz, T4_pty, T4, ty5, T5_sz, T5_pty, T5, ty22, T22_sz, T22_pty, T22, ty35, T35_sz, T35_pty, T35, c_l02Numbers, c_l02Number]
    exact ⟨0, ⟨by simp [numsB, bytesPV], rfl⟩, by omega⟩
  · rintro ys ⟨i, rfl, h1⟩
    refine hW.vc [] _ _ ?_
    simp [-List.getD_eq_getElem?_getD, nth_fold, nth_zero, nth_succ, pv_I, pv_B, pv_S, pv_L, pv_A, pv_at, lv_int, lv_bool, lv_str, lv_list, lv_agg, PTy.leaves, PTy.wd, inR, TI.sz, TI.pty, lk, set1, memB, anyB, kill, strike, stillH, unpath, still, prom, proms, dpB, dpAll, ndB, isNil, shOk, takeIn, takeOk, St.slot, ofConst1, ofConsts, ofConst, St.ev, SV.cells, SV.ofCells, SV.leafB, leafAll, fixL, zeroSV, zeroSVs, zeroLf, zeroLfs, zeroPV, resL, resLs, resB, resBs, resT, resTs, resEs, introL, noP, elP, introV, introVs, packV, binI, binS, imp, evs, closes, findFn, slsOf, slsAll, argLs, argsLs, pathOf, rdHs1, rdHsL, rdHs, rdsHs, rdOk, lendOk, backL, backs, ownersOf, allRd, soleMt, firstP, callRd, callPt, callOw, callOwn, callRes, idxs, oprs, fillSV, partsOk, convRes, viewE, viewA, pathE, pathA, sliceRes, evO, etaL, storeEl, loadEl, flatL, flatLs, flatB, leafD, leafDs, dataB, ownO, sameO, isStruct, aggOk, leafAt, srcOf, joinB, joinOk, appRes, copyTo, copyRes, builtinRes, loadHy, eqCs, lvsOf, opRes, nilRes, guardOf, csz, ksz, unwd, dstOk, putS, vcK, vwCall, skipR, stepD, vcD, growP, rdCall, convP, rn, entV, entVs, entR, entO, entH, hlts, domH, entA, entL, ent, itVal, hsV, hsVs, itSlots, itBoxes, dropL, hsL, hsA, onlyR, gcH, gcA, itReach, itLay, itSt, mr, mrs, itRho, itOk, introB, introBs, introR, introX, introT, introTs, lkAll, numb, resMs, retOk, mtTy, bxCs, mtSls, mtHs, finFr, finOf, SV.lt, SV.lts, IntKind.min, IntKind.max, IntKind.signed, IntKind.bits, LIM, ty3, T3_sz, T3_pty, T3, ty4, T4_sz, T4_pty, T4, ty5, T5_sz, T5_pty, T5, ty22, T22_sz, T22_pty, T22, ty35, T35_sz, T35_pty, T35, c_l02Numbers, c_l02Number]
    refine fun _ => ⟨fun h2 => ⟨h2, fun _ => ?_⟩, fun h2 => by rw [List.take_of_length_le h2]⟩
    have h3 := hp2 _ (nth_mem h2)
    rw [wrap64 (n := (nth es i).I + 1) (by omega), wrap64 (n := (i : Int) + 1) (by omega), bytesPV_len, bytesPV_len, nB_len, numsB_len, List.length_take]
    exact ⟨by omega, by omega, fun _ => ⟨⟨i + 1, ⟨by rw [numsB_take h2, bytesPV_app], by omega⟩, by omega⟩, by omega⟩⟩

def fieldsB (es : List PV) : List UInt8 := byteOf es.length :: es.flatMap fun e => nB e.S.length 2 ++ e.S
theorem fieldsB_take {es : List PV} {i : Nat} (n : Int) (h : i < es.length) : (es.take (i + 1)).flatMap (fun e => nB e.S.length 2 ++ e.S) = (es.take i).flatMap (fun e => nB e.S.length 2 ++ e.S) ++ (nB (nth es i).S.length 2 ++ (nth es i).S) := by
  rw [take_nth h]; simp
theorem flds_len {k : Nat} : ∀ {es : List PV}, (∀ e ∈ es, e.S.length ≤ k) → (es.flatMap fun e => nB e.S.length 2 ++ e.S).length ≤ es.length * (k + 2)
  | [], _ => by simp
  | e :: es, h => by
    have h1 := flds_len (es := es) fun x hx => h x (by simp [hx])
    have h2 := h e (by simp)
    simp only [List.flatMap_cons, List.length_append, nB_len, List.length_cons, Nat.add_mul] at h1 ⊢
    omega

def c_l02Fields : FSpec := ⟨[(.rd, .list .str)], [.list (.int .u8)], true, fun ps => (nth ps 0).L.length ≤ 1000 ∧ ∀ e ∈ (nth ps 0).L, e.S.length ≤ 1048576, fun ps => [.list (bytesPV (fieldsB (nth ps 0).L))], fun _ => []⟩
theorem k_l02Fields : FnOk Try.prog 142 c_l02Fields := by
  refine fn_mk [0, 2, 3, 4] [.tmp 2] (env_cons (cs := []) k_l02Number (env_nil (tyTab_ok []))) mixed Try.func142 rfl (by decide) rfl (by decide) rfl ?_
  intro ps hT hpre W hW
  simp only [c_l02Fields, TyA, Ty, Tys] at hT hpre
  obtain ⟨_, _, rfl, ⟨es, rfl, hes, tes⟩, rfl⟩ := hT
  simp only [nth_zero, pv_L] at hpre
  obtain ⟨hp1, hp2⟩ := hpre
  refine hW.vc [(5, [7, 12], .take 0 <| .take 1 <| .take 2 <| .take 3 <| .take 4 <| .take 5 <| .take 8 <| .take 9 <| .alt 6 (.alt 7 (.take 10 <| .take 11 <| .alt 12 (.alt 13 (.done) .stop) .stop) (.alt 10 (.alt 7 (.take 11 <| .alt 12 (.alt 13 (.done) .stop) .stop) (.alt 11 (.alt 7 (.alt 12 (.alt 13 (.done) .stop) .stop) .stop) .stop)) .stop)) (.alt 10 (.alt 6 (.alt 7 (.take 11 <| .alt 12 (.alt 13 (.done) .stop) .stop) (.alt 11 (.alt 7 (.alt 12 (.alt 13 (.done) .stop) .stop) .stop) .stop)) (.alt 11 (.alt 6 (.alt 7 (.alt 12 (.alt 13 (.done) .stop) .stop) .stop) .stop) .stop)) .stop))] _ _ ?_
  simp [-List.getD_eq_getElem?_getD, nth_fold, nth_zero, nth_succ, pv_I, pv_B, pv_S, pv_L, pv_A, pv_at, lv_int, lv_bool, lv_str, lv_list, lv_agg, PTy.leaves, PTy.wd, inR, TI.sz, TI.pty, lk, set1, memB, anyB, kill, strike, stillH, unpath, still, prom, proms, dpB, dpAll, ndB, isNil, shOk, takeIn, takeOk, St.slot, ofConst1, ofConsts, ofConst, St.ev, SV.cells, SV.ofCells, SV.leafB, leafAll, fixL, zeroSV, zeroSVs, zeroLf, zeroLfs, zeroPV, resL, resLs, resB, resBs, resT, resTs, resEs, introL, noP, elP, introV, introVs, packV, binI, binS, imp, evs, closes, findFn, slsOf, slsAll, argLs, argsLs, pathOf, rdHs1, rdHsL, rdHs, rdsHs, rdOk, lendOk, backL, backs, ownersOf, allRd, soleMt, firstP, callRd, callPt, callOw, callOwn, callRes, idxs, oprs, fillSV, partsOk, convRes, viewE, viewA, pathE, pathA, sliceRes, evO, etaL, storeEl, loadEl, flatL, flatLs, flatB, leafD, leafDs, dataB, ownO, sameO, isStruct, aggOk, leafAt, srcOf, joinB, joinOk, appRes, copyTo, copyRes, builtinRes, loadHy, eqCs, lvsOf, opRes, nilRes, guardOf, csz, ksz, unwd, dstOk, putS, vcK, vwCall, skipR, stepD, vcD, growP, rdCall, convP, rn, entV, entVs, entR, entO, entH, hlts, domH, entA, entL, ent, itVal, hsV, hsVs, itSlots, itBoxes, dropL, hsL, hsA, onlyR, gcH, gcA, itReach, itLay, itSt, mr, mrs, itRho, itOk, introB, introBs, introR, introX, introT, introTs, lkAll, numb, resMs, retOk, mtTy, bxCs, mtSls, mtHs, finFr, finOf, SV.lt, SV.lts, IntKind.min, IntKind.max, IntKind.signed, IntKind.bits, LIM, ty3, T3_sz, T3_pty, T3, ty4, T4_sz, T4_pty, T4, ty5, T5_sz, T5_pty, T5, ty9, T9_sz, T9_pty, T9, ty22, T22_sz, T22_pty, T22, ty59, T59_sz, T59_pty, T59, c_l02Fields, c_l02Number]
  refine fun h1 => hW.loopS _ _ _ [.sl 3 .dp (.list (.int .u8)), .sl 4 .dp (.int .i64)] (fun ys => ∃ i : Nat, ys = [.list (bytesPV (byteOf es.length :: (es.take i).flatMap fun e => nB e.S.length 2 ++ e.S)), .int .i64 i] ∧ i ≤ es.length) (fun ys => es.length - (nth ys 1).I.toNat) ?_ ?_
  · simp [-List.getD_eq_getElem?_getD, nth_fold, nth_zero, nth_succ, pv_I, pv_B, pv_S, pv_L, pv_A, pv_at, lv_int, lv_bool, lv_str, lv_list, lv_agg, PTy.leaves, PTy.wd, inR, TI.sz, TI.pty, lk, set1, memB, anyB, kill, strike, stillH, unpath, still, prom, proms, dpB, dpAll, ndB, isNil, shOk, takeIn, takeOk, St.slot, ofConst1, ofConsts, ofConst, St.ev, SV.cells, SV.ofCells, SV.leafB, leafAll, fixL, zeroSV, zeroSVs, zeroLf, zeroLfs, zeroPV, resL, resLs, resB, resBs, resT, resTs, resEs, introL, noP, elP, introV, introVs, packV, binI, binS, imp, evs, closes, findFn, slsOf, slsAll, argLs, argsLs, pathOf, rdHs1, rdHsL, rdHs, rdsHs, rdOk, lendOk, backL, backs, ownersOf, allRd, soleMt, firstP, callRd, callPt, callOw, callOwn, callRes, idxs, oprs, fillSV, partsOk, convRes, viewE, viewA, pathE, pathA, sliceRes, evO, etaL, storeEl, loadEl, flatL, flatLs, flatB, leafD, leafDs, dataB, ownO, sameO, isStruct, aggOk, leafAt, srcOf, joinB, joinOk, appRes, copyTo, copyRes, builtinRes, loadHy, eqCs, lvsOf, opRes, nilRes, guardOf, csz, ksz, unwd, dstOk, putS, vcK, vwCall, skipR, stepD, vcD, growP, rdCall, convP, rn, entV, entVs, entR, entO, entH, hlts, domH, entA, entL, ent, itVal, hsV, hsVs, itSlots, itBoxes, dropL, hsL, hsA, onlyR, gcH, gcA, itReach, itLay, itSt, mr, mrs, itRho, itOk, introB, introBs, introR, introX, introT, introTs, lkAll, numb, resMs, retOk, mtTy, bxCs, mtSls, mtHs, finFr, finOf, SV.lt, SV.lts, IntKind.min, IntKind.max, IntKind.signed, IntKind.bits, LIM, ty3, T3_sz, T3_pty, T3, ty4, T4_sz, T4_pty, T4, ty5, T5_sz, T5_pty, T5, ty9, T9_sz, T9_pty, T9, ty22, T22_sz, T22_pty, T22, ty59, T59_sz, T59_pty, T59, c_l02Fields, c_l02Number]
    exact ⟨0, ⟨by simp [bytesPV, wrap8_byte], rfl⟩, by omega⟩
  · rintro ys ⟨i, rfl, h2⟩
    refine hW.vc [(5, [7, 12], .take 0 <| .take 1 <| .take 2 <| .take 3 <| .take 4 <| .take 5 <| .take 8 <| .take 9 <| .alt 6 (.alt 7 (.take 10 <| .take 11 <| .alt 12 (.alt 13 (.done) .stop) .stop) (.alt 10 (.alt 7 (.take 11 <| .alt 12 (.alt 13 (.done) .stop) .stop) (.alt 11 (.alt 7 (.alt 12 (.alt 13 (.done) .stop) .stop) .stop) .stop)) .stop)) (.alt 10 (.alt 6 (.alt 7 (.take 11 <| .alt 12 (.alt 13 (.done) .stop) .stop) (.alt 11 (.alt 7 (.alt 12 (.alt 13 (.done) .stop) .stop) .stop) .stop)) (.alt 11 (.alt 6 (.alt 7 (.alt 12 (.alt 13 (.done) .stop) .stop) .stop) .stop) .stop)) .stop))] _ _ ?_
    simp [-List.getD_eq_getElem?_getD, nth_fold, nth_zero, nth_succ, pv_I, pv_B, pv_S, pv_L, pv_A, pv_at, lv_int, lv_bool, lv_str, lv_list, lv_agg, PTy.leaves, PTy.wd, inR, TI.sz, TI.pty, lk, set1, memB, anyB, kill, strike, stillH, unpath, still, prom, proms, dpB, dpAll, ndB, isNil, shOk, takeIn, takeOk, St.slot, ofConst1, ofConsts, ofConst, St.ev, SV.cells, SV.ofCells, SV.leafB, leafAll, fixL, zeroSV, zeroSVs, zeroLf, zeroLfs, zeroPV, resL, resLs, resB, resBs, resT, resTs, resEs, introL, noP, elP, introV, introVs, packV, binI, binS, imp, evs, closes, findFn, slsOf, slsAll, argLs, argsLs, pathOf, rdHs1, rdHsL, rdHs, rdsHs, rdOk, lendOk, backL, backs, ownersOf, allRd, soleMt, firstP, callRd, callPt, callOw, callOwn, callRes, idxs, oprs, fillSV, partsOk, convRes, viewE, viewA, pathE, pathA, sliceRes, evO, etaL, storeEl, loadEl, flatL, flatLs, flatB, leafD, leafDs, dataB, ownO, sameO, isStruct, aggOk, leafAt, srcOf, joinB, joinOk, appRes, copyTo, copyRes, builtinRes, loadHy, eqCs, lvsOf, opRes, nilRes, guardOf, csz, ksz, unwd, dstOk, putS, vcK, vwCall, skipR, stepD, vcD, growP, rdCall, convP, rn, entV, entVs, entR, entO, entH, hlts, domH, entA, entL, ent, itVal, hsV, hsVs, itSlots, itBoxes, dropL, hsL, hsA, onlyR, gcH, gcA, itReach, itLay, itSt, mr, mrs, itRho, itOk, introB, introBs, introR, introX, introT, introTs, lkAll, numb, resMs, retOk, mtTy, bxCs, mtSls, mtHs, finFr, finOf, SV.lt, SV.lts, IntKind.min, IntKind.max, IntKind.signed, IntKind.bits, LIM, ty3, T3_sz, T3_pty, T3, ty4, T4_sz, T4_pty, T4, ty5, T5_sz, T5_pty, T5, ty9, T9_sz, T9_pty, T9, ty22, T22_sz, T22_pty, T22, ty59, T59_sz, T59_pty, T59, c_l02Fields, c_l02Number]
    refine fun _ => ⟨fun h3 => ?_, fun h3 => by rw [List.take_of_length_le h3]; rfl⟩
    have hA : (bytesPV (byteOf es.length :: (es.take i).flatMap fun e => nB e.S.length 2 ++ e.S)).length ≤ 1100000000 := by
      rw [bytesPV_len, List.length_cons]
      have := flds_len (k := 1048576) (es := es.take i) fun e he => hp2 e (List.mem_of_mem_take he)
      rw [List.length_take, Nat.min_eq_left h2] at this
      omega
    have hB : (bytesPV (nB ((nth es i).S.length : Int) 2)).length = 2 := by rw [bytesPV_len, nB_len]
    have hS : (bytesPV (nth es i).S).length ≤ 1048576 := by rw [bytesPV_len]; exact hp2 _ (nth_mem h3)
    rw [wrap64 (n := (i : Int) + 1) (by omega)]
    generalize hX : bytesPV (byteOf es.length :: (es.take i).flatMap fun e => nB e.S.length 2 ++ e.S) = X at *
    have hfin : (∃ i_1 : Nat, (X ++ (bytesPV (nB ((nth es i).S.length : Int) 2) ++ bytesPV (nth es i).S) = bytesPV (byteOf es.length :: (es.take i_1).flatMap fun e => nB e.S.length 2 ++ e.S) ∧ (i : Int) + 1 = i_1) ∧ i_1 ≤ es.length) ∧ es.length - ((i : Int) + 1).toNat < es.length - i := by
      refine ⟨⟨i + 1, ⟨?_, by omega⟩, by omega⟩, by omega⟩
      rw [← hX, fieldsB_take 0 h3, ← bytesPV_app, ← bytesPV_app, List.cons_append]
    exact ⟨by decide +kernel, h3, fun _ _ => ⟨⟨by omega, fun _ => ⟨h3, fun _ => ⟨by omega, fun _ => hfin⟩⟩⟩, h3, ⟨by omega, fun _ => ⟨h3, fun _ => ⟨by omega, fun _ => hfin⟩⟩⟩, h3, fun _ => ⟨by omega, fun _ => ⟨by omega, fun _ => hfin⟩⟩⟩⟩

def eqB (x y : PV) : Bool := x.I == y.I
theorem eqB_refl (es : List PV) : eqL eqB es es = true := eqL_refl fun _ => by simp [eqB]
def c_eqByteS : FSpec := ⟨[(.rd, .list (.int .u8)), (.rd, .list (.int .u8))], [.bool], true, fun _ => True, fun ps => [.bool (eqL eqB (nth ps 0).L (nth ps 1).L)], fun _ => []⟩
theorem k_eqByteS : FnOk Try.prog 12 c_eqByteS := by
  refine fn_mk [0, 1, 4, 5] [.tmp 4] (env_nil (tyTab_ok [])) mixed Try.func12 rfl (by decide) rfl (by decide) rfl ?_
  intro ps hT hpre W hW
  simp only [c_eqByteS, TyA, Ty, Tys] at hT hpre
  obtain ⟨_, _, rfl, ⟨es, rfl, hes, tes⟩, _, _, rfl, ⟨es2, rfl, hes2, tes2⟩, rfl⟩ := hT
  refine hW.vc [(6, [], .take 0 <| .take 1 <| .take 2 <| .take 3 <| .take 4 <| .take 5 <| .take 6 <| .take 7 <| .take 8 <| .done)] _ _ ?_
  simp [-List.getD_eq_getElem?_getD, nth_fold, nth_zero, nth_succ, pv_I, pv_B, pv_S, pv_L, pv_A, pv_at, lv_int, lv_bool, lv_str, lv_list, lv_agg, PTy.leaves, PTy.wd, inR, TI.sz, TI.pty, lk, set1, memB, anyB, kill, strike, stillH, unpath, still, prom, proms, dpB, dpAll, ndB, isNil, shOk, takeIn, takeOk, St.slot, ofConst1, ofConsts, ofConst, St.ev, SV.cells, SV.ofCells, SV.leafB, leafAll, fixL, zeroSV, zeroSVs, zeroLf, zeroLfs, zeroPV, resL, resLs, resB, resBs, resT, resTs, resEs, introL, noP, elP, introV, introVs, packV, binI, binS, imp, evs, closes, findFn, slsOf, slsAll, argLs, argsLs, pathOf, rdHs1, rdHsL, rdHs, rdsHs, rdOk, lendOk, backL, backs, ownersOf, allRd, soleMt, firstP, callRd, callPt, callOw, callOwn, callRes, idxs, oprs, fillSV, partsOk, convRes, viewE, viewA, pathE, pathA, sliceRes, evO, etaL, storeEl, loadEl, flatL, flatLs, flatB, leafD, leafDs, dataB, ownO, sameO, isStruct, aggOk, leafAt, srcOf, joinB, joinOk, appRes, copyTo, copyRes, builtinRes, loadHy, eqCs, lvsOf, opRes, nilRes, guardOf, csz, ksz, unwd, dstOk, putS, vcK, vwCall, skipR, stepD, vcD, growP, rdCall, convP, rn, entV, entVs, entR, entO, entH, hlts, domH, entA, entL, ent, itVal, hsV, hsVs, itSlots, itBoxes, dropL, hsL, hsA, onlyR, gcH, gcA, itReach, itLay, itSt, mr, mrs, itRho, itOk, introB, introBs, introR, introX, introT, introTs, lkAll, numb, resMs, retOk, mtTy, bxCs, mtSls, mtHs, finFr, finOf, SV.lt, SV.lts, IntKind.min, IntKind.max, IntKind.signed, IntKind.bits, LIM, ty3, T3_sz, T3_pty, T3, ty4, T4_sz, T4_pty, T4, ty5, T5_sz, T5_pty, T5, ty22, T22_sz, T22_pty, T22, c_eqByteS]
  refine fun h1 h2 => ⟨fun h3 => eqL_len (by omega), fun h3 => ?_⟩
  refine hW.loopS _ _ _ [.sl 5 .dp (.int .i64)] (fun ys => ∃ i : Nat, ys = [.int .i64 i] ∧ i ≤ es.length ∧ eqL eqB es es2 = eqL eqB (es.drop i) (es2.drop i)) (fun ys => es.length - (nth ys 0).I.toNat) ?_ ?_
  · simp [-List.getD_eq_getElem?_getD, nth_fold, nth_zero, nth_succ, pv_I, pv_B, pv_S, pv_L, pv_A, pv_at, lv_int, lv_bool, lv_str, lv_list, lv_agg, PTy.leaves, PTy.wd, inR, TI.sz, TI.pty, lk, set1, memB, anyB, kill, strike, stillH, unpath, still, prom, proms, dpB, dpAll, ndB, isNil, shOk, takeIn, takeOk, St.slot, ofConst1, ofConsts, ofConst, St.ev, SV.cells, SV.ofCells, SV.leafB, leafAll, fixL, zeroSV, zeroSVs, zeroLf, zeroLfs, zeroPV, resL, resLs, resB, resBs, resT, resTs, resEs, introL, noP, elP, introV, introVs, packV, binI, binS, imp, evs, closes, findFn, slsOf, slsAll, argLs, argsLs, pathOf, rdHs1, rdHsL, rdHs, rdsHs, rdOk, lendOk, backL, backs, ownersOf, allRd, soleMt, firstP, callRd, callPt, callOw, callOwn, callRes, idxs, oprs, fillSV, partsOk, convRes, viewE, viewA, pathE, pathA, sliceRes, evO, etaL, storeEl, loadEl, flatL, flatLs, flatB, leafD, leafDs, dataB, ownO, sameO, isStruct, aggOk, leafAt, srcOf, joinB, joinOk, appRes, copyTo, copyRes, builtinRes, loadHy, eqCs, lvsOf, opRes, nilRes, guardOf, csz, ksz, unwd, dstOk, putS, vcK, vwCall, skipR, stepD, vcD, growP, rdCall, convP, rn, entV, entVs, entR, entO, entH, hlts, domH, entA, entL, ent, itVal, hsV, hsVs, itSlots, itBoxes, dropL, hsL, hsA, onlyR, gcH, gcA, itReach, itLay, itSt, mr, mrs, itRho, itOk, introB, introBs, introR, introX, introT, introTs, lkAll, numb, resMs, retOk, mtTy, bxCs, mtSls, mtHs, finFr, finOf, SV.lt, SV.lts, IntKind.min, IntKind.max, IntKind.signed, IntKind.bits, LIM, ty3, T3_sz, T3_pty, T3, ty4, T4_sz, T4_pty, T4, ty5, T5_sz, T5_pty, T5, ty22, T22_sz, T22_pty, T22, c_eqByteS]
    exact ⟨0, rfl, by simp, by simp⟩
  · rintro ys ⟨i, rfl, h4, h5⟩
    refine hW.vc [(6, [], .take 0 <| .take 1 <| .take 2 <| .take 3 <| .take 4 <| .take 5 <| .take 6 <| .take 7 <| .take 8 <| .done)] _ _ ?_
    simp [-List.getD_eq_getElem?_getD, nth_fold, nth_zero, nth_succ, pv_I, pv_B, pv_S, pv_L, pv_A, pv_at, lv_int, lv_bool, lv_str, lv_list, lv_agg, PTy.leaves, PTy.wd, inR, TI.sz, TI.pty, lk, set1, memB, anyB, kill, strike, stillH, unpath, still, prom, proms, dpB, dpAll, ndB, isNil, shOk, takeIn, takeOk, St.slot, ofConst1, ofConsts, ofConst, St.ev, SV.cells, SV.ofCells, SV.leafB, leafAll, fixL, zeroSV, zeroSVs, zeroLf, zeroLfs, zeroPV, resL, resLs, resB, resBs, resT, resTs, resEs, introL, noP, elP, introV, introVs, packV, binI, binS, imp, evs, closes, findFn, slsOf, slsAll, argLs, argsLs, pathOf, rdHs1, rdHsL, rdHs, rdsHs, rdOk, lendOk, backL, backs, ownersOf, allRd, soleMt, firstP, callRd, callPt, callOw, callOwn, callRes, idxs, oprs, fillSV, partsOk, convRes, viewE, viewA, pathE, pathA, sliceRes, evO, etaL, storeEl, loadEl, flatL, flatLs, flatB, leafD, leafDs, dataB, ownO, sameO, isStruct, aggOk, leafAt, srcOf, joinB, joinOk, appRes, copyTo, copyRes, builtinRes, loadHy, eqCs, lvsOf, opRes, nilRes, guardOf, csz, ksz, unwd, dstOk, putS, vcK, vwCall, skipR, stepD, vcD, growP, rdCall, convP, rn, entV, entVs, entR, entO, entH, hlts, domH, entA, entL, ent, itVal, hsV, hsVs, itSlots, itBoxes, dropL, hsL, hsA, onlyR, gcH, gcA, itReach, itLay, itSt, mr, mrs, itRho, itOk, introB, introBs, introR, introX, introT, introTs, lkAll, numb, resMs, retOk, mtTy, bxCs, mtSls, mtHs, finFr, finOf, SV.lt, SV.lts, IntKind.min, IntKind.max, IntKind.signed, IntKind.bits, LIM, ty3, T3_sz, T3_pty, T3, ty4, T4_sz, T4_pty, T4, ty5, T5_sz, T5_pty, T5, ty22, T22_sz, T22_pty, T22, c_eqByteS]
    refine fun _ => ⟨fun h6 => ⟨by decide +kernel, h6, fun _ => ⟨by omega, fun _ => ?_⟩⟩, fun h6 => ?_⟩
    · rw [drop_nth h6, drop_nth (by omega : i < es2.length), eqL] at h5
      rw [wrap64 (by omega)]
      refine ⟨fun h7 => by rw [h5]; simp [eqB, h7], fun h7 => ⟨⟨i + 1, by omega, by omega, by rw [h5]; simp [eqB, h7]⟩, by omega⟩⟩
    · rw [h5, List.drop_eq_nil_of_le h6, List.drop_eq_nil_of_le (by omega)]; rfl

/-- Bytes marked. -/
def markB (k : Int) : Nat → List PV
  | 0 => []
  | n + 1 => .int .u8 (byteOf k).toNat :: markB (k + 1) n
theorem markB_len : ∀ (n : Nat) (k : Int), (markB k n).length = n
  | 0, _ => rfl
  | n + 1, k => by simp [markB, markB_len n]
theorem markB_snoc : ∀ (n : Nat) (k : Int), markB k (n + 1) = markB k n ++ [.int .u8 (byteOf (k + n)).toNat]
  | 0, k => by simp [markB]
  | n + 1, k => by
    rw [markB, markB_snoc n (k + 1), markB, List.cons_append]
    have e : k + 1 + (n : Int) = k + ((n + 1 : Nat) : Int) := by omega
    rw [e]
def c_markByteS : FSpec := ⟨[(.mt, .list (.int .u8)), (.rd, .int .i64)], [.int .i64], true, fun ps => 0 ≤ (nth ps 1).I ∧ (nth ps 1).I + (nth ps 0).L.length ≤ 1073741823, fun ps => [.int .i64 ((nth ps 1).I + (nth ps 0).L.length)], fun ps => [.list (markB (nth ps 1).I (nth ps 0).L.length)]⟩
theorem k_markByteS : FnOk Try.prog 13 c_markByteS := by
  refine fn_mk [0, 1, 4, 5] [.tmp 4] (env_nil (tyTab_ok [])) mixed Try.func13 rfl (by decide) rfl (by decide) rfl ?_
  intro ps hT hpre W hW
  simp only [c_markByteS, TyA, Ty, Tys] at hT hpre
  obtain ⟨_, _, rfl, ⟨es, rfl, hes, tes⟩, _, _, rfl, ⟨k, rfl, hk⟩, rfl⟩ := hT
  simp only [nth_zero, nth_succ, pv_I, pv_L] at hpre
  refine hW.vc [] _ _ ?_
  simp [-List.getD_eq_getElem?_getD, nth_fold, nth_zero, nth_succ, pv_I, pv_B, pv_S, pv_L, pv_A, pv_at, lv_int, lv_bool, lv_str, lv_list, lv_agg, PTy.leaves, PTy.wd, inR, TI.sz, TI.pty, lk, set1, memB, anyB, kill, strike, stillH, unpath, still, prom, proms, dpB, dpAll, ndB, isNil, shOk, takeIn, takeOk, St.slot, ofConst1, ofConsts, ofConst, St.ev, SV.cells, SV.ofCells, SV.leafB, leafAll, fixL, zeroSV, zeroSVs, zeroLf, zeroLfs, zeroPV, resL, resLs, resB, resBs, resT, resTs, resEs, introL, noP, elP, introV, introVs, packV, binI, binS, imp, evs, closes, findFn, slsOf, slsAll, argLs, argsLs, pathOf, rdHs1, rdHsL, rdHs, rdsHs, rdOk, lendOk, backL, backs, ownersOf, allRd, soleMt, firstP, callRd, callPt, callOw, callOwn, callRes, idxs, oprs, fillSV, partsOk, convRes, viewE, viewA, pathE, pathA, sliceRes, evO, etaL, storeEl, loadEl, flatL, flatLs, flatB, leafD, leafDs, dataB, ownO, sameO, isStruct, aggOk, leafAt, srcOf, joinB, joinOk, appRes, copyTo, copyRes, builtinRes, loadHy, eqCs, lvsOf, opRes, nilRes, guardOf, csz, ksz, unwd, dstOk, putS, vcK, vwCall, skipR, stepD, vcD, growP, rdCall, convP, rn, entV, entVs, entR, entO, entH, hlts, domH, entA, entL, ent, itVal, hsV, hsVs, itSlots, itBoxes, dropL, hsL, hsA, onlyR, gcH, gcA, itReach, itLay, itSt, mr, mrs, itRho, itOk, introB, introBs, introR, introX, introT, introTs, lkAll, numb, resMs, retOk, mtTy, bxCs, mtSls, mtHs, finFr, finOf, SV.lt, SV.lts, IntKind.min, IntKind.max, IntKind.signed, IntKind.bits, LIM, ty3, T3_sz, T3_pty, T3, ty4, T4_sz, T4_pty, T4, ty5, T5_sz, T5_pty, T5, ty22, T22_sz, T22_pty, T22, c_markByteS]
  refine hW.loopS _ _ _ [.ar 0 (.int .u8), .sl 1 .dp (.int .i64), .sl 5 .dp (.int .i64)] (fun ys => ∃ i : Nat, ys = [.list (markB k i ++ es.drop i), .int .i64 (k + i), .int .i64 i] ∧ i ≤ es.length) (fun ys => es.length - (nth ys 2).I.toNat) ?_ ?_
  · simp [-List.getD_eq_getElem?_getD, nth_fold, nth_zero, nth_succ, pv_I, pv_B, pv_S, pv_L, pv_A, pv_at, lv_int, lv_bool, lv_str, lv_list, lv_agg, PTy.leaves, PTy.wd, inR, TI.sz, TI.pty, lk, set1, memB, anyB, kill, strike, stillH, unpath, still, prom, proms, dpB, dpAll, ndB, isNil, shOk, takeIn, takeOk, St.slot, ofConst1, ofConsts, ofConst, St.ev, SV.cells, SV.ofCells, SV.leafB, leafAll, fixL, zeroSV, zeroSVs, zeroLf, zeroLfs, zeroPV, resL, resLs, resB, resBs, resT, resTs, resEs, introL, noP, elP, introV, introVs, packV, binI, binS, imp, evs, closes, findFn, slsOf, slsAll, argLs, argsLs, pathOf, rdHs1, rdHsL, rdHs, rdsHs, rdOk, lendOk, backL, backs, ownersOf, allRd, soleMt, firstP, callRd, callPt, callOw, callOwn, callRes, idxs, oprs, fillSV, partsOk, convRes, viewE, viewA, pathE, pathA, sliceRes, evO, etaL, storeEl, loadEl, flatL, flatLs, flatB, leafD, leafDs, dataB, ownO, sameO, isStruct, aggOk, leafAt, srcOf, joinB, joinOk, appRes, copyTo, copyRes, builtinRes, loadHy, eqCs, lvsOf, opRes, nilRes, guardOf, csz, ksz, unwd, dstOk, putS, vcK, vwCall, skipR, stepD, vcD, growP, rdCall, convP, rn, entV, entVs, entR, entO, entH, hlts, domH, entA, entL, ent, itVal, hsV, hsVs, itSlots, itBoxes, dropL, hsL, hsA, onlyR, gcH, gcA, itReach, itLay, itSt, mr, mrs, itRho, itOk, introB, introBs, introR, introX, introT, introTs, lkAll, numb, resMs, retOk, mtTy, bxCs, mtSls, mtHs, finFr, finOf, SV.lt, SV.lts, IntKind.min, IntKind.max, IntKind.signed, IntKind.bits, LIM, ty3, T3_sz, T3_pty, T3, ty4, T4_sz, T4_pty, T4, ty5, T5_sz, T5_pty, T5, ty22, T22_sz, T22_pty, T22, c_markByteS]
    exact ⟨0, ⟨by simp [markB], by omega, rfl⟩, by omega⟩
  · rintro ys ⟨i, rfl, h2⟩
    refine hW.vc [] _ _ ?_
    simp [-List.getD_eq_getElem?_getD, nth_fold, nth_zero, nth_succ, pv_I, pv_B, pv_S, pv_L, pv_A, pv_at, lv_int, lv_bool, lv_str, lv_list, lv_agg, PTy.leaves, PTy.wd, inR, TI.sz, TI.pty, lk, set1, memB, anyB, kill, strike, stillH, unpath, still, prom, proms, dpB, dpAll, ndB, isNil, shOk, takeIn, takeOk, St.slot, ofConst1, ofConsts, ofConst, St.ev, SV.cells, SV.ofCells, SV.leafB, leafAll, fixL, zeroSV, zeroSVs, zeroLf, zeroLfs, zeroPV, resL, resLs, resB, resBs, resT, resTs, resEs, introL, noP, elP, introV, introVs, packV, binI, binS, imp, evs, closes, findFn, slsOf, slsAll, argLs, argsLs, pathOf, rdHs1, rdHsL, rdHs, rdsHs, rdOk, lendOk, backL, backs, ownersOf, allRd, soleMt, firstP, callRd, callPt, callOw, callOwn, callRes, idxs, oprs, fillSV, partsOk, convRes, viewE, viewA, pathE, pathA, sliceRes, evO, etaL, storeEl, loadEl, flatL, flatLs, flatB, leafD, leafDs, dataB, ownO, sameO, isStruct, aggOk, leafAt, srcOf, joinB, joinOk, appRes, copyTo, copyRes, builtinRes, loadHy, eqCs, lvsOf, opRes, nilRes, guardOf, csz, ksz, unwd, dstOk, putS, vcK, vwCall, skipR, stepD, vcD, growP, rdCall, convP, rn, entV, entVs, entR, entO, entH, hlts, domH, entA, entL, ent, itVal, hsV, hsVs, itSlots, itBoxes, dropL, hsL, hsA, onlyR, gcH, gcA, itReach, itLay, itSt, mr, mrs, itRho, itOk, introB, introBs, introR, introX, introT, introTs, lkAll, numb, resMs, retOk, mtTy, bxCs, mtSls, mtHs, finFr, finOf, SV.lt, SV.lts, IntKind.min, IntKind.max, IntKind.signed, IntKind.bits, LIM, ty3, T3_sz, T3_pty, T3, ty4, T4_sz, T4_pty, T4, ty5, T5_sz, T5_pty, T5, ty22, T22_sz, T22_pty, T22, c_markByteS]
    rw [markB_len, wrap8_byte, wrap64 (n := k + (i : Int) + 1) (by omega), wrap64 (n := (i : Int) + 1) (by omega)]
    refine fun _ => ⟨fun h3 => ⟨by omega, by omega, ⟨i + 1, ⟨?_, by omega, by omega⟩, by omega⟩, by omega⟩, fun h3 => ?_⟩
    · exact mark_step (markB_len i k) (by omega) (markB_snoc i k)
    · have : i = es.length := by omega
      subst this
      simp

def heldB1 (k : Int) (e : PV) : Bool := e.I == (byteOf k).toNat
theorem heldB_mark (n : Nat) (k : Int) : heldGo heldB1 1 k (markB k n) = k + n := by
  rw [held_marked (m := markB) (fun _ => rfl) (fun k n => ⟨_, rfl, by simp [heldB1, pv_I]⟩), Int.one_mul]
def c_heldByteS : FSpec := ⟨[(.rd, .list (.int .u8)), (.rd, .int .i64)], [.int .i64], true, fun ps => 0 ≤ (nth ps 1).I ∧ (nth ps 1).I + (nth ps 0).L.length ≤ 1073741823, fun ps => [.int .i64 (heldGo heldB1 1 (nth ps 1).I (nth ps 0).L)], fun _ => []⟩
theorem up_get' {w h : Int} : ∀ {es : List PV} {p : Int}, upB w h p es = true → ∀ i, i < es.length → (0 ≤ (nth (nth es i).A 0).I ∧ (nth (nth es i).A 0).I < h) ∧ ((nth (nth es i).A 1).S.length : Int) = 4 * w
  | [], p, hu, i, hi => by simp at hi
  | e :: es, p, hu, 0, hi => by
    simp only [upB, Bool.and_eq_true, inB, decide_eq_true_eq, rowB] at hu
    rw [nth_zero]; omega
  | e :: es, p, hu, i + 1, hi => by
    simp only [upB, Bool.and_eq_true] at hu
    rw [nth_succ]
    exact up_get' hu.2 i (by simpa using hi)
theorem up_all {w h p : Int} {es : List PV} (hu : upB w h p es = true) : ∀ e ∈ es, (0 ≤ (nth e.A 0).I ∧ (nth e.A 0).I < h) ∧ ((nth e.A 1).S.length : Int) = 4 * w := by
  intro e he
  obtain ⟨i, hi, rfl⟩ := List.mem_iff_getElem.1 he
  have := up_get' hu i hi
  rwa [nth_eq hi] at this
theorem vw_facts {n f w h : Int} {u : Bool} {es : List PV} (hv : viewB [.int .i64 n, .int .i64 f, .bool u, .int .i64 w, .int .i64 h, .list es] = true) :
    (0 ≤ n ∧ n ≤ 60 ∧ 0 ≤ f ∧ f ≤ 60 ∧ 2 ≤ w ∧ w ≤ 24 ∧ 2 ≤ h ∧ h ≤ 10 ∧ (es.length : Int) ≤ h) ∧ upB w h (-1) es = true ∧ (u = true → (es.length : Int) = h ∧ f = 0) ∧ (u = false → f < n) := by
  have e1 : inB n 0 60 = true ∧ sizeB w h = true ∧ leB es.length h = true ∧ upB w h (-1) es = true ∧ selB u (f == 0 && (es.length : Int) == h) (inB f 0 (n - 1)) = true := by
    simpa [viewB, nth_zero, nth_succ, pv_I, pv_L, pv_B, and_assoc] using hv
  obtain ⟨h1, h2, h4, h5, h6⟩ := e1
  simp only [inB, sizeB, leB, Bool.and_eq_true, decide_eq_true_eq] at h1 h2 h4
  have h7 : (u = true → (es.length : Int) = h ∧ f = 0) ∧ (u = false → 0 ≤ f ∧ f < n) := by
    cases u
    · simp [selB, inB] at h6 ⊢; omega
    · simp [selB] at h6 ⊢; omega
  refine ⟨?_, h5, h7.1, fun hu => (h7.2 hu).2⟩
  cases u
  · have := h7.2 rfl; omega
  · have := h7.1 rfl; omega

def VW.ls' (v : VW) : List PV := [.int .i64 v.n, .int .i64 v.f, .bool v.u, .int .i64 v.w, .int .i64 v.h, .list v.r]
/-- The encoding of a view. -/
def viewT (v : VW) : List UInt8 := fieldsB (.str (numsB [.int .i64 v.n, .int .i64 v.f, .int .i64 (bitI v.u), .int .i64 v.w, .int .i64 v.h]) :: v.r.map fun e => .str (nB (nth e.A 0).I 1 ++ (nth e.A 1).S))
def c_l11Bytes : FSpec := ⟨[(.rd, .agg [.int .i64, .int .i64, .bool, .int .i64, .int .i64, .list (.agg [.int .i64, .str])])], [.str], true, fun ps => viewB (nth ps 0).A = true, fun ps => [.str (viewT ⟨(nth (nth ps 0).A 0).I, (nth (nth ps 0).A 1).I, (nth (nth ps 0).A 2).B, (nth (nth ps 0).A 3).I, (nth (nth ps 0).A 4).I, (nth (nth ps 0).A 5).L⟩)], fun _ => []⟩
theorem k_l11Bytes : FnOk Try.prog 89 c_l11Bytes := by
  refine fn_mk [0, 1, 2, 3, 4] [.tmp 2] (env_cons (cs := []) k_l01Bit (env_cons (cs := []) k_l02Fields (env_cons (cs := []) k_l02Number (env_cons (cs := []) k_l02Numbers (env_nil (tyTab_ok [])))))) mixed Try.func89 rfl (by decide) rfl (by decide) rfl ?_
  intro ps hT hpre W hW
  simp only [c_l11Bytes, TyA, Ty, Tys] at hT hpre
  obtain ⟨_, _, rfl, ⟨_, rfl, _, _, rfl, ⟨n, rfl, hn⟩, _, _, rfl, ⟨f, rfl, hf⟩, _, _, rfl, ⟨u, rfl⟩, _, _, rfl, ⟨w, rfl, hw⟩, _, _, rfl, ⟨h, rfl, hh⟩, _, _, rfl, ⟨es, rfl, hes, tes⟩, rfl⟩, rfl⟩ := hT
  simp only [nth_zero, pv_A] at hpre
  refine hW.vc [(1, [], .take 0 <| .take 1 <| .take 2 <| .take 3 <| .take 4 <| .take 5 <| .take 7 <| .take 8 <| .take 9 <| .take 10 <| .alt 6 (.alt 11 (.alt 12 (.take 13 <| .alt 14 (.alt 15 (.done) .stop) .stop) .stop) .stop) .stop), (5, [17], .take 0 <| .take 1 <| .take 2 <| .take 3 <| .take 4 <| .take 5 <| .take 6 <| .take 9 <| .take 10 <| .take 11 <| .take 12 <| .take 13 <| .take 14 <| .alt 7 (.take 8 <| .take 15 <| .alt 16 (.alt 17 (.alt 18 (.done) .stop) .stop) .stop) .stop)] _ _ ?_
  simp [-List.getD_eq_getElem?_getD, nth_fold, nth_zero, nth_succ, pv_I, pv_B, pv_S, pv_L, pv_A, pv_at, lv_int, lv_bool, lv_str, lv_list, lv_agg, PTy.leaves, PTy.wd, inR, TI.sz, TI.pty, lk, set1, memB, anyB, kill, strike, stillH, unpath, still, prom, proms, dpB, dpAll, ndB, isNil, shOk, takeIn, takeOk, St.slot, ofConst1, ofConsts, ofConst, St.ev, SV.cells, SV.ofCells, SV.leafB, leafAll, fixL, zeroSV, zeroSVs, zeroLf, zeroLfs, zeroPV, resL, resLs, resB, resBs, resT, resTs, resEs, introL, noP, elP, introV, introVs, packV, binI, binS, imp, evs, closes, findFn, slsOf, slsAll, argLs, argsLs, pathOf, rdHs1, rdHsL, rdHs, rdsHs, rdOk, lendOk, backL, backs, ownersOf, allRd, soleMt, firstP, callRd, callPt, callOw, callOwn, callRes, idxs, oprs, fillSV, partsOk, convRes, viewE, viewA, pathE, pathA, sliceRes, evO, etaL, storeEl, loadEl, flatL, flatLs, flatB, leafD, leafDs, dataB, ownO, sameO, isStruct, aggOk, leafAt, srcOf, joinB, joinOk, appRes, copyTo, copyRes, builtinRes, loadHy, eqCs, lvsOf, opRes, nilRes, guardOf, csz, ksz, unwd, dstOk, putS, vcK, vwCall, skipR, stepD, vcD, growP, rdCall, convP, rn, entV, entVs, entR, entO, entH, hlts, domH, entA, entL, ent, itVal, hsV, hsVs, itSlots, itBoxes, dropL, hsL, hsA, onlyR, gcH, gcA, itReach, itLay, itSt, mr, mrs, itRho, itOk, introB, introBs, introR, introX, introT, introTs, lkAll, numb, resMs, retOk, mtTy, bxCs, mtSls, mtHs, finFr, finOf, SV.lt, SV.lts, IntKind.min, IntKind.max, IntKind.signed, IntKind.bits, LIM, ty3, T3_sz, T3_pty, T3, ty4, T4_sz, T4_pty, T4, ty5, T5_sz, T5_pty, T5, ty9, T9_sz, T9_pty, T9, ty22, T22_sz, T22_pty, T22, ty23, T23_sz, T23_pty, T23, ty25, T25_sz, T25_pty, T25, ty35, T35_sz, T35_pty, T35, ty59, T59_sz, T59_pty, T59, ty105, T105_sz, T105_pty, T105, c_l11Bytes, c_l02Numbers, c_l02Number, c_l02Fields, c_l01Bit, c_bit, c_bit]
  obtain ⟨g1, g2, g3, g4⟩ := vw_facts hpre
  have hup := up_get' g2
  have hb : -1 ≤ bitI u ∧ bitI u ≤ 1073741824 := by cases u <;> simp [bitI]
  refine ⟨by decide +kernel, rfl, ⟨by omega, by omega, hb, by omega, by omega⟩, ?_⟩
  rw [pvBytes_bytes]
  refine hW.loopS _ _ _ [.sl 3 .dp (.list .str), .sl 4 .dp (.int .i64)] (fun ys => ∃ i : Nat, ys = [.list (.str (numsB [.int .i64 n, .int .i64 f, .int .i64 (bitI u), .int .i64 w, .int .i64 h]) :: (es.take i).map fun e => .str (nB (nth e.A 0).I 1 ++ (nth e.A 1).S)), .int .i64 i] ∧ i ≤ es.length) (fun ys => es.length - (nth ys 1).I.toNat) ?_ ?_
  · simp [-List.getD_eq_getElem?_getD, nth_fold, nth_zero, nth_succ, pv_I, pv_B, pv_S, pv_L, pv_A, pv_at, lv_int, lv_bool, lv_str, lv_list, lv_agg, PTy.leaves, PTy.wd, inR, TI.sz, TI.pty, lk, set1, memB, anyB, kill, strike, stillH, unpath, still, prom, proms, dpB, dpAll, ndB, isNil, shOk, takeIn, takeOk, St.slot, ofConst1, ofConsts, ofConst, St.ev, SV.cells, SV.ofCells, SV.leafB, leafAll, fixL, zeroSV, zeroSVs, zeroLf, zeroLfs, zeroPV, resL, resLs, resB, resBs, resT, resTs, resEs, introL, noP, elP, introV, introVs, packV, binI, binS, imp, evs, closes, findFn, slsOf, slsAll, argLs, argsLs, pathOf, rdHs1, rdHsL, rdHs, rdsHs, rdOk, lendOk, backL, backs, ownersOf, allRd, soleMt, firstP, callRd, callPt, callOw, callOwn, callRes, idxs, oprs, fillSV, partsOk, convRes, viewE, viewA, pathE, pathA, sliceRes, evO, etaL, storeEl, loadEl, flatL, flatLs, flatB, leafD, leafDs, dataB, ownO, sameO, isStruct, aggOk, leafAt, srcOf, joinB, joinOk, appRes, copyTo, copyRes, builtinRes, loadHy, eqCs, lvsOf, opRes, nilRes, guardOf, csz, ksz, unwd, dstOk, putS, vcK, vwCall, skipR, stepD, vcD, growP, rdCall, convP, rn, entV, entVs, entR, entO, entH, hlts, domH, entA, entL, ent, itVal, hsV, hsVs, itSlots, itBoxes, dropL, hsL, hsA, onlyR, gcH, gcA, itReach, itLay, itSt, mr, mrs, itRho, itOk, introB, introBs, introR, introX, introT, introTs, lkAll, numb, resMs, retOk, mtTy, bxCs, mtSls, mtHs, finFr, finOf, SV.lt, SV.lts, IntKind.min, IntKind.max, IntKind.signed, IntKind.bits, LIM, ty3, T3_sz, T3_pty, T3, ty4, T4_sz, T4_pty, T4, ty5, T5_sz, T5_pty, T5, ty9, T9_sz, T9_pty, T9, ty22, T22_sz, T22_pty, T22, ty23, T23_sz, T23_pty, T23, ty25, T25_sz, T25_pty, T25, ty35, T35_sz, T35_pty, T35, ty59, T59_sz, T59_pty, T59, ty105, T105_sz, T105_pty, T105, c_l11Bytes, c_l02Numbers, c_l02Number, c_l02Fields, c_l01Bit, c_bit, c_bit]
    exact ⟨0, ⟨by simp, rfl⟩, by omega⟩
  · rintro ys ⟨i, rfl, h2⟩
    refine hW.vc [(1, [], .take 0 <| .take 1 <| .take 2 <| .take 3 <| .take 4 <| .take 5 <| .take 7 <| .take 8 <| .take 9 <| .take 10 <| .alt 6 (.alt 11 (.alt 12 (.take 13 <| .alt 14 (.alt 15 (.done) .stop) .stop) .stop) .stop) .stop), (5, [17], .take 0 <| .take 1 <| .take 2 <| .take 3 <| .take 4 <| .take 5 <| .take 6 <| .take 9 <| .take 10 <| .take 11 <| .take 12 <| .take 13 <| .take 14 <| .alt 7 (.take 8 <| .take 15 <| .alt 16 (.alt 17 (.alt 18 (.done) .stop) .stop) .stop) .stop)] _ _ ?_
    simp [-List.getD_eq_getElem?_getD, nth_fold, nth_zero, nth_succ, pv_I, pv_B, pv_S, pv_L, pv_A, pv_at, lv_int, lv_bool, lv_str, lv_list, lv_agg, PTy.leaves, PTy.wd, inR, TI.sz, TI.pty, lk, set1, memB, anyB, kill, strike, stillH, unpath, still, prom, proms, dpB, dpAll, ndB, isNil, shOk, takeIn, takeOk, St.slot, ofConst1, ofConsts, ofConst, St.ev, SV.cells, SV.ofCells, SV.leafB, leafAll, fixL, zeroSV, zeroSVs, zeroLf, zeroLfs, zeroPV, resL, resLs, resB, resBs, resT, resTs, resEs, introL, noP, elP, introV, introVs, packV, binI, binS, imp, evs, closes, findFn, slsOf, slsAll, argLs, argsLs, pathOf, rdHs1, rdHsL, rdHs, rdsHs, rdOk, lendOk, backL, backs, ownersOf, allRd, soleMt, firstP, callRd, callPt, callOw, callOwn, callRes, idxs, oprs, fillSV, partsOk, convRes, viewE, viewA, pathE, pathA, sliceRes, evO, etaL, storeEl, loadEl, flatL, flatLs, flatB, leafD, leafDs, dataB, ownO, sameO, isStruct, aggOk, leafAt, srcOf, joinB, joinOk, appRes, copyTo, copyRes, builtinRes, loadHy, eqCs, lvsOf, opRes, nilRes, guardOf, csz, ksz, unwd, dstOk, putS, vcK, vwCall, skipR, stepD, vcD, growP, rdCall, convP, rn, entV, entVs, entR, entO, entH, hlts, domH, entA, entL, ent, itVal, hsV, hsVs, itSlots, itBoxes, dropL, hsL, hsA, onlyR, gcH, gcA, itReach, itLay, itSt, mr, mrs, itRho, itOk, introB, introBs, introR, introX, introT, introTs, lkAll, numb, resMs, retOk, mtTy, bxCs, mtSls, mtHs, finFr, finOf, SV.lt, SV.lts, IntKind.min, IntKind.max, IntKind.signed, IntKind.bits, LIM, ty3, T3_sz, T3_pty, T3, ty4, T4_sz, T4_pty, T4, ty5, T5_sz, T5_pty, T5, ty9, T9_sz, T9_pty, T9, ty22, T22_sz, T22_pty, T22, ty23, T23_sz, T23_pty, T23, ty25, T25_sz, T25_pty, T25, ty35, T35_sz, T35_pty, T35, ty59, T59_sz, T59_pty, T59, ty105, T105_sz, T105_pty, T105, c_l11Bytes, c_l02Numbers, c_l02Number, c_l02Fields, c_l01Bit, c_bit, c_bit]
    rw [wrap64 (n := (i : Int) + 1) (by omega)]
    refine fun _ => ⟨fun h3 => ⟨by decide +kernel, h3, fun _ => ⟨h3, fun _ => ⟨(hup i h3).1.1, ?_, by omega, fun _ => ⟨⟨i + 1, ⟨?_, by omega⟩, by omega⟩, by omega⟩⟩⟩⟩, fun h3 => ⟨⟨by omega, ?_, ?_⟩, ?_⟩⟩
    · have := (hup i h3).2
      rw [pvBytes_bytes, nB_len]; omega
    · rw [pvBytes_bytes, take_nth (by simpa using h3), nth_map _ _ _ h3, nth_eq h3]
    · rw [numsB_len]; simp
    · intro a ha
      obtain ⟨e, he, rfl⟩ := List.mem_map.1 (List.mem_of_mem_take ha)
      have := (up_all g2 e he).2
      simp only [pv_S, List.length_append, nB_len]; omega
    · rw [pvBytes_bytes, List.take_of_length_le (by simpa using h3)]; rfl

theorem viewT_len {n f w h : Int} {u : Bool} {es : List PV} (hv : viewB [.int .i64 n, .int .i64 f, .bool u, .int .i64 w, .int .i64 h, .list es] = true) : (viewT ⟨n, f, u, w, h, es⟩).length ≤ 1100 := by
  obtain ⟨g1, g2, g3, g4⟩ := vw_facts hv
  unfold viewT fieldsB
  rw [List.length_cons]
  have := flds_len (k := 97) (es := .str (numsB [.int .i64 n, .int .i64 f, .int .i64 (bitI u), .int .i64 w, .int .i64 h]) :: es.map fun e => .str (nB (nth e.A 0).I 1 ++ (nth e.A 1).S)) fun x hx => by
    rcases List.mem_cons.1 hx with rfl | hx
    · rw [pv_S, numsB_len]; simp
    · obtain ⟨e, he, rfl⟩ := List.mem_map.1 hx
      have := (up_all g2 e he).2
      simp only [pv_S, List.length_append, nB_len]; omega
  rw [List.length_cons, List.length_map] at this
  refine Nat.le_trans (Nat.add_le_add_right this 1) ?_
  omega

def viewBytesOf (v : VW) : List PV × Int := if viewB v.ls' = true then (bytesPV (viewT v), 0) else ([], 1)
theorem vbo_a {v : VW} (h : viewB v.ls' = true) : viewBytesOf v = (bytesPV (viewT v), 0) := if_pos h
theorem vbo_b {v : VW} (h : viewB v.ls' = false) : viewBytesOf v = ([], 1) := if_neg (by simp [h])
theorem vbo_len (v : VW) : (viewBytesOf v).1.length ≤ 1100 := by
  cases h : viewB v.ls' with
  | true => rw [vbo_a h, bytesPV_len]; exact viewT_len h
  | false => rw [vbo_b h]; simp

def c_sViewBytes : FSpec := ⟨[(.rd, .agg [.int .i64, .int .i64, .bool, .int .i64, .int .i64, .list (.agg [.int .i64, .str])])], [.list (.int .u8), .int .i64], true, fun _ => True,
  fun ps => [.list (viewBytesOf ⟨(nth (nth ps 0).A 0).I, (nth (nth ps 0).A 1).I, (nth (nth ps 0).A 2).B, (nth (nth ps 0).A 3).I, (nth (nth ps 0).A 4).I, (nth (nth ps 0).A 5).L⟩).1,
    .int .i64 (viewBytesOf ⟨(nth (nth ps 0).A 0).I, (nth (nth ps 0).A 1).I, (nth (nth ps 0).A 2).B, (nth (nth ps 0).A 3).I, (nth (nth ps 0).A 4).I, (nth (nth ps 0).A 5).L⟩).2], fun _ => []⟩
theorem k_sViewBytes : FnOk Try.prog 41 c_sViewBytes := by
  refine fn_mk [0, 1, 2, 3] [.tmp 2, .tmp 3] (env_cons (cs := []) k_l11Bytes (env_cons (cs := []) k_sViewOK (env_nil (tyTab_ok [])))) mixed Try.func41 rfl (by decide) rfl (by decide) rfl ?_
  intro ps hT hpre W hW
  simp only [c_sViewBytes, TyA, Ty, Tys] at hT hpre
  obtain ⟨_, _, rfl, ⟨_, rfl, _, _, rfl, ⟨n, rfl, hn⟩, _, _, rfl, ⟨f, rfl, hf⟩, _, _, rfl, ⟨u, rfl⟩, _, _, rfl, ⟨w, rfl, hw⟩, _, _, rfl, ⟨h, rfl, hh⟩, _, _, rfl, ⟨es, rfl, hes, tes⟩, rfl⟩, rfl⟩ := hT
  refine hW.vc [] _ _ ?_
  simp [-List.getD_eq_getElem?_getD, nth_fold, nth_zero, nth_succ, pv_I, pv_B, pv_S, pv_L, pv_A, pv_at, lv_int, lv_bool, lv_str, lv_list, lv_agg, PTy.leaves, PTy.wd, inR, TI.sz, TI.pty, lk, set1, memB, anyB, kill, strike, stillH, unpath, still, prom, proms, dpB, dpAll, ndB, isNil, shOk, takeIn, takeOk, St.slot, ofConst1, ofConsts, ofConst, St.ev, SV.cells, SV.ofCells, SV.leafB, leafAll, fixL, zeroSV, zeroSVs, zeroLf, zeroLfs, zeroPV, resL, resLs, resB, resBs, resT, resTs, resEs, introL, noP, elP, introV, introVs, packV, binI, binS, imp, evs, closes, findFn, slsOf, slsAll, argLs, argsLs, pathOf, rdHs1, rdHsL, rdHs, rdsHs, rdOk, lendOk, backL, backs, ownersOf, allRd, soleMt, firstP, callRd, callPt, callOw, callOwn, callRes, idxs, oprs, fillSV, partsOk, convRes, viewE, viewA, pathE, pathA, sliceRes, evO, etaL, storeEl, loadEl, flatL, flatLs, flatB, leafD, leafDs, dataB, ownO, sameO, isStruct, aggOk, leafAt, srcOf, joinB, joinOk, appRes, copyTo, copyRes, builtinRes, loadHy, eqCs, lvsOf, opRes, nilRes, guardOf, csz, ksz, unwd, dstOk, putS, vcK, vwCall, skipR, stepD, vcD, growP, rdCall, convP, rn, entV, entVs, entR, entO, entH, hlts, domH, entA, entL, ent, itVal, hsV, hsVs, itSlots, itBoxes, dropL, hsL, hsA, onlyR, gcH, gcA, itReach, itLay, itSt, mr, mrs, itRho, itOk, introB, introBs, introR, introX, introT, introTs, lkAll, numb, resMs, retOk, mtTy, bxCs, mtSls, mtHs, finFr, finOf, SV.lt, SV.lts, IntKind.min, IntKind.max, IntKind.signed, IntKind.bits, LIM, ty3, T3_sz, T3_pty, T3, ty4, T4_sz, T4_pty, T4, ty5, T5_sz, T5_pty, T5, ty9, T9_sz, T9_pty, T9, ty22, T22_sz, T22_pty, T22, ty23, T23_sz, T23_pty, T23, ty25, T25_sz, T25_pty, T25, ty105, T105_sz, T105_pty, T105, c_sViewBytes, c_sViewOK, c_l11Bytes, c_isView, c_isView]
  exact ⟨fun q => by rw [vbo_b (v := ⟨n, f, u, w, h, es⟩) q]; simp, fun q => ⟨q, by rw [vbo_a (v := ⟨n, f, u, w, h, es⟩) q]; simp⟩⟩

end Go.Proofs.Ytmjjdfhpnckacab
