/-
  The contracts of the functions on runes, cells and rows of cells.
  Conditions: none.
-/
import Derived.Test.YtmjjdfhpnckacabFb
namespace Go.Proofs.Ytmjjdfhpnckacab
set_option maxRecDepth 100000
set_option linter.unusedSimpArgs false

def numB (l : List UInt8) : Int := l.foldl (fun n b => n * 256 + b.toNat) 0
theorem numB_snoc (l : List UInt8) (b : UInt8) : numB (l ++ [b]) = numB l * 256 + b.toNat := by simp [numB]
theorem numB_take {l : List UInt8} {i : Nat} (h : i < l.length) : numB (l.take (i + 1)) = numB (l.take i) * 256 + (l.getD i 0).toNat := by
  rw [List.take_succ_eq_append_getElem h, numB_snoc]; simp [h]
theorem numB_bound : ∀ (n : Nat) (l : List UInt8), l.length = n → 0 ≤ numB l ∧ numB l < 256 ^ n
  | 0, l, h => by have := List.eq_nil_of_length_eq_zero h; subst this; simp [numB]
  | n + 1, l, h => by
    have h0 : l ≠ [] := by intro e; subst e; simp at h
    have h1 := List.dropLast_concat_getLast h0
    have h2 := numB_bound n l.dropLast (by simp [h])
    have h3 := (l.getLast h0).toNat_lt
    rw [← h1, numB_snoc, Int.pow_succ]
    omega
theorem numB_le {l : List UInt8} (h : l.length ≤ 7) (i : Nat) : 0 ≤ numB (l.take i) ∧ numB (l.take i) < 72057594037927936 := by
  have h1 := numB_bound (l.take i).length (l.take i) rfl
  refine ⟨h1.1, Int.lt_of_lt_of_le h1.2 ?_⟩
  have h2 : (l.take i).length ≤ 7 := by simp; omega
  have h3 : (256 : Int) ^ (l.take i).length ≤ 256 ^ 7 := by
    have := Nat.pow_le_pow_right (n := 256) (by decide) h2
    exact_mod_cast this
  exact Int.le_trans h3 (by decide)
theorem numB_le6 {l : List UInt8} (h : l.length ≤ 7) {i : Nat} (hi : i < l.length) : 0 ≤ numB (l.take i) ∧ numB (l.take i) < 281474976710656 := by
  have h1 := numB_bound (l.take i).length (l.take i) rfl
  refine ⟨h1.1, Int.lt_of_lt_of_le h1.2 ?_⟩
  have h2 : (l.take i).length ≤ 6 := by simp; omega
  have h3 : (256 : Int) ^ (l.take i).length ≤ 256 ^ 6 := by
    have := Nat.pow_le_pow_right (n := 256) (by decide) h2
    exact_mod_cast this
  exact Int.le_trans h3 (by decide)

theorem or_byte {m : Int} {b : UInt8} (h0 : 0 ≤ m) (h1 : m < 281474976710656) : orI .i64 (m * 256) b.toNat = m * 256 + b.toNat := by
  obtain ⟨k, rfl⟩ := Int.eq_ofNat_of_zero_le h0
  have hb := b.toNat_lt
  unfold orI
  have hw : IntKind.i64.bits = 64 := rfl
  rw [hw]
  have e1 : (BitVec.ofInt 64 ((k : Int) * 256)).toNat = k * 256 := by
    rw [show (k : Int) * 256 = ((k * 256 : Nat) : Int) by simp, BitVec.ofInt_natCast, BitVec.toNat_ofNat]
    exact Nat.mod_eq_of_lt (by omega)
  have e2 : (BitVec.ofInt 64 (b.toNat : Int)).toNat = b.toNat := by
    rw [BitVec.ofInt_natCast, BitVec.toNat_ofNat]
    exact Nat.mod_eq_of_lt (by omega)
  rw [BitVec.toNat_or, e1, e2]
  have e3 : k * 256 ||| b.toNat = k * 256 + b.toNat := by
    have := Nat.shiftLeft_add_eq_or_of_lt (i := 8) (b := b.toNat) (by omega) k
    rw [Nat.shiftLeft_eq] at this
    exact this.symm
  rw [e3]
  rw [wrap64 (by omega)]
  simp

theorem conv_byte (b : UInt8) : IntKind.i64.wrap (b.toNat : Int) = b.toNat := wrap64 (by have := b.toNat_lt; omega)

def c_l02Of : FSpec := ⟨[(.rd, .str)], [.int .i64], true, fun ps => (nth ps 0).S.length ≤ 7, fun ps => [.int .i64 (numB (nth ps 0).S)], fun _ => []⟩
theorem k_l02Of : FnOk Try.prog 143 c_l02Of := by
  refine fn_mk [0, 2, 3, 4] [.tmp 2] (env_nil (tyTab_ok [])) mixed Try.func143 rfl (by decide) rfl (by decide) rfl ?_
  intro ps hT hpre W hW
  simp only [c_l02Of, TyA, Ty, Tys] at hT hpre
  obtain ⟨_, _, rfl, ⟨l, rfl, hl⟩, rfl⟩ := hT
  simp only [nth_zero, pv_S] at hpre
  refine hW.vc [] _ _ ?_
  simp [-List.getD_eq_getElem?_getD, nth_fold, nth_zero, nth_succ, pv_I, pv_B, pv_S, pv_L, pv_A, pv_at, lv_int, lv_bool, lv_str, lv_list, lv_agg, PTy.leaves, PTy.wd, inR, TI.sz, TI.pty, lk, set1, memB, anyB, kill, strike, stillH, unpath, still, prom, proms, dpB, dpAll, ndB, isNil, shOk, takeIn, takeOk, St.slot, ofConst1, ofConsts, ofConst, St.ev, SV.cells, SV.ofCells, SV.leafB, leafAll, fixL, zeroSV, zeroSVs, zeroLf, zeroLfs, zeroPV, resL, resLs, resB, resBs, resT, resTs, resEs, introL, noP, elP, introV, introVs, packV, binI, binS, imp, evs, closes, findFn, slsOf, slsAll, argLs, argsLs, pathOf, rdHs1, rdHsL, rdHs, rdsHs, rdOk, lendOk, backL, backs, ownersOf, allRd, soleMt, firstP, callRd, callPt, callOw, callOwn, callRes, idxs, oprs, fillSV, partsOk, convRes, viewE, viewA, pathE, pathA, sliceRes, evO, etaL, storeEl, loadEl, flatL, flatLs, flatB, leafD, leafDs, dataB, ownO, sameO, isStruct, aggOk, leafAt, srcOf, joinB, joinOk, appRes, copyTo, copyRes, builtinRes, loadHy, eqCs, lvsOf, opRes, nilRes, guardOf, csz, ksz, unwd, dstOk, putS, vcK, vwCall, skipR, stepD, vcD, growP, rdCall, convP, rn, entV, entVs, entR, entO, entH, hlts, domH, entA, entL, ent, itVal, hsV, hsVs, itSlots, itBoxes, dropL, hsL, hsA, onlyR, gcH, gcA, itReach, itLay, itSt, mr, mrs, itRho, itOk, introB, introBs, introR, introX, introT, introTs, lkAll, numb, resMs, retOk, mtTy, bxCs, mtSls, mtHs, finFr, finOf, SV.lt, SV.lts, IntKind.min, IntKind.max, IntKind.signed, IntKind.bits, LIM, ty3, T3_sz, T3_pty, T3, ty4, T4_sz, T4_pty, T4, ty5, T5_sz, T5_pty, T5, ty9, T9_sz, T9_pty, T9, c_l02Of]
  refine hW.loopS _ _ _ [.sl 3 .dp (.int .i64), .sl 4 .dp (.int .i64)] (fun ys => ∃ i : Nat, ys = [.int .i64 (numB (l.take i)), .int .i64 i] ∧ i ≤ l.length) (fun ys => l.length - (nth ys 1).I.toNat) ?_ ?_
  · simp [-List.getD_eq_getElem?_getD, nth_fold, nth_zero, nth_succ, pv_I, pv_B, pv_S, pv_L, pv_A, pv_at, lv_int, lv_bool, lv_str, lv_list, lv_agg, PTy.leaves, PTy.wd, inR, TI.sz, TI.pty, lk, set1, memB, anyB, kill, strike, stillH, unpath, still, prom, proms, dpB, dpAll, ndB, isNil, shOk, takeIn, takeOk, St.slot, ofConst1, ofConsts, ofConst, St.ev, SV.cells, SV.ofCells, SV.leafB, leafAll, fixL, zeroSV, zeroSVs, zeroLf, zeroLfs, zeroPV, resL, resLs, resB, resBs, resT, resTs, resEs, introL, noP, elP, introV, introVs, packV, binI, binS, imp, evs, closes, findFn, slsOf, slsAll, argLs, argsLs, pathOf, rdHs1, rdHsL, rdHs, rdsHs, rdOk, lendOk, backL, backs, ownersOf, allRd, soleMt, firstP, callRd, callPt, callOw, callOwn, callRes, idxs, oprs, fillSV, partsOk, convRes, viewE, viewA, pathE, pathA, sliceRes, evO, etaL, storeEl, loadEl, flatL, flatLs, flatB, leafD, leafDs, dataB, ownO, sameO, isStruct, aggOk, leafAt, srcOf, joinB, joinOk, appRes, copyTo, copyRes, builtinRes, loadHy, eqCs, lvsOf, opRes, nilRes, guardOf, csz, ksz, unwd, dstOk, putS, vcK, vwCall, skipR, stepD, vcD, growP, rdCall, convP, rn, entV, entVs, entR, entO, entH, hlts, domH, entA, entL, ent, itVal, hsV, hsVs, itSlots, itBoxes, dropL, hsL, hsA, onlyR, gcH, gcA, itReach, itLay, itSt, mr, mrs, itRho, itOk, introB, introBs, introR, introX, introT, introTs, lkAll, numb, resMs, retOk, mtTy, bxCs, mtSls, mtHs, finFr, finOf, SV.lt, SV.lts, IntKind.min, IntKind.max, IntKind.signed, IntKind.bits, LIM, ty3, T3_sz, T3_pty, T3, ty4, T4_sz, T4_pty, T4, ty5, T5_sz, T5_pty, T5, ty9, T9_sz, T9_pty, T9, c_l02Of]
    exact ⟨0, ⟨by simp [numB], rfl⟩, by simp⟩
  · rintro ys ⟨i, rfl, h4⟩
    refine hW.vc [] _ _ ?_
    simp [-List.getD_eq_getElem?_getD, nth_fold, nth_zero, nth_succ, pv_I, pv_B, pv_S, pv_L, pv_A, pv_at, lv_int, lv_bool, lv_str, lv_list, lv_agg, PTy.leaves, PTy.wd, inR, TI.sz, TI.pty, lk, set1, memB, anyB, kill, strike, stillH, unpath, still, prom, proms, dpB, dpAll, ndB, isNil, shOk, takeIn, takeOk, St.slot, ofConst1, ofConsts, ofConst, St.ev, SV.cells, SV.ofCells, SV.leafB, leafAll, fixL, zeroSV, zeroSVs, zeroLf, zeroLfs, zeroPV, resL, resLs, resB, resBs, resT, resTs, resEs, introL, noP, elP, introV, introVs, packV, binI, binS, imp, evs, closes, findFn, slsOf, slsAll, argLs, argsLs, pathOf, rdHs1, rdHsL, rdHs, rdsHs, rdOk, lendOk, backL, backs, ownersOf, allRd, soleMt, firstP, callRd, callPt, callOw, callOwn, callRes, idxs, oprs, fillSV, partsOk, convRes, viewE, viewA, pathE, pathA, sliceRes, evO, etaL, storeEl, loadEl, flatL, flatLs, flatB, leafD, leafDs, dataB, ownO, sameO, isStruct, aggOk, leafAt, srcOf, joinB, joinOk, appRes, copyTo, copyRes, builtinRes, loadHy, eqCs, lvsOf, opRes, nilRes, guardOf, csz, ksz, unwd, dstOk, putS, vcK, vwCall, skipR, stepD, vcD, growP, rdCall, convP, rn, entV, entVs, entR, entO, entH, hlts, domH, entA, entL, ent, itVal, hsV, hsVs, itSlots, itBoxes, dropL, hsL, hsA, onlyR, gcH, gcA, itReach, itLay, itSt, mr, mrs, itRho, itOk, introB, introBs, introR, introX, introT, introTs, lkAll, numb, resMs, retOk, mtTy, bxCs, mtSls, mtHs, finFr, finOf, SV.lt, SV.lts, IntKind.min, IntKind.max, IntKind.signed, IntKind.bits, LIM, ty3, T3_sz, T3_pty, T3, ty4, T4_sz, T4_pty, T4, ty5, T5_sz, T5_pty, T5, ty9, T9_sz, T9_pty, T9, c_l02Of]
    refine fun _ => ⟨fun h6 => ⟨h6, ?_⟩, fun h6 => by rw [List.take_of_length_le h6]⟩
    have h7 := numB_le hpre i
    have h8 := numB_le6 hpre h6
    have h9 := (l.getD i 0).toNat_lt
    rw [conv_byte, wrap64 (n := numB (l.take i) * 256) (by omega), wrap64 (by omega), wrap64 (by omega)]
    exact ⟨⟨i + 1, ⟨(numB_take h6).symm, by omega⟩, by omega⟩, by omega⟩

def c_bigNumber : FSpec := c_l02Of
theorem k_bigNumber : FnOk Try.prog 145 c_bigNumber := by
  refine fn_mk [0, 2, 3, 4, 6, 7] [.tmp 2] (env_nil (tyTab_ok [])) mixed Try.func145 rfl (by decide) rfl (by decide) rfl ?_
  intro ps hT hpre W hW
  simp only [c_bigNumber, TyA, Ty, Tys] at hT hpre
  simp only [c_l02Of, TyA, Ty] at hT hpre
  obtain ⟨_, _, rfl, ⟨l, rfl, hl⟩, rfl⟩ := hT
  simp only [nth_zero, pv_S] at hpre
  refine hW.vc [] _ _ ?_
  simp [-List.getD_eq_getElem?_getD, nth_fold, nth_zero, nth_succ, pv_I, pv_B, pv_S, pv_L, pv_A, pv_at, lv_int, lv_bool, lv_str, lv_list, lv_agg, PTy.leaves, PTy.wd, inR, TI.sz, TI.pty, lk, set1, memB, anyB, kill, strike, stillH, unpath, still, prom, proms, dpB, dpAll, ndB, isNil, shOk, takeIn, takeOk, St.slot, ofConst1, ofConsts, ofConst, St.ev, SV.cells, SV.ofCells, SV.leafB, leafAll, fixL, zeroSV, zeroSVs, zeroLf, zeroLfs, zeroPV, resL, resLs, resB, resBs, resT, resTs, resEs, introL, noP, elP, introV, introVs, packV, binI, binS, imp, evs, closes, findFn, slsOf, slsAll, argLs, argsLs, pathOf, rdHs1, rdHsL, rdHs, rdsHs, rdOk, lendOk, backL, backs, ownersOf, allRd, soleMt, firstP, callRd, callPt, callOw, callOwn, callRes, idxs, oprs, fillSV, partsOk, convRes, viewE, viewA, pathE, pathA, sliceRes, evO, etaL, storeEl, loadEl, flatL, flatLs, flatB, leafD, leafDs, dataB, ownO, sameO, isStruct, aggOk, leafAt, srcOf, joinB, joinOk, appRes, copyTo, copyRes, builtinRes, loadHy, eqCs, lvsOf, opRes, nilRes, guardOf, csz, ksz, unwd, dstOk, putS, vcK, vwCall, skipR, stepD, vcD, growP, rdCall, convP, rn, entV, entVs, entR, entO, entH, hlts, domH, entA, entL, ent, itVal, hsV, hsVs, itSlots, itBoxes, dropL, hsL, hsA, onlyR, gcH, gcA, itReach, itLay, itSt, mr, mrs, itRho, itOk, introB, introBs, introR, introX, introT, introTs, lkAll, numb, resMs, retOk, mtTy, bxCs, mtSls, mtHs, finFr, finOf, SV.lt, SV.lts, IntKind.min, IntKind.max, IntKind.signed, IntKind.bits, LIM, ty3, T3_sz, T3_pty, T3, ty4, T4_sz, T4_pty, T4, ty5, T5_sz, T5_pty, T5, ty9, T9_sz, T9_pty, T9, c_bigNumber, c_l02Of, c_l02Of]
  intro h0
  refine hW.loopS _ _ _ [.sl 3 .dp (.int .i64), .sl 7 .dp (.int .i64)] (fun ys => ∃ i : Nat, ys = [.int .i64 (numB (l.take i)), .int .i64 i] ∧ i ≤ l.length) (fun ys => l.length - (nth ys 1).I.toNat) ?_ ?_
  · simp [-List.getD_eq_getElem?_getD, nth_fold, nth_zero, nth_succ, pv_I, pv_B, pv_S, pv_L, pv_A, pv_at, lv_int, lv_bool, lv_str, lv_list, lv_agg, PTy.leaves, PTy.wd, inR, TI.sz, TI.pty, lk, set1, memB, anyB, kill, strike, stillH, unpath, still, prom, proms, dpB, dpAll, ndB, isNil, shOk, takeIn, takeOk, St.slot, ofConst1, ofConsts, ofConst, St.ev, SV.cells, SV.ofCells, SV.leafB, leafAll, fixL, zeroSV, zeroSVs, zeroLf, zeroLfs, zeroPV, resL, resLs, resB, resBs, resT, resTs, resEs, introL, noP, elP, introV, introVs, packV, binI, binS, imp, evs, closes, findFn, slsOf, slsAll, argLs, argsLs, pathOf, rdHs1, rdHsL, rdHs, rdsHs, rdOk, lendOk, backL, backs, ownersOf, allRd, soleMt, firstP, callRd, callPt, callOw, callOwn, callRes, idxs, oprs, fillSV, partsOk, convRes, viewE, viewA, pathE, pathA, sliceRes, evO, etaL, storeEl, loadEl, flatL, flatLs, flatB, leafD, leafDs, dataB, ownO, sameO, isStruct, aggOk, leafAt, srcOf, joinB, joinOk, appRes, copyTo, copyRes, builtinRes, loadHy, eqCs, lvsOf, opRes, nilRes, guardOf, csz, ksz, unwd, dstOk, putS, vcK, vwCall, skipR, stepD, vcD, growP, rdCall, convP, rn, entV, entVs, entR, entO, entH, hlts, domH, entA, entL, ent, itVal, hsV, hsVs, itSlots, itBoxes, dropL, hsL, hsA, onlyR, gcH, gcA, itReach, itLay, itSt, mr, mrs, itRho, itOk, introB, introBs, introR, introX, introT, introTs, lkAll, numb, resMs, retOk, mtTy, bxCs, mtSls, mtHs, finFr, finOf, SV.lt, SV.lts, IntKind.min, IntKind.max, IntKind.signed, IntKind.bits, LIM, ty3, T3_sz, T3_pty, T3, ty4, T4_sz, T4_pty, T4, ty5, T5_sz, T5_pty, T5, ty9, T9_sz, T9_pty, T9, c_bigNumber, c_l02Of]
    exact ⟨0, ⟨by simp [numB], rfl⟩, by simp⟩
  · rintro ys ⟨i, rfl, h4⟩
    refine hW.vc [] _ _ ?_
    simp [-List.getD_eq_getElem?_getD, nth_fold, nth_zero, nth_succ, pv_I, pv_B, pv_S, pv_L, pv_A, pv_at, lv_int, lv_bool, lv_str, lv_list, lv_agg, PTy.leaves, PTy.wd, inR, TI.sz, TI.pty, lk, set1, memB, anyB, kill, strike, stillH, unpath, still, prom, proms, dpB, dpAll, ndB, isNil, shOk, takeIn, takeOk, St.slot, ofConst1, ofConsts, ofConst, St.ev, SV.cells, SV.ofCells, SV.leafB, leafAll, fixL, zeroSV, zeroSVs, zeroLf, zeroLfs, zeroPV, resL, resLs, resB, resBs, resT, resTs, resEs, introL, noP, elP, introV, introVs, packV, binI, binS, imp, evs, closes, findFn, slsOf, slsAll, argLs, argsLs, pathOf, rdHs1, rdHsL, rdHs, rdsHs, rdOk, lendOk, backL, backs, ownersOf, allRd, soleMt, firstP, callRd, callPt, callOw, callOwn, callRes, idxs, oprs, fillSV, partsOk, convRes, viewE, viewA, pathE, pathA, sliceRes, evO, etaL, storeEl, loadEl, flatL, flatLs, flatB, leafD, leafDs, dataB, ownO, sameO, isStruct, aggOk, leafAt, srcOf, joinB, joinOk, appRes, copyTo, copyRes, builtinRes, loadHy, eqCs, lvsOf, opRes, nilRes, guardOf, csz, ksz, unwd, dstOk, putS, vcK, vwCall, skipR, stepD, vcD, growP, rdCall, convP, rn, entV, entVs, entR, entO, entH, hlts, domH, entA, entL, ent, itVal, hsV, hsVs, itSlots, itBoxes, dropL, hsL, hsA, onlyR, gcH, gcA, itReach, itLay, itSt, mr, mrs, itRho, itOk, introB, introBs, introR, introX, introT, introTs, lkAll, numb, resMs, retOk, mtTy, bxCs, mtSls, mtHs, finFr, finOf, SV.lt, SV.lts, IntKind.min, IntKind.max, IntKind.signed, IntKind.bits, LIM, ty3, T3_sz, T3_pty, T3, ty4, T4_sz, T4_pty, T4, ty5, T5_sz, T5_pty, T5, ty9, T9_sz, T9_pty, T9, c_bigNumber, c_l02Of, c_l02Of]
    refine ⟨fun h6 => ⟨h6, ?_⟩, fun h6 => by rw [List.take_of_length_le h6]⟩
    have h7 := numB_le hpre i
    have h8 := numB_le6 hpre h6
    have h9 := (l.getD i 0).toNat_lt
    rw [conv_byte, show shlI IntKind.i64 (numB (List.take i l)) 8 = IntKind.i64.wrap (numB (l.take i) * 256) from rfl, wrap64 (n := numB (l.take i) * 256) (by omega), wrap64 (by omega), or_byte h8.1 h8.2]
    exact ⟨⟨i + 1, ⟨(numB_take h6).symm, by omega⟩, by omega⟩, by omega⟩

def runeOk (n : Int) : Bool := inB n 0 1114111 && !inB n 55296 57343
def isRuneB (n : Int) : Bool := inB n 32 1114111 && (n != 127) && !inB n 55296 57343
def cellB (r k : Int) : Bool := runeOk r && decide (r ≥ 32) && (r != 127) && inB k 0 127

def c_l03RuneOK : FSpec := ⟨[(.rd, .int .i64)], [.bool], true, fun _ => True, fun ps => [.bool (runeOk (nth ps 0).I)], fun _ => []⟩
theorem k_l03RuneOK : FnOk Try.prog 179 c_l03RuneOK := by
  refine fn_mk [0, 2] [.tmp 2] (env_cons (cs := []) k_l01In (env_nil (tyTab_ok []))) mixed Try.func179 rfl (by decide) rfl (by decide) rfl ?_
  intro ps hT hpre W hW
  simp only [c_l03RuneOK, TyA, Ty, Tys] at hT hpre
  obtain ⟨_, _, rfl, ⟨a, rfl, ha⟩, rfl⟩ := hT
  refine hW.vc [] _ _ ?_
  simp [-List.getD_eq_getElem?_getD, nth_fold, nth_zero, nth_succ, pv_I, pv_B, pv_S, pv_L, pv_A, pv_at, lv_int, lv_bool, lv_str, lv_list, lv_agg, PTy.leaves, PTy.wd, inR, TI.sz, TI.pty, lk, set1, memB, anyB, kill, strike, stillH, unpath, still, prom, proms, dpB, dpAll, ndB, isNil, shOk, takeIn, takeOk, St.slot, ofConst1, ofConsts, ofConst, St.ev, SV.cells, SV.ofCells, SV.leafB, leafAll, fixL, zeroSV, zeroSVs, zeroLf, zeroLfs, zeroPV, resL, resLs, resB, resBs, resT, resTs, resEs, introL, noP, elP, introV, introVs, packV, binI, binS, imp, evs, closes, findFn, slsOf, slsAll, argLs, argsLs, pathOf, rdHs1, rdHsL, rdHs, rdsHs, rdOk, lendOk, backL, backs, ownersOf, allRd, soleMt, firstP, callRd, callPt, callOw, callOwn, callRes, idxs, oprs, fillSV, partsOk, convRes, viewE, viewA, pathE, pathA, sliceRes, evO, etaL, storeEl, loadEl, flatL, flatLs, flatB, leafD, leafDs, dataB, ownO, sameO, isStruct, aggOk, leafAt, srcOf, joinB, joinOk, appRes, copyTo, copyRes, builtinRes, loadHy, eqCs, lvsOf, opRes, nilRes, guardOf, csz, ksz, unwd, dstOk, putS, vcK, vwCall, skipR, stepD, vcD, growP, rdCall, convP, rn, entV, entVs, entR, entO, entH, hlts, domH, entA, entL, ent, itVal, hsV, hsVs, itSlots, itBoxes, dropL, hsL, hsA, onlyR, gcH, gcA, itReach, itLay, itSt, mr, mrs, itRho, itOk, introB, introBs, introR, introX, introT, introTs, lkAll, numb, resMs, retOk, mtTy, bxCs, mtSls, mtHs, finFr, finOf, SV.lt, SV.lts, IntKind.min, IntKind.max, IntKind.signed, IntKind.bits, LIM, ty3, T3_sz, T3_pty, T3, ty4, T4_sz, T4_pty, T4, c_l03RuneOK, c_l01In, c_within, c_within]
  rfl

def c_isRune : FSpec := ⟨[(.rd, .int .i64)], [.bool], true, fun _ => True, fun ps => [.bool (isRuneB (nth ps 0).I)], fun _ => []⟩
theorem k_isRune : FnOk Try.prog 168 c_isRune := by
  refine fn_mk [0, 2] [.tmp 2] (env_cons (cs := []) k_within (env_nil (tyTab_ok []))) mixed Try.func168 rfl (by decide) rfl (by decide) rfl ?_
  intro ps hT hpre W hW
  simp only [c_isRune, TyA, Ty, Tys] at hT hpre
  obtain ⟨_, _, rfl, ⟨a, rfl, ha⟩, rfl⟩ := hT
  refine hW.vc [] _ _ ?_
  simp [-List.getD_eq_getElem?_getD, nth_fold, nth_zero, nth_succ, pv_I, pv_B, pv_S, pv_L, pv_A, pv_at, lv_int, lv_bool, lv_str, lv_list, lv_agg, PTy.leaves, PTy.wd, inR, TI.sz, TI.pty, lk, set1, memB, anyB, kill, strike, stillH, unpath, still, prom, proms, dpB, dpAll, ndB, isNil, shOk, takeIn, takeOk, St.slot, ofConst1, ofConsts, ofConst, St.ev, SV.cells, SV.ofCells, SV.leafB, leafAll, fixL, zeroSV, zeroSVs, zeroLf, zeroLfs, zeroPV, resL, resLs, resB, resBs, resT, resTs, resEs, introL, noP, elP, introV, introVs, packV, binI, binS, imp, evs, closes, findFn, slsOf, slsAll, argLs, argsLs, pathOf, rdHs1, rdHsL, rdHs, rdsHs, rdOk, lendOk, backL, backs, ownersOf, allRd, soleMt, firstP, callRd, callPt, callOw, callOwn, callRes, idxs, oprs, fillSV, partsOk, convRes, viewE, viewA, pathE, pathA, sliceRes, evO, etaL, storeEl, loadEl, flatL, flatLs, flatB, leafD, leafDs, dataB, ownO, sameO, isStruct, aggOk, leafAt, srcOf, joinB, joinOk, appRes, copyTo, copyRes, builtinRes, loadHy, eqCs, lvsOf, opRes, nilRes, guardOf, csz, ksz, unwd, dstOk, putS, vcK, vwCall, skipR, stepD, vcD, growP, rdCall, convP, rn, entV, entVs, entR, entO, entH, hlts, domH, entA, entL, ent, itVal, hsV, hsVs, itSlots, itBoxes, dropL, hsL, hsA, onlyR, gcH, gcA, itReach, itLay, itSt, mr, mrs, itRho, itOk, introB, introBs, introR, introX, introT, introTs, lkAll, numb, resMs, retOk, mtTy, bxCs, mtSls, mtHs, finFr, finOf, SV.lt, SV.lts, IntKind.min, IntKind.max, IntKind.signed, IntKind.bits, LIM, ty3, T3_sz, T3_pty, T3, ty4, T4_sz, T4_pty, T4, c_isRune, c_within]
  simp only [isRuneB]; congr 2

def c_l04Cell : FSpec := ⟨[(.rd, .agg [.int .i64, .int .i64])], [.bool], true, fun _ => True, fun ps => [.bool (cellB (nth (nth ps 0).A 0).I (nth (nth ps 0).A 1).I)], fun _ => []⟩
theorem k_l04Cell : FnOk Try.prog 163 c_l04Cell := by
  refine fn_mk [0, 1, 2] [.tmp 2] (env_cons (cs := []) k_l01In (env_cons (cs := []) k_l03RuneOK (env_nil (tyTab_ok [])))) mixed Try.func163 rfl (by decide) rfl (by decide) rfl ?_
  intro ps hT hpre W hW
  simp only [c_l04Cell, TyA, Ty, Tys] at hT hpre
  obtain ⟨_, _, rfl, ⟨_, rfl, _, _, rfl, ⟨a, rfl, ha⟩, _, _, rfl, ⟨b, rfl, hb⟩, rfl⟩, rfl⟩ := hT
  refine hW.vc [] _ _ ?_
  simp [-List.getD_eq_getElem?_getD, nth_fold, nth_zero, nth_succ, pv_I, pv_B, pv_S, pv_L, pv_A, pv_at, lv_int, lv_bool, lv_str, lv_list, lv_agg, PTy.leaves, PTy.wd, inR, TI.sz, TI.pty, lk, set1, memB, anyB, kill, strike, stillH, unpath, still, prom, proms, dpB, dpAll, ndB, isNil, shOk, takeIn, takeOk, St.slot, ofConst1, ofConsts, ofConst, St.ev, SV.cells, SV.ofCells, SV.leafB, leafAll, fixL, zeroSV, zeroSVs, zeroLf, zeroLfs, zeroPV, resL, resLs, resB, resBs, resT, resTs, resEs, introL, noP, elP, introV, introVs, packV, binI, binS, imp, evs, closes, findFn, slsOf, slsAll, argLs, argsLs, pathOf, rdHs1, rdHsL, rdHs, rdsHs, rdOk, lendOk, backL, backs, ownersOf, allRd, soleMt, firstP, callRd, callPt, callOw, callOwn, callRes, idxs, oprs, fillSV, partsOk, convRes, viewE, viewA, pathE, pathA, sliceRes, evO, etaL, storeEl, loadEl, flatL, flatLs, flatB, leafD, leafDs, dataB, ownO, sameO, isStruct, aggOk, leafAt, srcOf, joinB, joinOk, appRes, copyTo, copyRes, builtinRes, loadHy, eqCs, lvsOf, opRes, nilRes, guardOf, csz, ksz, unwd, dstOk, putS, vcK, vwCall, skipR, stepD, vcD, growP, rdCall, convP, rn, entV, entVs, entR, entO, entH, hlts, domH, entA, entL, ent, itVal, hsV, hsVs, itSlots, itBoxes, dropL, hsL, hsA, onlyR, gcH, gcA, itReach, itLay, itSt, mr, mrs, itRho, itOk, introB, introBs, introR, introX, introT, introTs, lkAll, numb, resMs, retOk, mtTy, bxCs, mtSls, mtHs, finFr, finOf, SV.lt, SV.lts, IntKind.min, IntKind.max, IntKind.signed, IntKind.bits, LIM, ty3, T3_sz, T3_pty, T3, ty4, T4_sz, T4_pty, T4, ty178, T178_sz, T178_pty, T178, c_l04Cell, c_l03RuneOK, c_l01In, c_within, c_within]
  simp only [cellB]; congr 2

/-- A row is so many cells of four bytes each. -/
def rowGo : List UInt8 → Bool
  | [] => true
  | a :: b :: c :: d :: l => isRuneB (numB [a, b, c]) && decide (d.toNat ≤ 127) && rowGo l
  | _ => false
def rowB (l : List UInt8) (w : Int) : Bool := decide ((l.length : Int) = 4 * w) && rowGo l

theorem rowGo_step {r : List UInt8} (h : 4 ≤ r.length) : rowGo r = (isRuneB (numB (r.take 3)) && decide ((r.getD 3 0).toNat ≤ 127) && rowGo (r.drop 4)) := by
  match r, h with
  | a :: b :: c :: d :: l, _ => rfl
theorem cell_eq (n : Int) (d : UInt8) : cellB n d.toNat = (isRuneB n && decide (d.toNat ≤ 127)) := by
  rw [Bool.eq_iff_iff]
  simp [cellB, isRuneB, runeOk, inB]
  omega
theorem row_off {l : List UInt8} {n : Nat} (i : Nat) : (l.drop n).getD i 0 = l.getD (n + i) 0 := by
  simp only [List.getD_eq_getElem?_getD, List.getElem?_drop]

def c_isRow : FSpec := ⟨[(.rd, .str), (.rd, .int .i64)], [.bool], true, fun ps => 0 ≤ (nth ps 1).I ∧ (nth ps 1).I ≤ 1000, fun ps => [.bool (rowB (nth ps 0).S (nth ps 1).I)], fun _ => []⟩
theorem k_isRow : FnOk Try.prog 134 c_isRow := by
  refine fn_mk [0, 1, 4] [.tmp 4] (env_cons (cs := []) k_isRune (env_cons (cs := []) k_bigNumber (env_nil (tyTab_ok [])))) mixed Try.func134 rfl (by decide) rfl (by decide) rfl ?_
  intro ps hT hpre W hW
  simp only [c_isRow, TyA, Ty, Tys] at hT hpre
  obtain ⟨_, _, rfl, ⟨l, rfl, hl⟩, _, _, rfl, ⟨w, rfl, hw⟩, rfl⟩ := hT
  simp only [nth_zero, nth_succ, pv_S, pv_I] at hpre
  refine hW.vc [] _ _ ?_
  simp [-List.getD_eq_getElem?_getD, nth_fold, nth_zero, nth_succ, pv_I, pv_B, pv_S, pv_L, pv_A, pv_at, lv_int, lv_bool, lv_str, lv_list, lv_agg, PTy.leaves, PTy.wd, inR, TI.sz, TI.pty, lk, set1, memB, anyB, kill, strike, stillH, unpath, still, prom, proms, dpB, dpAll, ndB, isNil, shOk, takeIn, takeOk, St.slot, ofConst1, ofConsts, ofConst, St.ev, SV.cells, SV.ofCells, SV.leafB, leafAll, fixL, zeroSV, zeroSVs, zeroLf, zeroLfs, zeroPV, resL, resLs, resB, resBs, resT, resTs, resEs, introL, noP, elP, introV, introVs, packV, binI, binS, imp, evs, closes, findFn, slsOf, slsAll, argLs, argsLs, pathOf, rdHs1, rdHsL, rdHs, rdsHs, rdOk, lendOk, backL, backs, ownersOf, allRd, soleMt, firstP, callRd, callPt, callOw, callOwn, callRes, idxs, oprs, fillSV, partsOk, convRes, viewE, viewA, pathE, pathA, sliceRes, evO, etaL, storeEl, loadEl, flatL, flatLs, flatB, leafD, leafDs, dataB, ownO, sameO, isStruct, aggOk, leafAt, srcOf, joinB, joinOk, appRes, copyTo, copyRes, builtinRes, loadHy, eqCs, lvsOf, opRes, nilRes, guardOf, csz, ksz, unwd, dstOk, putS, vcK, vwCall, skipR, stepD, vcD, growP, rdCall, convP, rn, entV, entVs, entR, entO, entH, hlts, domH, entA, entL, ent, itVal, hsV, hsVs, itSlots, itBoxes, dropL, hsL, hsA, onlyR, gcH, gcA, itReach, itLay, itSt, mr, mrs, itRho, itOk, introB, introBs, introR, introX, introT, introTs, lkAll, numb, resMs, retOk, mtTy, bxCs, mtSls, mtHs, finFr, finOf, SV.lt, SV.lts, IntKind.min, IntKind.max, IntKind.signed, IntKind.bits, LIM, ty3, T3_sz, T3_pty, T3, ty4, T4_sz, T4_pty, T4, ty5, T5_sz, T5_pty, T5, ty9, T9_sz, T9_pty, T9, c_isRow, c_bigNumber, c_isRune, c_l02Of]
  intro h1
  rw [wrap64 (by omega)]
  refine ⟨fun h => by simp [rowB, h], fun h => ?_⟩
  refine hW.loopS _ _ _ [.sl 0 .dp .str] (fun ys => ∃ r, ys = [.str r] ∧ (∃ k, r.length = 4 * k) ∧ r.length ≤ l.length ∧ rowB l w = rowGo r) (fun ys => (nth ys 0).S.length) ?_ ?_
  · simp [-List.getD_eq_getElem?_getD, nth_fold, nth_zero, nth_succ, pv_I, pv_B, pv_S, pv_L, pv_A, pv_at, lv_int, lv_bool, lv_str, lv_list, lv_agg, PTy.leaves, PTy.wd, inR, TI.sz, TI.pty, lk, set1, memB, anyB, kill, strike, stillH, unpath, still, prom, proms, dpB, dpAll, ndB, isNil, shOk, takeIn, takeOk, St.slot, ofConst1, ofConsts, ofConst, St.ev, SV.cells, SV.ofCells, SV.leafB, leafAll, fixL, zeroSV, zeroSVs, zeroLf, zeroLfs, zeroPV, resL, resLs, resB, resBs, resT, resTs, resEs, introL, noP, elP, introV, introVs, packV, binI, binS, imp, evs, closes, findFn, slsOf, slsAll, argLs, argsLs, pathOf, rdHs1, rdHsL, rdHs, rdsHs, rdOk, lendOk, backL, backs, ownersOf, allRd, soleMt, firstP, callRd, callPt, callOw, callOwn, callRes, idxs, oprs, fillSV, partsOk, convRes, viewE, viewA, pathE, pathA, sliceRes, evO, etaL, storeEl, loadEl, flatL, flatLs, flatB, leafD, leafDs, dataB, ownO, sameO, isStruct, aggOk, leafAt, srcOf, joinB, joinOk, appRes, copyTo, copyRes, builtinRes, loadHy, eqCs, lvsOf, opRes, nilRes, guardOf, csz, ksz, unwd, dstOk, putS, vcK, vwCall, skipR, stepD, vcD, growP, rdCall, convP, rn, entV, entVs, entR, entO, entH, hlts, domH, entA, entL, ent, itVal, hsV, hsVs, itSlots, itBoxes, dropL, hsL, hsA, onlyR, gcH, gcA, itReach, itLay, itSt, mr, mrs, itRho, itOk, introB, introBs, introR, introX, introT, introTs, lkAll, numb, resMs, retOk, mtTy, bxCs, mtSls, mtHs, finFr, finOf, SV.lt, SV.lts, IntKind.min, IntKind.max, IntKind.signed, IntKind.bits, LIM, ty3, T3_sz, T3_pty, T3, ty4, T4_sz, T4_pty, T4, ty5, T5_sz, T5_pty, T5, ty9, T9_sz, T9_pty, T9, c_isRow, c_bigNumber, c_isRune, c_l02Of]
    exact ⟨⟨w.toNat, by omega⟩, by simp [rowB, h]⟩
  · rintro ys ⟨r, rfl, ⟨k, hk⟩, h2, h3⟩
    refine hW.vc [] _ _ ?_
    simp [-List.getD_eq_getElem?_getD, nth_fold, nth_zero, nth_succ, pv_I, pv_B, pv_S, pv_L, pv_A, pv_at, lv_int, lv_bool, lv_str, lv_list, lv_agg, PTy.leaves, PTy.wd, inR, TI.sz, TI.pty, lk, set1, memB, anyB, kill, strike, stillH, unpath, still, prom, proms, dpB, dpAll, ndB, isNil, shOk, takeIn, takeOk, St.slot, ofConst1, ofConsts, ofConst, St.ev, SV.cells, SV.ofCells, SV.leafB, leafAll, fixL, zeroSV, zeroSVs, zeroLf, zeroLfs, zeroPV, resL, resLs, resB, resBs, resT, resTs, resEs, introL, noP, elP, introV, introVs, packV, binI, binS, imp, evs, closes, findFn, slsOf, slsAll, argLs, argsLs, pathOf, rdHs1, rdHsL, rdHs, rdsHs, rdOk, lendOk, backL, backs, ownersOf, allRd, soleMt, firstP, callRd, callPt, callOw, callOwn, callRes, idxs, oprs, fillSV, partsOk, convRes, viewE, viewA, pathE, pathA, sliceRes, evO, etaL, storeEl, loadEl, flatL, flatLs, flatB, leafD, leafDs, dataB, ownO, sameO, isStruct, aggOk, leafAt, srcOf, joinB, joinOk, appRes, copyTo, copyRes, builtinRes, loadHy, eqCs, lvsOf, opRes, nilRes, guardOf, csz, ksz, unwd, dstOk, putS, vcK, vwCall, skipR, stepD, vcD, growP, rdCall, convP, rn, entV, entVs, entR, entO, entH, hlts, domH, entA, entL, ent, itVal, hsV, hsVs, itSlots, itBoxes, dropL, hsL, hsA, onlyR, gcH, gcA, itReach, itLay, itSt, mr, mrs, itRho, itOk, introB, introBs, introR, introX, introT, introTs, lkAll, numb, resMs, retOk, mtTy, bxCs, mtSls, mtHs, finFr, finOf, SV.lt, SV.lts, IntKind.min, IntKind.max, IntKind.signed, IntKind.bits, LIM, ty3, T3_sz, T3_pty, T3, ty4, T4_sz, T4_pty, T4, ty5, T5_sz, T5_pty, T5, ty9, T9_sz, T9_pty, T9, c_isRow, c_bigNumber, c_isRune, c_l02Of]
    refine ⟨fun h4 => ?_, fun h4 => by rw [h3, h4]; rfl⟩
    have h5 : r.length ≠ 0 := fun e => h4 (List.eq_nil_of_length_eq_zero e)
    have h6 : 4 ≤ r.length := by omega
    rw [rowGo_step h6] at h3
    refine ⟨by omega, by omega, fun h7 => ⟨h7, by omega⟩, fun h7 => ?_, fun h7 h8 => ⟨by omega, ⟨⟨k - 1, by omega⟩, by omega, ?_⟩, by omega⟩⟩
    · rw [h3]
      rcases h7 with h7 | h7
      · simp [h7]
      · have : ¬ (r.getD 3 0).toNat ≤ 127 := by omega
        simp only [this, decide_false, Bool.and_false, Bool.false_and]
    · have : (r.getD 3 0).toNat ≤ 127 := by omega
      rw [h3, h7, List.take_of_length_le (by simp)]
      simp only [this, decide_true, Bool.and_true, Bool.true_and]

def c_l11Row : FSpec := ⟨[(.rd, .int .i64), (.rd, .str)], [.bool], true, fun ps => 0 ≤ (nth ps 0).I ∧ (nth ps 0).I ≤ 1000, fun ps => [.bool (rowB (nth ps 1).S (nth ps 0).I)], fun _ => []⟩
theorem k_l11Row : FnOk Try.prog 127 c_l11Row := by
  refine fn_mk [0, 1, 4, 5] [.tmp 4] (env_cons (cs := []) k_l04Cell (env_cons (cs := []) k_l02Of (env_nil (tyTab_ok [])))) mixed Try.func127 rfl (by decide) rfl (by decide) rfl ?_
  intro ps hT hpre W hW
  simp only [c_l11Row, TyA, Ty, Tys] at hT hpre
  obtain ⟨_, _, rfl, ⟨w, rfl, hw⟩, _, _, rfl, ⟨l, rfl, hl⟩, rfl⟩ := hT
  simp only [nth_zero, nth_succ, pv_S, pv_I] at hpre
  refine hW.vc [(6, [], .take 0 <| .take 1 <| .take 2 <| .take 3 <| .take 4 <| .take 5 <| .take 6 <| .take 8 <| .take 9 <| .take 10 <| .take 11 <| .take 12 <| .take 13 <| .alt 7 (.take 14 <| .alt 15 (.take 16 <| .done) .stop) .stop)] _ _ ?_
  simp [-List.getD_eq_getElem?_getD, nth_fold, nth_zero, nth_succ, pv_I, pv_B, pv_S, pv_L, pv_A, pv_at, lv_int, lv_bool, lv_str, lv_list, lv_agg, PTy.leaves, PTy.wd, inR, TI.sz, TI.pty, lk, set1, memB, anyB, kill, strike, stillH, unpath, still, prom, proms, dpB, dpAll, ndB, isNil, shOk, takeIn, takeOk, St.slot, ofConst1, ofConsts, ofConst, St.ev, SV.cells, SV.ofCells, SV.leafB, leafAll, fixL, zeroSV, zeroSVs, zeroLf, zeroLfs, zeroPV, resL, resLs, resB, resBs, resT, resTs, resEs, introL, noP, elP, introV, introVs, packV, binI, binS, imp, evs, closes, findFn, slsOf, slsAll, argLs, argsLs, pathOf, rdHs1, rdHsL, rdHs, rdsHs, rdOk, lendOk, backL, backs, ownersOf, allRd, soleMt, firstP, callRd, callPt, callOw, callOwn, callRes, idxs, oprs, fillSV, partsOk, convRes, viewE, viewA, pathE, pathA, sliceRes, evO, etaL, storeEl, loadEl, flatL, flatLs, flatB, leafD, leafDs, dataB, ownO, sameO, isStruct, aggOk, leafAt, srcOf, joinB, joinOk, appRes, copyTo, copyRes, builtinRes, loadHy, eqCs, lvsOf, opRes, nilRes, guardOf, csz, ksz, unwd, dstOk, putS, vcK, vwCall, skipR, stepD, vcD, growP, rdCall, convP, rn, entV, entVs, entR, entO, entH, hlts, domH, entA, entL, ent, itVal, hsV, hsVs, itSlots, itBoxes, dropL, hsL, hsA, onlyR, gcH, gcA, itReach, itLay, itSt, mr, mrs, itRho, itOk, introB, introBs, introR, introX, introT, introTs, lkAll, numb, resMs, retOk, mtTy, bxCs, mtSls, mtHs, finFr, finOf, SV.lt, SV.lts, IntKind.min, IntKind.max, IntKind.signed, IntKind.bits, LIM, ty3, T3_sz, T3_pty, T3, ty4, T4_sz, T4_pty, T4, ty5, T5_sz, T5_pty, T5, ty9, T9_sz, T9_pty, T9, ty178, T178_sz, T178_pty, T178, c_l11Row, c_l02Of, c_l04Cell]
  intro h1
  rw [wrap64 (by omega)]
  refine ⟨fun h => by simp [rowB, h], fun h => ?_⟩
  refine hW.loopS _ _ _ [.sl 5 .dp (.int .i64)] (fun ys => ∃ x : Nat, ys = [.int .i64 x] ∧ (x : Int) ≤ w ∧ rowB l w = rowGo (l.drop (4 * x))) (fun ys => (w - (nth ys 0).I).toNat) ?_ ?_
  · simp [-List.getD_eq_getElem?_getD, nth_fold, nth_zero, nth_succ, pv_I, pv_B, pv_S, pv_L, pv_A, pv_at, lv_int, lv_bool, lv_str, lv_list, lv_agg, PTy.leaves, PTy.wd, inR, TI.sz, TI.pty, lk, set1, memB, anyB, kill, strike, stillH, unpath, still, prom, proms, dpB, dpAll, ndB, isNil, shOk, takeIn, takeOk, St.slot, ofConst1, ofConsts, ofConst, St.ev, SV.cells, SV.ofCells, SV.leafB, leafAll, fixL, zeroSV, zeroSVs, zeroLf, zeroLfs, zeroPV, resL, resLs, resB, resBs, resT, resTs, resEs, introL, noP, elP, introV, introVs, packV, binI, binS, imp, evs, closes, findFn, slsOf, slsAll, argLs, argsLs, pathOf, rdHs1, rdHsL, rdHs, rdsHs, rdOk, lendOk, backL, backs, ownersOf, allRd, soleMt, firstP, callRd, callPt, callOw, callOwn, callRes, idxs, oprs, fillSV, partsOk, convRes, viewE, viewA, pathE, pathA, sliceRes, evO, etaL, storeEl, loadEl, flatL, flatLs, flatB, leafD, leafDs, dataB, ownO, sameO, isStruct, aggOk, leafAt, srcOf, joinB, joinOk, appRes, copyTo, copyRes, builtinRes, loadHy, eqCs, lvsOf, opRes, nilRes, guardOf, csz, ksz, unwd, dstOk, putS, vcK, vwCall, skipR, stepD, vcD, growP, rdCall, convP, rn, entV, entVs, entR, entO, entH, hlts, domH, entA, entL, ent, itVal, hsV, hsVs, itSlots, itBoxes, dropL, hsL, hsA, onlyR, gcH, gcA, itReach, itLay, itSt, mr, mrs, itRho, itOk, introB, introBs, introR, introX, introT, introTs, lkAll, numb, resMs, retOk, mtTy, bxCs, mtSls, mtHs, finFr, finOf, SV.lt, SV.lts, IntKind.min, IntKind.max, IntKind.signed, IntKind.bits, LIM, ty3, T3_sz, T3_pty, T3, ty4, T4_sz, T4_pty, T4, ty5, T5_sz, T5_pty, T5, ty9, T9_sz, T9_pty, T9, ty178, T178_sz, T178_pty, T178, c_l11Row, c_l02Of, c_l04Cell]
    exact ⟨0, rfl, by omega, by simp [rowB, h]⟩
  · rintro ys ⟨x, rfl, h2, h3⟩
    refine hW.vc [(6, [], .take 0 <| .take 1 <| .take 2 <| .take 3 <| .take 4 <| .take 5 <| .take 6 <| .take 8 <| .take 9 <| .take 10 <| .take 11 <| .take 12 <| .take 13 <| .alt 7 (.take 14 <| .alt 15 (.take 16 <| .done) .stop) .stop)] _ _ ?_
    simp [-List.getD_eq_getElem?_getD, nth_fold, nth_zero, nth_succ, pv_I, pv_B, pv_S, pv_L, pv_A, pv_at, lv_int, lv_bool, lv_str, lv_list, lv_agg, PTy.leaves, PTy.wd, inR, TI.sz, TI.pty, lk, set1, memB, anyB, kill, strike, stillH, unpath, still, prom, proms, dpB, dpAll, ndB, isNil, shOk, takeIn, takeOk, St.slot, ofConst1, ofConsts, ofConst, St.ev, SV.cells, SV.ofCells, SV.leafB, leafAll, fixL, zeroSV, zeroSVs, zeroLf, zeroLfs, zeroPV, resL, resLs, resB, resBs, resT, resTs, resEs, introL, noP, elP, introV, introVs, packV, binI, binS, imp, evs, closes, findFn, slsOf, slsAll, argLs, argsLs, pathOf, rdHs1, rdHsL, rdHs, rdsHs, rdOk, lendOk, backL, backs, ownersOf, allRd, soleMt, firstP, callRd, callPt, callOw, callOwn, callRes, idxs, oprs, fillSV, partsOk, convRes, viewE, viewA, pathE, pathA, sliceRes, evO, etaL, storeEl, loadEl, flatL, flatLs, flatB, leafD, leafDs, dataB, ownO, sameO, isStruct, aggOk, leafAt, srcOf, joinB, joinOk, appRes, copyTo, copyRes, builtinRes, loadHy, eqCs, lvsOf, opRes, nilRes, guardOf, csz, ksz, unwd, dstOk, putS, vcK, vwCall, skipR, stepD, vcD, growP, rdCall, convP, rn, entV, entVs, entR, entO, entH, hlts, domH, entA, entL, ent, itVal, hsV, hsVs, itSlots, itBoxes, dropL, hsL, hsA, onlyR, gcH, gcA, itReach, itLay, itSt, mr, mrs, itRho, itOk, introB, introBs, introR, introX, introT, introTs, lkAll, numb, resMs, retOk, mtTy, bxCs, mtSls, mtHs, finFr, finOf, SV.lt, SV.lts, IntKind.min, IntKind.max, IntKind.signed, IntKind.bits, LIM, ty3, T3_sz, T3_pty, T3, ty4, T4_sz, T4_pty, T4, ty5, T5_sz, T5_pty, T5, ty9, T9_sz, T9_pty, T9, ty178, T178_sz, T178_pty, T178, c_l11Row, c_l02Of, c_l04Cell]
    refine ⟨fun h4 => ⟨by decide +kernel, ?_⟩, fun h4 => ?_⟩
    · rw [wrap64 (n := 4 * (x : Int)) (by omega), wrap64 (n := 4 * (x : Int) + 3) (by omega), conv_byte, cell_eq]
      have e1 : (4 * (x : Int)).toNat = 4 * x := by omega
      have e2 : (4 * (x : Int) + 3).toNat = 4 * x + 3 := by omega
      have e3 : 4 * x + 3 - 4 * x = 3 := by omega
      rw [e1, e2, e3]
      have h5 : 4 ≤ (l.drop (4 * x)).length := by simp; omega
      rw [rowGo_step h5, row_off, List.drop_drop] at h3
      rw [wrap64 (by omega)]
      refine ⟨⟨by omega, by omega, by omega⟩, ⟨by omega, by omega⟩, by omega, fun h6 => by rw [h3, h6]; rfl, fun h6 => ⟨⟨x + 1, by omega, by omega, ?_⟩, by omega⟩⟩
      rw [h3, h6, Bool.true_and, Nat.mul_add]
    · rw [h3, List.drop_eq_nil_of_le (by omega)]; rfl

end Go.Proofs.Ytmjjdfhpnckacab
