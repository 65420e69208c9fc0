/-
  The contracts of the functions that mark what a slice holds, and that look whether the marks are still there.
  Conditions: none.
-/
import Derived.Test.YtmjjdfhpnckacabFb
namespace Go.Proofs.Ytmjjdfhpnckacab
set_option maxRecDepth 100000
set_option linter.unusedSimpArgs false

theorem wrapU8 {n : Int} (h : 0 ≤ n ∧ n ≤ 255) : IntKind.u8.wrap n = n := by
  simp [IntKind.wrap, IntKind.signed, IntKind.bits]; omega

def digs (n : Nat) : List UInt8 := if h : n = 0 then [] else digs (n / 10) ++ [UInt8.ofNat (48 + n % 10)]
termination_by n
decreasing_by omega
def mtext (k : Int) : List UInt8 := if k ≤ 0 then [109, 48] else 109 :: digs k.toNat

def c_markText : FSpec := ⟨[(.rd, .int .i64)], [.str], true, fun ps => (nth ps 0).I ≤ 1073741824, fun ps => [.str (mtext (nth ps 0).I)], fun _ => []⟩
theorem k_markText : FnOk Try.prog 97 c_markText := by
  refine fn_mk [0, 2, 3] [.tmp 2] (env_nil (tyTab_ok [])) mixed Try.func97 rfl (by decide) rfl (by decide) rfl ?_
  intro ps hT hpre W hW
  simp only [c_markText, TyA, Ty, Tys] at hT hpre
  obtain ⟨_, _, rfl, ⟨k, rfl, hk⟩, rfl⟩ := hT
  simp only [nth_zero, pv_I] at hpre
  rw [inR64] at hk
  refine hW.vc [] _ _ ?_
  simp [-List.getD_eq_getElem?_getD, nth_fold, nth_zero, nth_succ, pv_I, pv_B, pv_S, pv_L, pv_A, pv_at, lv_int, lv_bool, lv_str, lv_list, lv_agg, PTy.leaves, PTy.wd, inR, TI.sz, TI.pty, lk, set1, memB, anyB, kill, strike, stillH, unpath, still, prom, proms, dpB, dpAll, ndB, isNil, shOk, takeIn, takeOk, St.slot, ofConst1, ofConsts, ofConst, St.ev, SV.cells, SV.ofCells, SV.leafB, leafAll, fixL, zeroSV, zeroSVs, zeroLf, zeroLfs, zeroPV, resL, resLs, resB, resBs, resT, resTs, resEs, introL, noP, elP, introV, introVs, packV, binI, binS, imp, evs, closes, findFn, slsOf, slsAll, argLs, argsLs, pathOf, rdHs1, rdHsL, rdHs, rdsHs, rdOk, lendOk, backL, backs, ownersOf, allRd, soleMt, firstP, callRd, callPt, callOw, callOwn, callRes, idxs, oprs, fillSV, partsOk, convRes, viewE, viewA, pathE, pathA, sliceRes, evO, etaL, storeEl, loadEl, flatL, flatLs, flatB, leafD, leafDs, dataB, ownO, sameO, isStruct, aggOk, leafAt, srcOf, joinB, joinOk, appRes, copyTo, copyRes, builtinRes, loadHy, eqCs, lvsOf, opRes, nilRes, guardOf, csz, ksz, unwd, dstOk, putS, vcK, vwCall, skipR, stepD, vcD, growP, rdCall, convP, rn, entV, entVs, entR, entO, entH, hlts, domH, entA, entL, ent, itVal, hsV, hsVs, itSlots, itBoxes, dropL, hsL, hsA, onlyR, gcH, gcA, itReach, itLay, itSt, mr, mrs, itRho, itOk, introB, introBs, introR, introX, introT, introTs, lkAll, numb, resMs, retOk, mtTy, bxCs, mtSls, mtHs, finFr, finOf, SV.lt, SV.lts, IntKind.min, IntKind.max, IntKind.signed, IntKind.bits, LIM, ty3, T3_sz, T3_pty, T3, ty4, T4_sz, T4_pty, T4, ty5, T5_sz, T5_pty, T5, ty9, T9_sz, T9_pty, T9, ty22, T22_sz, T22_pty, T22, c_markText]
  refine ⟨fun h => by rw [mtext, if_pos h], fun h => hW.loopS _ _ _ [.sl 3 .dp .str, .sl 0 .dp (.int .i64)] (fun ys => ∃ (out : List UInt8) (x : Int), ys = [.str out, .int .i64 x] ∧ 0 ≤ x ∧ x ≤ k ∧ out.length + x ≤ k ∧ digs k.toNat = digs x.toNat ++ out) (fun ys => (nth ys 1).I.toNat) ?_ ?_⟩
  · simp [-List.getD_eq_getElem?_getD, nth_fold, nth_zero, nth_succ, pv_I, pv_B, pv_S, pv_L, pv_A, pv_at, lv_int, lv_bool, lv_str, lv_list, lv_agg, PTy.leaves, PTy.wd, inR, TI.sz, TI.pty, lk, set1, memB, anyB, kill, strike, stillH, unpath, still, prom, proms, dpB, dpAll, ndB, isNil, shOk, takeIn, takeOk, St.slot, ofConst1, ofConsts, ofConst, St.ev, SV.cells, SV.ofCells, SV.leafB, leafAll, fixL, zeroSV, zeroSVs, zeroLf, zeroLfs, zeroPV, resL, resLs, resB, resBs, resT, resTs, resEs, introL, noP, elP, introV, introVs, packV, binI, binS, imp, evs, closes, findFn, slsOf, slsAll, argLs, argsLs, pathOf, rdHs1, rdHsL, rdHs, rdsHs, rdOk, lendOk, backL, backs, ownersOf, allRd, soleMt, firstP, callRd, callPt, callOw, callOwn, callRes, idxs, oprs, fillSV, partsOk, convRes, viewE, viewA, pathE, pathA, sliceRes, evO, etaL, storeEl, loadEl, flatL, flatLs, flatB, leafD, leafDs, dataB, ownO, sameO, isStruct, aggOk, leafAt, srcOf, joinB, joinOk, appRes, copyTo, copyRes, builtinRes, loadHy, eqCs, lvsOf, opRes, nilRes, guardOf, csz, ksz, unwd, dstOk, putS, vcK, vwCall, skipR, stepD, vcD, growP, rdCall, convP, rn, entV, entVs, entR, entO, entH, hlts, domH, entA, entL, ent, itVal, hsV, hsVs, itSlots, itBoxes, dropL, hsL, hsA, onlyR, gcH, gcA, itReach, itLay, itSt, mr, mrs, itRho, itOk, introB, introBs, introR, introX, introT, introTs, lkAll, numb, resMs, retOk, mtTy, bxCs, mtSls, mtHs, finFr, finOf, SV.lt, SV.lts, IntKind.min, IntKind.max, IntKind.signed, IntKind.bits, LIM, ty3, T3_sz, T3_pty, T3, ty4, T4_sz, T4_pty, T4, ty5, T5_sz, T5_pty, T5, ty9, T9_sz, T9_pty, T9, ty22, T22_sz, T22_pty, T22, c_markText]
    exact ⟨_, _, ⟨rfl, rfl⟩, by omega, by omega, by simp, by simp⟩
  · rintro ys ⟨out, x, rfl, h2, h3, h4, h5⟩
    refine hW.vc [] _ _ ?_
    simp [-List.getD_eq_getElem?_getD, nth_fold, nth_zero, nth_succ, pv_I, pv_B, pv_S, pv_L, pv_A, pv_at, lv_int, lv_bool, lv_str, lv_list, lv_agg, PTy.leaves, PTy.wd, inR, TI.sz, TI.pty, lk, set1, memB, anyB, kill, strike, stillH, unpath, still, prom, proms, dpB, dpAll, ndB, isNil, shOk, takeIn, takeOk, St.slot, ofConst1, ofConsts, ofConst, St.ev, SV.cells, SV.ofCells, SV.leafB, leafAll, fixL, zeroSV, zeroSVs, zeroLf, zeroLfs, zeroPV, resL, resLs, resB, resBs, resT, resTs, resEs, introL, noP, elP, introV, introVs, packV, binI, binS, imp, evs, closes, findFn, slsOf, slsAll, argLs, argsLs, pathOf, rdHs1, rdHsL, rdHs, rdsHs, rdOk, lendOk, backL, backs, ownersOf, allRd, soleMt, firstP, callRd, callPt, callOw, callOwn, callRes, idxs, oprs, fillSV, partsOk, convRes, viewE, viewA, pathE, pathA, sliceRes, evO, etaL, storeEl, loadEl, flatL, flatLs, flatB, leafD, leafDs, dataB, ownO, sameO, isStruct, aggOk, leafAt, srcOf, joinB, joinOk, appRes, copyTo, copyRes, builtinRes, loadHy, eqCs, lvsOf, opRes, nilRes, guardOf, csz, ksz, unwd, dstOk, putS, vcK, vwCall, skipR, stepD, vcD, growP, rdCall, convP, rn, entV, entVs, entR, entO, entH, hlts, domH, entA, entL, ent, itVal, hsV, hsVs, itSlots, itBoxes, dropL, hsL, hsA, onlyR, gcH, gcA, itReach, itLay, itSt, mr, mrs, itRho, itOk, introB, introBs, introR, introX, introT, introTs, lkAll, numb, resMs, retOk, mtTy, bxCs, mtSls, mtHs, finFr, finOf, SV.lt, SV.lts, IntKind.min, IntKind.max, IntKind.signed, IntKind.bits, LIM, ty3, T3_sz, T3_pty, T3, ty4, T4_sz, T4_pty, T4, ty5, T5_sz, T5_pty, T5, ty9, T9_sz, T9_pty, T9, ty22, T22_sz, T22_pty, T22, c_markText, pvBytes]
    obtain ⟨m, rfl⟩ := Int.eq_ofNat_of_zero_le h2
    have e1 : ((m : Int)).tmod 10 = ((m % 10 : Nat) : Int) := rfl
    have e2 : ((m : Int)).tdiv 10 = ((m / 10 : Nat) : Int) := rfl
    rw [e1, e2, wrap64 (n := 48 + ((m % 10 : Nat) : Int)) (by omega), wrap64 (n := ((m / 10 : Nat) : Int)) (by omega), wrapU8 (by omega)]
    refine ⟨fun h6 => ⟨by omega, ⟨_, _, ⟨rfl, rfl⟩, by omega, by omega, by simp only [List.length_cons]; omega, ?_⟩, by omega⟩, fun h6 => ⟨by omega, ?_⟩⟩
    · have h7 : m ≠ 0 := by omega
      have e3 : (48 + ((m % 10 : Nat) : Int)).toNat = 48 + m % 10 := by omega
      rw [h5, e3, Int.toNat_natCast, Int.toNat_natCast, digs, dif_neg h7, List.append_assoc]; rfl
    · have h7 : m = 0 := by omega
      subst h7
      rw [mtext, if_neg (by omega), h5]
      simp [digs]

def markS (k : Int) : Nat → List PV
  | 0 => []
  | n + 1 => .str (mtext k) :: markS (k + 1) n
theorem markS_len : ∀ (n : Nat) (k : Int), (markS k n).length = n
  | 0, _ => rfl
  | n + 1, k => by simp [markS, markS_len n]
theorem markS_snoc : ∀ (n : Nat) (k : Int), markS k (n + 1) = markS k n ++ [.str (mtext (k + n))]
  | 0, k => by simp [markS]
  | n + 1, k => by
    rw [markS, markS_snoc n (k + 1), markS, List.cons_append]
    simp only [List.cons.injEq, true_and, List.append_cancel_left_eq, and_true, PV.str.injEq]
    congr 1; omega

theorem nth_set {l : List PV} {i : Nat} {x : PV} (h : i < l.length) : nth (l.set i x) i = x := by simp [nth, h]
theorem mark_step {m es : List PV} {i : Nat} {x : PV} {m' : List PV} (h1 : m.length = i) (h2 : i < es.length) (h3 : m' = m ++ [x]) : (m ++ es.drop i).set i x = m' ++ es.drop (i + 1) := by
  subst h3
  rw [List.set_append_right _ _ (by omega), h1, Nat.sub_self, drop_nth h2, List.set_cons_zero, List.append_assoc, List.singleton_append]

def c_markStringS : FSpec := ⟨[(.mt, .list .str), (.rd, .int .i64)], [.int .i64], true, fun ps => 0 ≤ (nth ps 1).I ∧ (nth ps 1).I + (nth ps 0).L.length ≤ 1073741824, fun ps => [.int .i64 ((nth ps 1).I + (nth ps 0).L.length)], fun ps => [.list (markS (nth ps 1).I (nth ps 0).L.length)]⟩
def heldGo (f : Int → PV → Bool) (d : Int) (k : Int) : List PV → Int
  | [] => k
  | e :: es => if f k e then heldGo f d (k + d) es else -1
theorem held_neg {f : Int → PV → Bool} {d : Int} (hd : 0 ≤ d) : ∀ {es : List PV} {k : Int}, 0 ≤ k → heldGo f d k es < 0 → heldGo f d k es = -1
  | [], k, hk, h => by simp only [heldGo] at h; omega
  | e :: es, k, hk, h => by
    simp only [heldGo] at h ⊢
    split
    · rename_i h1
      rw [if_pos h1] at h
      exact held_neg hd (by omega) h
    · rfl
def heldS1 (k : Int) (e : PV) : Bool := e.S == mtext k
theorem held_marked {f : Int → PV → Bool} {d : Int} {m : Int → Nat → List PV} (h0 : ∀ k, m k 0 = []) (h1 : ∀ k n, ∃ x, m k (n + 1) = x :: m (k + d) n ∧ f k x = true) : ∀ (n : Nat) (k : Int), heldGo f d k (m k n) = k + d * n
  | 0, k => by simp [h0, heldGo]
  | n + 1, k => by
    obtain ⟨x, h2, h3⟩ := h1 k n
    rw [h2, heldGo, if_pos h3, held_marked h0 h1 n, Int.natCast_add, Int.mul_add]; omega
theorem heldS_mark (n : Nat) (k : Int) : heldGo heldS1 1 k (markS k n) = k + n := by
  rw [held_marked (m := markS) (fun _ => rfl) (fun k n => ⟨_, rfl, by simp [heldS1, pv_S]⟩), Int.one_mul]

def c_heldStringS : FSpec := ⟨[(.rd, .list .str), (.rd, .int .i64)], [.int .i64], true, fun ps => 0 ≤ (nth ps 1).I ∧ (nth ps 1).I + (nth ps 0).L.length ≤ 1073741824, fun ps => [.int .i64 (heldGo heldS1 1 (nth ps 1).I (nth ps 0).L)], fun _ => []⟩
/-- Rows marked. -/
def markR (k : Int) : Nat → List PV
  | 0 => []
  | n + 1 => .agg [.int .i64 k, .str (mtext (k + 1))] :: markR (k + 2) n
theorem markR_len : ∀ (n : Nat) (k : Int), (markR k n).length = n
  | 0, _ => rfl
  | n + 1, k => by simp [markR, markR_len n]
theorem markR_snoc : ∀ (n : Nat) (k : Int), markR k (n + 1) = markR k n ++ [.agg [.int .i64 (k + 2 * n), .str (mtext (k + 2 * n + 1))]]
  | 0, k => by simp [markR]
  | n + 1, k => by
    rw [markR, markR_snoc n (k + 2), markR, List.cons_append]
    have e : k + 2 + 2 * (n : Int) = k + 2 * ((n + 1 : Nat) : Int) := by omega
    rw [e]
def c_markRowS : FSpec := ⟨[(.mt, .list (.agg [.int .i64, .str])), (.rd, .int .i64)], [.int .i64], true, fun ps => 0 ≤ (nth ps 1).I ∧ (nth ps 1).I + 2 * (nth ps 0).L.length ≤ 1073741823, fun ps => [.int .i64 ((nth ps 1).I + 2 * (nth ps 0).L.length)], fun ps => [.list (markR (nth ps 1).I (nth ps 0).L.length)]⟩
theorem k_markRowS : FnOk Try.prog 51 c_markRowS := by
  refine fn_mk [0, 1, 4, 5] [.tmp 4] (env_cons (cs := []) k_markText (env_nil (tyTab_ok []))) mixed Try.func51 rfl (by decide) rfl (by decide) rfl ?_
  intro ps hT hpre W hW
  simp only [c_markRowS, TyA, Ty, Tys] at hT hpre
  obtain ⟨_, _, rfl, ⟨es, rfl, hes, tes⟩, _, _, rfl, ⟨k, rfl, hk⟩, rfl⟩ := hT
  simp only [nth_zero, nth_succ, pv_I, pv_L] at hpre
  refine hW.vc [] _ _ ?_
  simp [-List.getD_eq_getElem?_getD, nth_fold, nth_zero, nth_succ, pv_I, pv_B, pv_S, pv_L, pv_A, pv_at, lv_int, lv_bool, lv_str, lv_list, lv_agg, PTy.leaves, PTy.wd, inR, TI.sz, TI.pty, lk, set1, memB, anyB, kill, strike, stillH, unpath, still, prom, proms, dpB, dpAll, ndB, isNil, shOk, takeIn, takeOk, St.slot, ofConst1, ofConsts, ofConst, St.ev, SV.cells, SV.ofCells, SV.leafB, leafAll, fixL, zeroSV, zeroSVs, zeroLf, zeroLfs, zeroPV, resL, resLs, resB, resBs, resT, resTs, resEs, introL, noP, elP, introV, introVs, packV, binI, binS, imp, evs, closes, findFn, slsOf, slsAll, argLs, argsLs, pathOf, rdHs1, rdHsL, rdHs, rdsHs, rdOk, lendOk, backL, backs, ownersOf, allRd, soleMt, firstP, callRd, callPt, callOw, callOwn, callRes, idxs, oprs, fillSV, partsOk, convRes, viewE, viewA, pathE, pathA, sliceRes, evO, etaL, storeEl, loadEl, flatL, flatLs, flatB, leafD, leafDs, dataB, ownO, sameO, isStruct, aggOk, leafAt, srcOf, joinB, joinOk, appRes, copyTo, copyRes, builtinRes, loadHy, eqCs, lvsOf, opRes, nilRes, guardOf, csz, ksz, unwd, dstOk, putS, vcK, vwCall, skipR, stepD, vcD, growP, rdCall, convP, rn, entV, entVs, entR, entO, entH, hlts, domH, entA, entL, ent, itVal, hsV, hsVs, itSlots, itBoxes, dropL, hsL, hsA, onlyR, gcH, gcA, itReach, itLay, itSt, mr, mrs, itRho, itOk, introB, introBs, introR, introX, introT, introTs, lkAll, numb, resMs, retOk, mtTy, bxCs, mtSls, mtHs, finFr, finOf, SV.lt, SV.lts, IntKind.min, IntKind.max, IntKind.signed, IntKind.bits, LIM, ty3, T3_sz, T3_pty, T3, ty4, T4_sz, T4_pty, T4, ty9, T9_sz, T9_pty, T9, ty23, T23_sz, T23_pty, T23, ty105, T105_sz, T105_pty, T105, c_markRowS, c_markText]
  refine hW.loopS _ _ _ [.ar 0 (.agg [.int .i64, .str]), .sl 1 .dp (.int .i64), .sl 5 .dp (.int .i64)] (fun ys => ∃ i : Nat, ys = [.list (markR k i ++ es.drop i), .int .i64 (k + 2 * i), .int .i64 i] ∧ i ≤ es.length) (fun ys => es.length - (nth ys 2).I.toNat) ?_ ?_
  · simp [-List.getD_eq_getElem?_getD, nth_fold, nth_zero, nth_succ, pv_I, pv_B, pv_S, pv_L, pv_A, pv_at, lv_int, lv_bool, lv_str, lv_list, lv_agg, PTy.leaves, PTy.wd, inR, TI.sz, TI.pty, lk, set1, memB, anyB, kill, strike, stillH, unpath, still, prom, proms, dpB, dpAll, ndB, isNil, shOk, takeIn, takeOk, St.slot, ofConst1, ofConsts, ofConst, St.ev, SV.cells, SV.ofCells, SV.leafB, leafAll, fixL, zeroSV, zeroSVs, zeroLf, zeroLfs, zeroPV, resL, resLs, resB, resBs, resT, resTs, resEs, introL, noP, elP, introV, introVs, packV, binI, binS, imp, evs, closes, findFn, slsOf, slsAll, argLs, argsLs, pathOf, rdHs1, rdHsL, rdHs, rdsHs, rdOk, lendOk, backL, backs, ownersOf, allRd, soleMt, firstP, callRd, callPt, callOw, callOwn, callRes, idxs, oprs, fillSV, partsOk, convRes, viewE, viewA, pathE, pathA, sliceRes, evO, etaL, storeEl, loadEl, flatL, flatLs, flatB, leafD, leafDs, dataB, ownO, sameO, isStruct, aggOk, leafAt, srcOf, joinB, joinOk, appRes, copyTo, copyRes, builtinRes, loadHy, eqCs, lvsOf, opRes, nilRes, guardOf, csz, ksz, unwd, dstOk, putS, vcK, vwCall, skipR, stepD, vcD, growP, rdCall, convP, rn, entV, entVs, entR, entO, entH, hlts, domH, entA, entL, ent, itVal, hsV, hsVs, itSlots, itBoxes, dropL, hsL, hsA, onlyR, gcH, gcA, itReach, itLay, itSt, mr, mrs, itRho, itOk, introB, introBs, introR, introX, introT, introTs, lkAll, numb, resMs, retOk, mtTy, bxCs, mtSls, mtHs, finFr, finOf, SV.lt, SV.lts, IntKind.min, IntKind.max, IntKind.signed, IntKind.bits, LIM, ty3, T3_sz, T3_pty, T3, ty4, T4_sz, T4_pty, T4, ty9, T9_sz, T9_pty, T9, ty23, T23_sz, T23_pty, T23, ty105, T105_sz, T105_pty, T105, c_markRowS, c_markText]
    exact ⟨0, ⟨by simp [markR], by omega, rfl⟩, by omega⟩
  · rintro ys ⟨i, rfl, h2⟩
    refine hW.vc [] _ _ ?_
    simp [-List.getD_eq_getElem?_getD, nth_fold, nth_zero, nth_succ, pv_I, pv_B, pv_S, pv_L, pv_A, pv_at, lv_int, lv_bool, lv_str, lv_list, lv_agg, PTy.leaves, PTy.wd, inR, TI.sz, TI.pty, lk, set1, memB, anyB, kill, strike, stillH, unpath, still, prom, proms, dpB, dpAll, ndB, isNil, shOk, takeIn, takeOk, St.slot, ofConst1, ofConsts, ofConst, St.ev, SV.cells, SV.ofCells, SV.leafB, leafAll, fixL, zeroSV, zeroSVs, zeroLf, zeroLfs, zeroPV, resL, resLs, resB, resBs, resT, resTs, resEs, introL, noP, elP, introV, introVs, packV, binI, binS, imp, evs, closes, findFn, slsOf, slsAll, argLs, argsLs, pathOf, rdHs1, rdHsL, rdHs, rdsHs, rdOk, lendOk, backL, backs, ownersOf, allRd, soleMt, firstP, callRd, callPt, callOw, callOwn, callRes, idxs, oprs, fillSV, partsOk, convRes, viewE, viewA, pathE, pathA, sliceRes, evO, etaL, storeEl, loadEl, flatL, flatLs, flatB, leafD, leafDs, dataB, ownO, sameO, isStruct, aggOk, leafAt, srcOf, joinB, joinOk, appRes, copyTo, copyRes, builtinRes, loadHy, eqCs, lvsOf, opRes, nilRes, guardOf, csz, ksz, unwd, dstOk, putS, vcK, vwCall, skipR, stepD, vcD, growP, rdCall, convP, rn, entV, entVs, entR, entO, entH, hlts, domH, entA, entL, ent, itVal, hsV, hsVs, itSlots, itBoxes, dropL, hsL, hsA, onlyR, gcH, gcA, itReach, itLay, itSt, mr, mrs, itRho, itOk, introB, introBs, introR, introX, introT, introTs, lkAll, numb, resMs, retOk, mtTy, bxCs, mtSls, mtHs, finFr, finOf, SV.lt, SV.lts, IntKind.min, IntKind.max, IntKind.signed, IntKind.bits, LIM, ty3, T3_sz, T3_pty, T3, ty4, T4_sz, T4_pty, T4, ty9, T9_sz, T9_pty, T9, ty23, T23_sz, T23_pty, T23, ty105, T105_sz, T105_pty, T105, c_markRowS, c_markText]
    rw [markR_len]
    have e1 : IntKind.i64.wrap (k + 2 * (i : Int) + 1) = k + 2 * i + 1 := wrap64 (by omega)
    rw [e1, wrap64 (n := k + 2 * (i : Int) + 1 + 1) (by omega), wrap64 (n := (i : Int) + 1) (by omega)]
    refine fun _ => ⟨fun h3 => ⟨by omega, by omega, by omega, by omega, by omega, ⟨i + 1, ⟨?_, by omega, by omega⟩, by omega⟩, by omega⟩, fun h3 => ?_⟩
    · rw [nth_set (by rw [List.length_append, markR_len, List.length_drop]; omega), pv_A, nth_zero]
      exact mark_step (markR_len i k) (by omega) (markR_snoc i k)
    · have : i = es.length := by omega
      subst this
      simp

def heldR1 (k : Int) (e : PV) : Bool := (nth e.A 0).I == k && (nth e.A 1).S == mtext (k + 1)
theorem heldR_mark (n : Nat) (k : Int) : heldGo heldR1 2 k (markR k n) = k + 2 * n := by
  rw [held_marked (m := markR) (fun _ => rfl) (fun k n => ⟨_, rfl, by simp [heldR1, pv_S, pv_I, pv_A, nth_zero, nth_succ]⟩)]

def c_heldRowS : FSpec := ⟨[(.rd, .list (.agg [.int .i64, .str])), (.rd, .int .i64)], [.int .i64], true, fun ps => 0 ≤ (nth ps 1).I ∧ (nth ps 1).I + 2 * (nth ps 0).L.length ≤ 1073741823, fun ps => [.int .i64 (heldGo heldR1 2 (nth ps 1).I (nth ps 0).L)], fun _ => []⟩
theorem k_heldRowS : FnOk Try.prog 52 c_heldRowS := by
  refine fn_mk [0, 1, 4, 5] [.tmp 4] (env_cons (cs := []) k_markText (env_nil (tyTab_ok []))) mixed Try.func52 rfl (by decide) rfl (by decide) rfl ?_
  intro ps hT hpre W hW
  simp only [c_heldRowS, TyA, Ty, Tys] at hT hpre
  obtain ⟨_, _, rfl, ⟨es, rfl, hes, tes⟩, _, _, rfl, ⟨k, rfl, hk⟩, rfl⟩ := hT
  simp only [nth_zero, nth_succ, pv_I, pv_L] at hpre
  refine hW.vc [(7, [], .take 0 <| .take 1 <| .take 2 <| .take 3 <| .take 4 <| .take 5 <| .alt 6 (.take 7 <| .done) .stop)] _ _ ?_
  simp [-List.getD_eq_getElem?_getD, nth_fold, nth_zero, nth_succ, pv_I, pv_B, pv_S, pv_L, pv_A, pv_at, lv_int, lv_bool, lv_str, lv_list, lv_agg, PTy.leaves, PTy.wd, inR, TI.sz, TI.pty, lk, set1, memB, anyB, kill, strike, stillH, unpath, still, prom, proms, dpB, dpAll, ndB, isNil, shOk, takeIn, takeOk, St.slot, ofConst1, ofConsts, ofConst, St.ev, SV.cells, SV.ofCells, SV.leafB, leafAll, fixL, zeroSV, zeroSVs, zeroLf, zeroLfs, zeroPV, resL, resLs, resB, resBs, resT, resTs, resEs, introL, noP, elP, introV, introVs, packV, binI, binS, imp, evs, closes, findFn, slsOf, slsAll, argLs, argsLs, pathOf, rdHs1, rdHsL, rdHs, rdsHs, rdOk, lendOk, backL, backs, ownersOf, allRd, soleMt, firstP, callRd, callPt, callOw, callOwn, callRes, idxs, oprs, fillSV, partsOk, convRes, viewE, viewA, pathE, pathA, sliceRes, evO, etaL, storeEl, loadEl, flatL, flatLs, flatB, leafD, leafDs, dataB, ownO, sameO, isStruct, aggOk, leafAt, srcOf, joinB, joinOk, appRes, copyTo, copyRes, builtinRes, loadHy, eqCs, lvsOf, opRes, nilRes, guardOf, csz, ksz, unwd, dstOk, putS, vcK, vwCall, skipR, stepD, vcD, growP, rdCall, convP, rn, entV, entVs, entR, entO, entH, hlts, domH, entA, entL, ent, itVal, hsV, hsVs, itSlots, itBoxes, dropL, hsL, hsA, onlyR, gcH, gcA, itReach, itLay, itSt, mr, mrs, itRho, itOk, introB, introBs, introR, introX, introT, introTs, lkAll, numb, resMs, retOk, mtTy, bxCs, mtSls, mtHs, finFr, finOf, SV.lt, SV.lts, IntKind.min, IntKind.max, IntKind.signed, IntKind.bits, LIM, ty3, T3_sz, T3_pty, T3, ty4, T4_sz, T4_pty, T4, ty9, T9_sz, T9_pty, T9, ty23, T23_sz, T23_pty, T23, ty105, T105_sz, T105_pty, T105, c_heldRowS, c_markText]
  refine hW.loopS _ _ _ [.sl 1 .dp (.int .i64), .sl 5 .dp (.int .i64)] (fun ys => ∃ i : Nat, ys = [.int .i64 (k + 2 * i), .int .i64 i] ∧ i ≤ es.length ∧ heldGo heldR1 2 k es = heldGo heldR1 2 (k + 2 * i) (es.drop i)) (fun ys => es.length - (nth ys 1).I.toNat) ?_ ?_
  · simp [-List.getD_eq_getElem?_getD, nth_fold, nth_zero, nth_succ, pv_I, pv_B, pv_S, pv_L, pv_A, pv_at, lv_int, lv_bool, lv_str, lv_list, lv_agg, PTy.leaves, PTy.wd, inR, TI.sz, TI.pty, lk, set1, memB, anyB, kill, strike, stillH, unpath, still, prom, proms, dpB, dpAll, ndB, isNil, shOk, takeIn, takeOk, St.slot, ofConst1, ofConsts, ofConst, St.ev, SV.cells, SV.ofCells, SV.leafB, leafAll, fixL, zeroSV, zeroSVs, zeroLf, zeroLfs, zeroPV, resL, resLs, resB, resBs, resT, resTs, resEs, introL, noP, elP, introV, introVs, packV, binI, binS, imp, evs, closes, findFn, slsOf, slsAll, argLs, argsLs, pathOf, rdHs1, rdHsL, rdHs, rdsHs, rdOk, lendOk, backL, backs, ownersOf, allRd, soleMt, firstP, callRd, callPt, callOw, callOwn, callRes, idxs, oprs, fillSV, partsOk, convRes, viewE, viewA, pathE, pathA, sliceRes, evO, etaL, storeEl, loadEl, flatL, flatLs, flatB, leafD, leafDs, dataB, ownO, sameO, isStruct, aggOk, leafAt, srcOf, joinB, joinOk, appRes, copyTo, copyRes, builtinRes, loadHy, eqCs, lvsOf, opRes, nilRes, guardOf, csz, ksz, unwd, dstOk, putS, vcK, vwCall, skipR, stepD, vcD, growP, rdCall, convP, rn, entV, entVs, entR, entO, entH, hlts, domH, entA, entL, ent, itVal, hsV, hsVs, itSlots, itBoxes, dropL, hsL, hsA, onlyR, gcH, gcA, itReach, itLay, itSt, mr, mrs, itRho, itOk, introB, introBs, introR, introX, introT, introTs, lkAll, numb, resMs, retOk, mtTy, bxCs, mtSls, mtHs, finFr, finOf, SV.lt, SV.lts, IntKind.min, IntKind.max, IntKind.signed, IntKind.bits, LIM, ty3, T3_sz, T3_pty, T3, ty4, T4_sz, T4_pty, T4, ty9, T9_sz, T9_pty, T9, ty23, T23_sz, T23_pty, T23, ty105, T105_sz, T105_pty, T105, c_heldRowS, c_markText]
    exact ⟨0, ⟨by omega, rfl⟩, by omega, by simp⟩
  · rintro ys ⟨i, rfl, h2, h3⟩
    refine hW.vc [(7, [], .take 0 <| .take 1 <| .take 2 <| .take 3 <| .take 4 <| .take 5 <| .alt 6 (.take 7 <| .done) .stop)] _ _ ?_
    simp [-List.getD_eq_getElem?_getD, nth_fold, nth_zero, nth_succ, pv_I, pv_B, pv_S, pv_L, pv_A, pv_at, lv_int, lv_bool, lv_str, lv_list, lv_agg, PTy.leaves, PTy.wd, inR, TI.sz, TI.pty, lk, set1, memB, anyB, kill, strike, stillH, unpath, still, prom, proms, dpB, dpAll, ndB, isNil, shOk, takeIn, takeOk, St.slot, ofConst1, ofConsts, ofConst, St.ev, SV.cells, SV.ofCells, SV.leafB, leafAll, fixL, zeroSV, zeroSVs, zeroLf, zeroLfs, zeroPV, resL, resLs, resB, resBs, resT, resTs, resEs, introL, noP, elP, introV, introVs, packV, binI, binS, imp, evs, closes, findFn, slsOf, slsAll, argLs, argsLs, pathOf, rdHs1, rdHsL, rdHs, rdsHs, rdOk, lendOk, backL, backs, ownersOf, allRd, soleMt, firstP, callRd, callPt, callOw, callOwn, callRes, idxs, oprs, fillSV, partsOk, convRes, viewE, viewA, pathE, pathA, sliceRes, evO, etaL, storeEl, loadEl, flatL, flatLs, flatB, leafD, leafDs, dataB, ownO, sameO, isStruct, aggOk, leafAt, srcOf, joinB, joinOk, appRes, copyTo, copyRes, builtinRes, loadHy, eqCs, lvsOf, opRes, nilRes, guardOf, csz, ksz, unwd, dstOk, putS, vcK, vwCall, skipR, stepD, vcD, growP, rdCall, convP, rn, entV, entVs, entR, entO, entH, hlts, domH, entA, entL, ent, itVal, hsV, hsVs, itSlots, itBoxes, dropL, hsL, hsA, onlyR, gcH, gcA, itReach, itLay, itSt, mr, mrs, itRho, itOk, introB, introBs, introR, introX, introT, introTs, lkAll, numb, resMs, retOk, mtTy, bxCs, mtSls, mtHs, finFr, finOf, SV.lt, SV.lts, IntKind.min, IntKind.max, IntKind.signed, IntKind.bits, LIM, ty3, T3_sz, T3_pty, T3, ty4, T4_sz, T4_pty, T4, ty9, T9_sz, T9_pty, T9, ty23, T23_sz, T23_pty, T23, ty105, T105_sz, T105_pty, T105, c_heldRowS, c_markText]
    have e1 : IntKind.i64.wrap (k + 2 * (i : Int) + 1) = k + 2 * i + 1 := wrap64 (by omega)
    rw [e1, wrap64 (n := k + 2 * (i : Int) + 1 + 1) (by omega), wrap64 (n := (i : Int) + 1) (by omega)]
    refine fun _ => ⟨fun h4 => ⟨h4, fun _ => ⟨fun h5 => ?_, fun h5 => ⟨by decide +kernel, h4, fun _ => ⟨by omega, fun h6 => ?_, fun h6 => ⟨⟨i + 1, ⟨by omega, by omega⟩, by omega, ?_⟩, by omega⟩⟩⟩⟩⟩, fun h4 => ?_⟩
    · rw [h3, drop_nth h4, heldGo, if_neg (by simp [heldR1, h5])]
    · rw [h3, drop_nth h4, heldGo, if_neg (by simp [heldR1, h6])]
    · have e2 : k + 2 * ((i + 1 : Nat) : Int) = k + 2 * i + 2 := by omega
      rw [h3, drop_nth h4, heldGo, if_pos (by simp [heldR1, h5, h6]), e2]
    · rw [h3, List.drop_eq_nil_of_le h4]; rfl

def c_markView : FSpec := ⟨[(.mt, .agg [.int .i64, .int .i64, .bool, .int .i64, .int .i64, .list (.agg [.int .i64, .str])]), (.rd, .int .i64)], [.int .i64], true, fun ps => 0 ≤ (nth ps 1).I ∧ (nth ps 1).I + 2 * (nth (nth ps 0).A 5).L.length ≤ 1073741823, fun ps => [.int .i64 ((nth ps 1).I + 2 * (nth (nth ps 0).A 5).L.length)],
  fun ps => [.agg [nth (nth ps 0).A 0, nth (nth ps 0).A 1, nth (nth ps 0).A 2, nth (nth ps 0).A 3, nth (nth ps 0).A 4, .list (markR (nth ps 1).I (nth (nth ps 0).A 5).L.length)]]⟩
theorem k_markView : FnOk Try.prog 14 c_markView := by
  refine fn_mk [0, 1, 2, 4] [.tmp 4] (env_cons (cs := []) k_markRowS (env_nil (tyTab_ok []))) mixed Try.func14 rfl (by decide) rfl (by decide) rfl ?_
  intro ps hT hpre W hW
  simp only [c_markView, TyA, Ty, Tys] at hT hpre
  obtain ⟨_, _, rfl, ⟨_, rfl, _, _, rfl, ⟨n, rfl, hn⟩, _, _, rfl, ⟨f, rfl, hf⟩, _, _, rfl, ⟨u, rfl⟩, _, _, rfl, ⟨w, rfl, hw⟩, _, _, rfl, ⟨h, rfl, hh⟩, _, _, rfl, ⟨es, rfl, hes, tes⟩, rfl⟩, _, _, rfl, ⟨k, rfl, hk⟩, rfl⟩ := hT
  simp only [nth_zero, nth_succ, pv_I, pv_L, pv_A] at hpre
  refine hW.vc [] _ _ ?_
  simp [-List.getD_eq_getElem?_getD, nth_fold, nth_zero, nth_succ, pv_I, pv_B, pv_S, pv_L, pv_A, pv_at, lv_int, lv_bool, lv_str, lv_list, lv_agg, PTy.leaves, PTy.wd, inR, TI.sz, TI.pty, lk, set1, memB, anyB, kill, strike, stillH, unpath, still, prom, proms, dpB, dpAll, ndB, isNil, shOk, takeIn, takeOk, St.slot, ofConst1, ofConsts, ofConst, St.ev, SV.cells, SV.ofCells, SV.leafB, leafAll, fixL, zeroSV, zeroSVs, zeroLf, zeroLfs, zeroPV, resL, resLs, resB, resBs, resT, resTs, resEs, introL, noP, elP, introV, introVs, packV, binI, binS, imp, evs, closes, findFn, slsOf, slsAll, argLs, argsLs, pathOf, rdHs1, rdHsL, rdHs, rdsHs, rdOk, lendOk, backL, backs, ownersOf, allRd, soleMt, firstP, callRd, callPt, callOw, callOwn, callRes, idxs, oprs, fillSV, partsOk, convRes, viewE, viewA, pathE, pathA, sliceRes, evO, etaL, storeEl, loadEl, flatL, flatLs, flatB, leafD, leafDs, dataB, ownO, sameO, isStruct, aggOk, leafAt, srcOf, joinB, joinOk, appRes, copyTo, copyRes, builtinRes, loadHy, eqCs, lvsOf, opRes, nilRes, guardOf, csz, ksz, unwd, dstOk, putS, vcK, vwCall, skipR, stepD, vcD, growP, rdCall, convP, rn, entV, entVs, entR, entO, entH, hlts, domH, entA, entL, ent, itVal, hsV, hsVs, itSlots, itBoxes, dropL, hsL, hsA, onlyR, gcH, gcA, itReach, itLay, itSt, mr, mrs, itRho, itOk, introB, introBs, introR, introX, introT, introTs, lkAll, numb, resMs, retOk, mtTy, bxCs, mtSls, mtHs, finFr, finOf, SV.lt, SV.lts, IntKind.min, IntKind.max, IntKind.signed, IntKind.bits, LIM, ty3, T3_sz, T3_pty, T3, ty4, T4_sz, T4_pty, T4, ty9, T9_sz, T9_pty, T9, ty23, T23_sz, T23_pty, T23, ty25, T25_sz, T25_pty, T25, ty105, T105_sz, T105_pty, T105, c_markView, c_markRowS]
  exact hpre
def c_heldView : FSpec := ⟨[(.rd, .agg [.int .i64, .int .i64, .bool, .int .i64, .int .i64, .list (.agg [.int .i64, .str])]), (.rd, .int .i64)], [.int .i64], true, fun ps => 0 ≤ (nth ps 1).I ∧ (nth ps 1).I + 2 * (nth (nth ps 0).A 5).L.length ≤ 1073741823, fun ps => [.int .i64 (heldGo heldR1 2 (nth ps 1).I (nth (nth ps 0).A 5).L)], fun _ => []⟩
theorem k_heldView : FnOk Try.prog 15 c_heldView := by
  refine fn_mk [0, 1, 2, 4] [.tmp 4] (env_cons (cs := []) k_heldRowS (env_nil (tyTab_ok []))) mixed Try.func15 rfl (by decide) rfl (by decide) rfl ?_
  intro ps hT hpre W hW
  simp only [c_heldView, TyA, Ty, Tys] at hT hpre
  obtain ⟨_, _, rfl, ⟨_, rfl, _, _, rfl, ⟨n, rfl, hn⟩, _, _, rfl, ⟨f, rfl, hf⟩, _, _, rfl, ⟨u, rfl⟩, _, _, rfl, ⟨w, rfl, hw⟩, _, _, rfl, ⟨h, rfl, hh⟩, _, _, rfl, ⟨es, rfl, hes, tes⟩, rfl⟩, _, _, rfl, ⟨k, rfl, hk⟩, rfl⟩ := hT
  simp only [nth_zero, nth_succ, pv_I, pv_L, pv_A] at hpre
  refine hW.vc [] _ _ ?_
  simp [-List.getD_eq_getElem?_getD, nth_fold, nth_zero, nth_succ, pv_I, pv_B, pv_S, pv_L, pv_A, pv_at, lv_int, lv_bool, lv_str, lv_list, lv_agg, PTy.leaves, PTy.wd, inR, TI.sz, TI.pty, lk, set1, memB, anyB, kill, strike, stillH, unpath, still, prom, proms, dpB, dpAll, ndB, isNil, shOk, takeIn, takeOk, St.slot, ofConst1, ofConsts, ofConst, St.ev, SV.cells, SV.ofCells, SV.leafB, leafAll, fixL, zeroSV, zeroSVs, zeroLf, zeroLfs, zeroPV, resL, resLs, resB, resBs, resT, resTs, resEs, introL, noP, elP, introV, introVs, packV, binI, binS, imp, evs, closes, findFn, slsOf, slsAll, argLs, argsLs, pathOf, rdHs1, rdHsL, rdHs, rdsHs, rdOk, lendOk, backL, backs, ownersOf, allRd, soleMt, firstP, callRd, callPt, callOw, callOwn, callRes, idxs, oprs, fillSV, partsOk, convRes, viewE, viewA, pathE, pathA, sliceRes, evO, etaL, storeEl, loadEl, flatL, flatLs, flatB, leafD, leafDs, dataB, ownO, sameO, isStruct, aggOk, leafAt, srcOf, joinB, joinOk, appRes, copyTo, copyRes, builtinRes, loadHy, eqCs, lvsOf, opRes, nilRes, guardOf, csz, ksz, unwd, dstOk, putS, vcK, vwCall, skipR, stepD, vcD, growP, rdCall, convP, rn, entV, entVs, entR, entO, entH, hlts, domH, entA, entL, ent, itVal, hsV, hsVs, itSlots, itBoxes, dropL, hsL, hsA, onlyR, gcH, gcA, itReach, itLay, itSt, mr, mrs, itRho, itOk, introB, introBs, introR, introX, introT, introTs, lkAll, numb, resMs, retOk, mtTy, bxCs, mtSls, mtHs, finFr, finOf, SV.lt, SV.lts, IntKind.min, IntKind.max, IntKind.signed, IntKind.bits, LIM, ty3, T3_sz, T3_pty, T3, ty4, T4_sz, T4_pty, T4, ty9, T9_sz, T9_pty, T9, ty23, T23_sz, T23_pty, T23, ty25, T25_sz, T25_pty, T25, ty105, T105_sz, T105_pty, T105, c_heldView, c_heldRowS]
  exact ⟨hpre, fun h1 => (held_neg (by omega) (by omega) h1).symm⟩
def c_markMirror : FSpec := ⟨[(.mt, .agg [.int .i64, .int .i64, .int .i64, .list .str]), (.rd, .int .i64)], [.int .i64], true, fun ps => 0 ≤ (nth ps 1).I ∧ (nth ps 1).I + (nth (nth ps 0).A 3).L.length ≤ 1073741823, fun ps => [.int .i64 ((nth ps 1).I + (nth (nth ps 0).A 3).L.length)],
  fun ps => [.agg [nth (nth ps 0).A 0, nth (nth ps 0).A 1, nth (nth ps 0).A 2, .list (markS (nth ps 1).I (nth (nth ps 0).A 3).L.length)]]⟩
def c_heldMirror : FSpec := ⟨[(.rd, .agg [.int .i64, .int .i64, .int .i64, .list .str]), (.rd, .int .i64)], [.int .i64], true, fun ps => 0 ≤ (nth ps 1).I ∧ (nth ps 1).I + (nth (nth ps 0).A 3).L.length ≤ 1073741823, fun ps => [.int .i64 (heldGo heldS1 1 (nth ps 1).I (nth (nth ps 0).A 3).L)], fun _ => []⟩
end Go.Proofs.Ytmjjdfhpnckacab
