/-
  The law of reading views.
  Conditions: none.
-/
import Derived.Test.YtmjjdfhpnckacabFo
namespace Go.Proofs.Ytmjjdfhpnckacab
set_option maxRecDepth 100000
set_option linter.unusedSimpArgs false

theorem rvI_len (b : List UInt8) : (rvI b).1.r.length ≤ 60 := by
  unfold rvI
  split
  · split
    · rename_i v k h
      split
      · have h1 := rdI_len b
        cases he : (rdI b).1 with
        | nil => rw [he] at h; cases h
        | cons e es =>
          rw [he, rdVs] at h
          rw [he] at h1
          split at h
          · cases h
            simp only [List.length_map, List.length_cons] at h1 ⊢
            omega
          · cases h
      · exact Nat.zero_le _
    · exact Nat.zero_le _
  · exact Nat.zero_le _
theorem rvV_len (b : List UInt8) : (rvV b).1.r.length ≤ 60 := by
  unfold rvV
  split
  · exact Nat.zero_le _
  · split
    · exact rvI_len b
    · exact Nat.zero_le _

def c_exReadView : FSpec := ⟨[(.rd, .list (.int .u8))], [.bool], true, fun _ => True, fun _ => [.bool true], fun _ => []⟩
theorem k_exReadView : FnOk Try.prog 3 c_exReadView := by
  refine fn_mk [0, 2, 3, 4, 5, 6, 7, 8, 9, 10, 11, 12] [.tmp 2] (env_cons (cs := []) k_heldView (env_cons (cs := []) k_markByteS (env_cons (cs := []) k_markView (env_cons (cs := []) k_eqView (env_cons (cs := []) k_eqByteS (env_cons (cs := []) k_iReadView (env_cons (cs := []) k_sReadView (env_cons (cs := []) k_toByteS (env_nil (tyTab_ok [])))))))))) mixed Try.func3 rfl (by decide) rfl (by decide) rfl ?_
  intro ps hT hpre W hW
  simp only [c_exReadView, TyA, Ty, Tys] at hT hpre
  obtain ⟨_, _, rfl, ⟨es, rfl, hes, tes⟩, rfl⟩ := hT
  refine hW.vc [] _ _ ?_
  simp [-List.getD_eq_getElem?_getD, nth_fold, nth_zero, nth_succ, pv_I, pv_B, pv_S, pv_L, pv_A, pv_at, lv_int, lv_bool, lv_str, lv_list, lv_agg, PTy.leaves, PTy.wd, inR, TI.sz, TI.pty, lk, set1, memB, anyB, kill, strike, stillH, unpath, still, prom, proms, dpB, dpAll, ndB, isNil, shOk, takeIn, takeOk, St.slot, ofConst1, ofConsts, ofConst, St.ev, SV.cells, SV.ofCells, SV.leafB, leafAll, fixL, zeroSV, zeroSVs, zeroLf, zeroLfs, zeroPV, resL, resLs, resB, resBs, resT, resTs, resEs, introL, noP, elP, introV, introVs, packV, binI, binS, imp, evs, closes, findFn, slsOf, slsAll, argLs, argsLs, pathOf, rdHs1, rdHsL, rdHs, rdsHs, rdOk, lendOk, backL, backs, ownersOf, allRd, soleMt, firstP, pthJs, putLfs, callRd, callPt, callOw, callOwn, callRes, idxs, oprs, fillSV, partsOk, convRes, viewE, viewA, pathE, pathA, sliceRes, evO, etaL, storeEl, loadEl, flatL, flatLs, flatB, leafD, leafDs, dataB, ownO, sameO, isStruct, aggOk, leafAt, srcOf, joinB, joinOk, appRes, builtinRes, loadHy, eqCs, lvsOf, opRes, nilRes, guardOf, csz, ksz, unwd, dstOk, putS, vcK, stepD, vcD, growP, rdCall, convP, rn, entV, entVs, entR, entO, entH, hlts, domH, entA, entL, ent, itVal, hsV, hsVs, itSlots, itBoxes, dropL, hsL, hsA, onlyR, gcH, gcA, itReach, itLay, itSt, mr, mrs, itRho, itOk, introB, introBs, introR, introX, introT, introTs, lkAll, numb, resMs, retOk, mtTy, bxCs, mtSls, mtHs, finFr, finOf, SV.lt, SV.lts, IntKind.min, IntKind.max, IntKind.signed, IntKind.bits, LIM, ty2, T2_sz, T2_pty, T2, ty3, T3_sz, T3_pty, T3, ty4, T4_sz, T4_pty, T4, ty5, T5_sz, T5_pty, T5, ty6, T6_sz, T6_pty, T6, ty7, T7_sz, T7_pty, T7, ty8, T8_sz, T8_pty, T8, ty9, T9_sz, T9_pty, T9, ty10, T10_sz, T10_pty, T10, ty11, T11_sz, T11_pty, T11, ty12, T12_sz, T12_pty, T12, ty13, T13_sz, T13_pty, T13, ty14, T14_sz, T14_pty, T14, ty15, T15_sz, T15_pty, T15, ty16, T16_sz, T16_pty, T16, ty17, T17_sz, T17_pty, T17, ty18, T18_sz, T18_pty, T18, ty19, T19_sz, T19_pty, T19, ty21, T21_sz, T21_pty, T21, ty22, T22_sz, T22_pty, T22, ty23, T23_sz, T23_pty, T23, ty24, T24_sz, T24_pty, T24, ty25, T25_sz, T25_pty, T25, ty34, T34_sz, T34_pty, T34, ty35, T35_sz, T35_pty, T35, ty36, T36_sz, T36_pty, T36, ty37, T37_sz, T37_pty, T37, ty39, T39_sz, T39_pty, T39, ty40, T40_sz, T40_pty, T40, ty41, T41_sz, T41_pty, T41, ty42, T42_sz, T42_pty, T42, ty53, T53_sz, T53_pty, T53, ty54, T54_sz, T54_pty, T54, ty59, T59_sz, T59_pty, T59, ty69, T69_sz, T69_pty, T69, ty70, T70_sz, T70_pty, T70, ty93, T93_sz, T93_pty, T93, ty104, T104_sz, T104_pty, T104, ty105, T105_sz, T105_pty, T105, ty118, T118_sz, T118_pty, T118, ty119, T119_sz, T119_pty, T119, ty121, T121_sz, T121_pty, T121, ty122, T122_sz, T122_pty, T122, ty124, T124_sz, T124_pty, T124, ty125, T125_sz, T125_pty, T125, ty126, T126_sz, T126_pty, T126, ty128, T128_sz, T128_pty, T128, ty131, T131_sz, T131_pty, T131, ty136, T136_sz, T136_pty, T136, ty137, T137_sz, T137_pty, T137, ty150, T150_sz, T150_pty, T150, ty151, T151_sz, T151_pty, T151, ty152, T152_sz, T152_pty, T152, ty154, T154_sz, T154_pty, T154, ty155, T155_sz, T155_pty, T155, ty174, T174_sz, T174_pty, T174, ty177, T177_sz, T177_pty, T177, ty178, T178_sz, T178_pty, T178, ty180, T180_sz, T180_pty, T180, ty183, T183_sz, T183_pty, T183, ty185, T185_sz, T185_pty, T185, ty186, T186_sz, T186_pty, T186, ty188, T188_sz, T188_pty, T188, ty189, T189_sz, T189_pty, T189, ty201, T201_sz, T201_pty, T201, ty203, T203_sz, T203_pty, T203, ty204, T204_sz, T204_pty, T204, ty205, T205_sz, T205_pty, T205, ty212, T212_sz, T212_pty, T212, ty219, T219_sz, T219_pty, T219, ty222, T222_sz, T222_pty, T222, ty225, T225_sz, T225_pty, T225, ty226, T226_sz, T226_pty, T226, ty230, T230_sz, T230_pty, T230, ty231, T231_sz, T231_pty, T231, ty233, T233_sz, T233_pty, T233, ty234, T234_sz, T234_pty, T234, c_exReadView, c_toByteS, c_sReadView, c_iReadView, c_eqByteS, c_eqView, c_markView, c_markByteS, c_heldView, VW.pv, c_iReadView, eqVw_refl, eqB_refl, heldB_mark, markB_len, markR_len, heldR_mark]
  have h3 := rvV_len (pvBytes es)
  exact fun _ h1 => ⟨by omega, by omega, by omega, fun _ => ⟨by omega, by omega, fun _ => ⟨by omega, by omega, by omega⟩⟩⟩

end Go.Proofs.Ytmjjdfhpnckacab
