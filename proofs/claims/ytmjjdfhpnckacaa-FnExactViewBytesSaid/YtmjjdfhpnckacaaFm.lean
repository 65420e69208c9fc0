/-
  The law of the views' encoding.
  Conditions: none.
-/
import Derived.Test.YtmjjdfhpnckacaaFl
namespace Go.Proofs.Ytmjjdfhpnckacaa
set_option maxRecDepth 100000
set_option linter.unusedSimpArgs false

def c_exViewBytes : FSpec := ⟨[(.rd, .agg [.int .i64, .int .i64, .bool, .int .i64, .int .i64, .list (.agg [.int .i64, .str])])], [.bool], true, fun _ => True, fun _ => [.bool true], fun _ => []⟩
theorem k_exViewBytes : FnOk Try.prog 7 c_exViewBytes := by
  refine fn_mk [0, 1, 2, 3, 4, 5, 6, 7, 8, 9, 10, 11, 12, 13] [.tmp 2] (env_cons (cs := []) k_heldByteS (env_cons (cs := []) k_markByteS (env_cons (cs := []) k_markView (env_cons (cs := []) k_eqView (env_cons (cs := []) k_eqByteS (env_cons (cs := []) k_iViewBytes (env_cons (cs := []) k_sViewBytes (env_cons (cs := []) k_toView (env_cons (cs := []) k_szView (env_nil (tyTab_ok []))))))))))) mixed Try.func7 rfl (by decide) rfl (by decide) rfl ?_
  intro ps hT hpre W hW
  simp only [c_exViewBytes, TyA, Ty, Tys] at hT hpre
  obtain ⟨_, _, rfl, ⟨_, rfl, _, _, rfl, ⟨n, rfl, hn⟩, _, _, rfl, ⟨f, rfl, hf⟩, _, _, rfl, ⟨u, rfl⟩, _, _, rfl, ⟨w, rfl, hw⟩, _, _, rfl, ⟨h, rfl, hh⟩, _, _, rfl, ⟨es, rfl, hes, tes⟩, rfl⟩, rfl⟩ := hT
  refine hW.vc [(10, [], .take 0 <| .take 1 <| .alt 2 (.alt 3 (.take 4 <| .done) .stop) .stop)] _ _ ?_
  simp [-List.getD_eq_getElem?_getD, nth_fold, nth_zero, nth_succ, pv_I, pv_B, pv_S, pv_L, pv_A, pv_at, lv_int, lv_bool, lv_str, lv_list, lv_agg, PTy.leaves, PTy.wd, inR, TI.sz, TI.pty, lk, set1, memB, anyB, kill, strike, stillH, unpath, still, prom, proms, dpB, dpAll, ndB, isNil, shOk, takeIn, takeOk, St.slot, ofConst1, ofConsts, ofConst, St.ev, SV.cells, SV.ofCells, SV.leafB, leafAll, fixL, zeroSV, zeroSVs, zeroLf, zeroLfs, zeroPV, resL, resLs, resB, resBs, resT, resTs, resEs, introL, noP, elP, introV, introVs, packV, binI, binS, imp, evs, closes, findFn, slsOf, slsAll, argLs, argsLs, pathOf, rdHs1, rdHsL, rdHs, rdsHs, rdOk, lendOk, backL, backs, ownersOf, allRd, soleMt, firstP, pthJs, putLfs, callRd, callPt, callOw, callOwn, callRes, idxs, oprs, fillSV, partsOk, convRes, viewE, viewA, pathE, pathA, sliceRes, evO, etaL, storeEl, loadEl, flatL, flatLs, flatB, leafD, leafDs, dataB, ownO, sameO, isStruct, aggOk, leafAt, srcOf, joinB, joinOk, appRes, builtinRes, loadHy, eqCs, lvsOf, opRes, nilRes, guardOf, csz, ksz, unwd, dstOk, putS, vcK, stepD, vcD, growP, rdCall, convP, rn, entV, entVs, entR, entO, entH, hlts, domH, entA, entL, ent, itVal, hsV, hsVs, itSlots, itBoxes, dropL, hsL, hsA, onlyR, gcH, gcA, itReach, itLay, itSt, mr, mrs, itRho, itOk, introB, introBs, introR, introX, introT, introTs, lkAll, numb, resMs, retOk, mtTy, bxCs, mtSls, mtHs, finFr, finOf, SV.lt, SV.lts, IntKind.min, IntKind.max, IntKind.signed, IntKind.bits, LIM, ty2, T2_sz, T2_pty, T2, ty3, T3_sz, T3_pty, T3, ty4, T4_sz, T4_pty, T4, ty5, T5_sz, T5_pty, T5, ty6, T6_sz, T6_pty, T6, ty7, T7_sz, T7_pty, T7, ty8, T8_sz, T8_pty, T8, ty9, T9_sz, T9_pty, T9, ty10, T10_sz, T10_pty, T10, ty11, T11_sz, T11_pty, T11, ty12, T12_sz, T12_pty, T12, ty13, T13_sz, T13_pty, T13, ty14, T14_sz, T14_pty, T14, ty15, T15_sz, T15_pty, T15, ty16, T16_sz, T16_pty, T16, ty17, T17_sz, T17_pty, T17, ty18, T18_sz, T18_pty, T18, ty19, T19_sz, T19_pty, T19, ty21, T21_sz, T21_pty, T21, ty22, T22_sz, T22_pty, T22, ty23, T23_sz, T23_pty, T23, ty24, T24_sz, T24_pty, T24, ty27, T27_sz, T27_pty, T27, ty31, T31_sz, T31_pty, T31, ty32, T32_sz, T32_pty, T32, ty33, T33_sz, T33_pty, T33, ty36, T36_sz, T36_pty, T36, ty37, T37_sz, T37_pty, T37, ty38, T38_sz, T38_pty, T38, ty51, T51_sz, T51_pty, T51, ty64, T64_sz, T64_pty, T64, ty65, T65_sz, T65_pty, T65, ty78, T78_sz, T78_pty, T78, ty81, T81_sz, T81_pty, T81, ty82, T82_sz, T82_pty, T82, ty90, T90_sz, T90_pty, T90, ty97, T97_sz, T97_pty, T97, ty108, T108_sz, T108_pty, T108, ty113, T113_sz, T113_pty, T113, ty114, T114_sz, T114_pty, T114, ty118, T118_sz, T118_pty, T118, ty119, T119_sz, T119_pty, T119, ty120, T120_sz, T120_pty, T120, ty122, T122_sz, T122_pty, T122, ty123, T123_sz, T123_pty, T123, c_exViewBytes, c_szView, c_toView, c_sViewBytes, c_iViewBytes, c_eqByteS, c_eqView, c_markView, c_markByteS, c_heldByteS, eqVw_refl, eqB_refl, heldB_mark, markB_len, markR_len]
  intro h1
  have h2 := (szGs_le rowLen_nn (es := es) (l := 1048576) (by omega)).2.2 h1
  have h3 := vbo_len ⟨n, f, u, w, h, es⟩
  exact ⟨by omega, by decide +kernel, by omega, by omega, by omega, fun _ => ⟨by omega, by omega, fun _ => ⟨by omega, by omega, by omega⟩⟩⟩

end Go.Proofs.Ytmjjdfhpnckacaa
