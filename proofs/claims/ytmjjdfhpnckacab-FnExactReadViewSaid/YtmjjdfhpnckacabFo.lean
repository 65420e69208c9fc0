/-
  A view is read as it was written.
  Conditions: none.
-/
import Derived.Test.YtmjjdfhpnckacabFn
namespace Go.Proofs.Ytmjjdfhpnckacab
set_option maxRecDepth 100000
set_option linter.unusedSimpArgs false

theorem numsB_numsR : ∀ (n : Nat) (s : List UInt8), s.length = 3 * n → numsB (numsR n s) = s
  | 0, s, h => by have := List.eq_nil_of_length_eq_zero h; subst this; rfl
  | n + 1, s, h => by
    have ih := numsB_numsR n (s.drop 3) (by rw [List.length_drop]; omega)
    unfold numsB at ih ⊢
    rw [numsR, List.flatMap_cons, ih, pv_I, Int.sub_add_cancel, nB_numB (by rw [List.length_take]; omega), List.take_append_drop]
theorem numsB_five {s : List UInt8} (h : s.length = 15) : numsB [.int .i64 (nth (numsR 5 s) 0).I, .int .i64 (nth (numsR 5 s) 1).I, .int .i64 (nth (numsR 5 s) 2).I, .int .i64 (nth (numsR 5 s) 3).I, .int .i64 (nth (numsR 5 s) 4).I] = s :=
  (show _ = numsB (numsR 5 s) from rfl).trans (numsB_numsR 5 s h)
theorem num_two (s : List UInt8) (h : s.length = 15) : numB (nB ((nth (numsR 5 s) 2).I + 1) 3) = (nth (numsR 5 s) 2).I + 1 := by
  have e : (nth (numsR 5 s) 2).I = numB (((s.drop 3).drop 3).take 3) - 1 := rfl
  rw [e, Int.sub_add_cancel, nB_numB (by simp [h])]
theorem nums_bit {s : List UInt8} (h : s.length = 15) {a b c d e : Int} (h0 : nth (numsR 5 s) 0 = .int .i64 a) (h1 : nth (numsR 5 s) 1 = .int .i64 b) (h2 : nth (numsR 5 s) 2 = .int .i64 c) (h3 : nth (numsR 5 s) 3 = .int .i64 d) (h4 : nth (numsR 5 s) 4 = .int .i64 e) :
    numsB [.int .i64 a, .int .i64 b, .int .i64 (bitI (c == 1)), .int .i64 d, .int .i64 e] = s ↔ inB c 0 1 = true := by
  have h5 := numsB_five h
  have h6 := num_two s h
  simp only [h0, h1, h2, h3, h4, pv_I] at h5 h6
  conv => lhs; rhs; rw [← h5]
  simp only [numsB, List.flatMap_cons, List.flatMap_nil, pv_I]
  constructor
  · intro h7
    have h8 := List.append_cancel_left (List.append_cancel_left h7)
    obtain ⟨h9, _⟩ := List.append_inj h8 (by rw [nB_len, nB_len])
    have h10 := congrArg numB h9
    rw [h6] at h10
    cases hc : c == 1 with
    | true => have : c = 1 := by simpa using hc
              subst this; rfl
    | false =>
      rw [hc] at h10
      have e1 : numB (nB (bitI false + 1) 3) = 1 := by decide
      rw [e1] at h10
      have : c = 0 := by omega
      subst this; rfl
  · intro h7
    simp only [inB, Bool.and_eq_true, decide_eq_true_eq] at h7
    have : bitI (c == 1) = c := by
      rcases (show c = 0 ∨ c = 1 by omega) with rfl | rfl <;> rfl
    rw [this]
theorem fm_congr {α β : Type} {f g : α → List β} : ∀ {l : List α}, (∀ x ∈ l, f x = g x) → l.flatMap f = l.flatMap g
  | [], _ => rfl
  | x :: l, h => by rw [List.flatMap_cons, List.flatMap_cons, h x (by simp), fm_congr fun y hy => h y (by simp [hy])]
theorem row_back {e : PV} (h : e.S ≠ []) : nB (nth (rowOf e).A 0).I 1 ++ (nth (rowOf e).A 1).S = e.S := by
  simp only [rowOf, pv_A, nth_zero, nth_succ, pv_I, pv_S]
  cases hs : e.S with
  | nil => exact absurd hs h
  | cons x s =>
    have := byteOf_of x 0
    rw [Int.zero_mul, Int.zero_add] at this
    simp [nB, this]
theorem fieldsB_congr {X : List UInt8} {e : PV} {es fs : List PV} (hl : fs.length = es.length) (hX : X.length = e.S.length) (h : fs.flatMap (fun e => nB e.S.length 2 ++ e.S) = es.flatMap (fun e => nB e.S.length 2 ++ e.S)) : fieldsB (.str X :: fs) = fieldsB (e :: es) ↔ X = e.S := by
  simp only [fieldsB, List.length_cons, List.flatMap_cons, pv_S, hl, h, hX]
  constructor
  · intro h1
    have h2 := (List.cons.inj h1).2
    have h3 := List.append_cancel_right h2
    exact List.append_cancel_left h3
  · rintro rfl; rfl
theorem view_back {e : PV} {es : List PV} (h : e.S.length = 15) (h2 : (es.all fun e => !e.S.isEmpty) = true) :
    viewT ⟨(nth (numsR 5 e.S) 0).I, (nth (numsR 5 e.S) 1).I, (nth (numsR 5 e.S) 2).I == 1, (nth (numsR 5 e.S) 3).I, (nth (numsR 5 e.S) 4).I, es.map rowOf⟩ = fieldsB (e :: es) ↔ inB (nth (numsR 5 e.S) 2).I 0 1 = true := by
  unfold viewT
  rw [fieldsB_congr (by simp) (by rw [numsB_len, h]; rfl)]
  · exact nums_bit h rfl rfl rfl rfl rfl
  · rw [List.map_map, List.flatMap_map]
    refine fm_congr fun x hx => ?_
    have h3 := List.all_eq_true.1 h2 x hx
    have h4 := row_back (e := x) (by intro e; rw [e] at h3; simp at h3)
    simp only [Function.comp, pv_S, h4]

theorem rvS_rvI {b : List UInt8} (hb : b.length ≤ 65536) : (rvS b).2 = (rvI b).2 ∧ ((rvI b).2 = true → (rvS b).1 = (rvI b).1) := by
  have hI : rdI b = match rdF b with | none => ([], false) | some (es, r) => (es, r.isEmpty) := if_neg (by omega)
  cases hF : rdF b with
  | none =>
    rw [hF] at hI
    rw [rvI_a (b := b) (.inl (by rw [hI])), rvS_a (b := b) (.inl (by rw [rdS, hF]))]
    exact ⟨rfl, fun _ => rfl⟩
  | some x =>
    obtain ⟨es, r⟩ := x
    rw [hF] at hI
    by_cases hr : r = []
    · subst hr
      have hS : rdS b = (es, true) := by rw [rdS, hF]; rfl
      have hI : rdI b = (es, true) := hI
      cases es with
      | nil =>
        rw [rvI_a (b := b) (.inr (by rw [hI])), rvS_a (b := b) (.inr (by rw [hS]))]
        exact ⟨rfl, fun _ => rfl⟩
      | cons e es =>
        by_cases h15 : e.S.length = 15
        · cases hall : es.all fun e => !e.S.isEmpty with
          | false =>
            rw [rvI_b (b := b) (by rw [hI]) (.inr hall), rvS_b (b := b) (by rw [hS]) (.inr (.inr hall))]
            exact ⟨rfl, fun _ => rfl⟩
          | true =>
            have hc := rvI_c (b := b) (by rw [hI]) (by rw [hI]) h15 hall
            have hbk := view_back h15 hall
            have hbe : b = fieldsB (e :: es) := by simpa using (rdF_enc hF).2
            rw [← hbe] at hbk
            cases hk : inB (nth (numsR 5 e.S) 2).I 0 1 with
            | false =>
              rw [if_neg (fun h => by rw [hbk.1 h.2] at hk; cases hk)] at hc
              rw [hc, rvS_b (b := b) (by rw [hS]) (.inr (.inl hk))]
              exact ⟨rfl, fun _ => rfl⟩
            | true =>
              rw [rvS_c (b := b) (by rw [hS]) (by rw [hS]) h15 hk hall]
              split at hc
              · rename_i hv
                rw [hc]
                exact ⟨hv.1, fun _ => rfl⟩
              · rename_i hv
                rw [hc]
                refine ⟨?_, fun h => by cases h⟩
                show viewB _ = false
                rw [← Bool.not_eq_true]
                exact fun hw => hv ⟨hw, hbk.2 hk⟩
        · rw [rvI_b (b := b) (by rw [hI]) (.inl h15), rvS_b (b := b) (by rw [hS]) (.inl h15)]
          exact ⟨rfl, fun _ => rfl⟩
    · have h1 : (rdI b).2 = false := by rw [hI]; cases r with | nil => exact absurd rfl hr | cons _ _ => rfl
      have h2 : (rdS b).2 = false := by rw [rdS, hF]; show (if r = [] then _ else _ : List PV × Bool).2 = _; rw [if_neg hr]
      rw [rvI_a (b := b) (.inl h1), rvS_a (b := b) (.inl h2)]
      exact ⟨rfl, fun _ => rfl⟩

def longN (n : Int) : Bool := decide (n > 65536)
def c_isLong1 : FSpec := ⟨[(.rd, .int .i64)], [.bool], true, fun _ => True, fun ps => [.bool (longN (nth ps 0).I)], fun _ => []⟩
theorem k_isLong1 : FnOk Try.prog 93 c_isLong1 := by
  refine fn_mk [0, 2] [.tmp 2] (env_nil (tyTab_ok [])) mixed Try.func93 rfl (by decide) rfl (by decide) rfl ?_
  intro ps hT hpre W hW
  simp only [c_isLong1, TyA, Ty, Tys] at hT hpre
  obtain ⟨_, _, rfl, ⟨n, rfl, hn⟩, rfl⟩ := hT
  refine hW.vc [] _ _ ?_
  simp [-List.getD_eq_getElem?_getD, nth_fold, nth_zero, nth_succ, pv_I, pv_B, pv_S, pv_L, pv_A, pv_at, lv_int, lv_bool, lv_str, lv_list, lv_agg, PTy.leaves, PTy.wd, inR, TI.sz, TI.pty, lk, set1, memB, anyB, kill, strike, stillH, unpath, still, prom, proms, dpB, dpAll, ndB, isNil, shOk, takeIn, takeOk, St.slot, ofConst1, ofConsts, ofConst, St.ev, SV.cells, SV.ofCells, SV.leafB, leafAll, fixL, zeroSV, zeroSVs, zeroLf, zeroLfs, zeroPV, resL, resLs, resB, resBs, resT, resTs, resEs, introL, noP, elP, introV, introVs, packV, binI, binS, imp, evs, closes, findFn, slsOf, slsAll, argLs, argsLs, pathOf, rdHs1, rdHsL, rdHs, rdsHs, rdOk, lendOk, backL, backs, ownersOf, allRd, soleMt, firstP, pthJs, putLfs, callRd, callPt, callOw, callOwn, callRes, idxs, oprs, fillSV, partsOk, convRes, viewE, viewA, pathE, pathA, sliceRes, evO, etaL, storeEl, loadEl, flatL, flatLs, flatB, leafD, leafDs, dataB, ownO, sameO, isStruct, aggOk, leafAt, srcOf, joinB, joinOk, appRes, builtinRes, loadHy, eqCs, lvsOf, opRes, nilRes, guardOf, csz, ksz, unwd, dstOk, putS, vcK, stepD, vcD, growP, rdCall, convP, rn, entV, entVs, entR, entO, entH, hlts, domH, entA, entL, ent, itVal, hsV, hsVs, itSlots, itBoxes, dropL, hsL, hsA, onlyR, gcH, gcA, itReach, itLay, itSt, mr, mrs, itRho, itOk, introB, introBs, introR, introX, introT, introTs, lkAll, numb, resMs, retOk, mtTy, bxCs, mtSls, mtHs, finFr, finOf, SV.lt, SV.lts, IntKind.min, IntKind.max, IntKind.signed, IntKind.bits, LIM, ty2, T2_sz, T2_pty, T2, ty3, T3_sz, T3_pty, T3, ty4, T4_sz, T4_pty, T4, ty5, T5_sz, T5_pty, T5, ty6, T6_sz, T6_pty, T6, ty7, T7_sz, T7_pty, T7, ty8, T8_sz, T8_pty, T8, ty9, T9_sz, T9_pty, T9, ty10, T10_sz, T10_pty, T10, ty11, T11_sz, T11_pty, T11, ty12, T12_sz, T12_pty, T12, ty13, T13_sz, T13_pty, T13, ty14, T14_sz, T14_pty, T14, ty15, T15_sz, T15_pty, T15, ty16, T16_sz, T16_pty, T16, ty17, T17_sz, T17_pty, T17, ty18, T18_sz, T18_pty, T18, ty19, T19_sz, T19_pty, T19, ty21, T21_sz, T21_pty, T21, ty22, T22_sz, T22_pty, T22, ty23, T23_sz, T23_pty, T23, ty24, T24_sz, T24_pty, T24, ty25, T25_sz, T25_pty, T25, ty34, T34_sz, T34_pty, T34, ty35, T35_sz, T35_pty, T35, ty36, T36_sz, T36_pty, T36, ty37, T37_sz, T37_pty, T37, ty39, T39_sz, T39_pty, T39, ty40, T40_sz, T40_pty, T40, ty41, T41_sz, T41_pty, T41, ty42, T42_sz, T42_pty, T42, ty53, T53_sz, T53_pty, T53, ty54, T54_sz, T54_pty, T54, ty59, T59_sz, T59_pty, T59, ty69, T69_sz, T69_pty, T69, ty70, T70_sz, T70_pty, T70, ty93, T93_sz, T93_pty, T93, ty104, T104_sz, T104_pty, T104, ty105, T105_sz, T105_pty, T105, ty118, T118_sz, T118_pty, T118, ty119, T119_sz, T119_pty, T119, ty121, T121_sz, T121_pty, T121, ty122, T122_sz, T122_pty, T122, ty124, T124_sz, T124_pty, T124, ty125, T125_sz, T125_pty, T125, ty126, T126_sz, T126_pty, T126, ty128, T128_sz, T128_pty, T128, ty131, T131_sz, T131_pty, T131, ty136, T136_sz, T136_pty, T136, ty137, T137_sz, T137_pty, T137, ty150, T150_sz, T150_pty, T150, ty151, T151_sz, T151_pty, T151, ty152, T152_sz, T152_pty, T152, ty154, T154_sz, T154_pty, T154, ty155, T155_sz, T155_pty, T155, ty174, T174_sz, T174_pty, T174, ty177, T177_sz, T177_pty, T177, ty178, T178_sz, T178_pty, T178, ty180, T180_sz, T180_pty, T180, ty183, T183_sz, T183_pty, T183, ty185, T185_sz, T185_pty, T185, ty186, T186_sz, T186_pty, T186, ty188, T188_sz, T188_pty, T188, ty189, T189_sz, T189_pty, T189, ty201, T201_sz, T201_pty, T201, ty203, T203_sz, T203_pty, T203, ty204, T204_sz, T204_pty, T204, ty205, T205_sz, T205_pty, T205, ty212, T212_sz, T212_pty, T212, ty219, T219_sz, T219_pty, T219, ty222, T222_sz, T222_pty, T222, ty225, T225_sz, T225_pty, T225, ty226, T226_sz, T226_pty, T226, ty230, T230_sz, T230_pty, T230, ty231, T231_sz, T231_pty, T231, ty233, T233_sz, T233_pty, T233, ty234, T234_sz, T234_pty, T234, c_isLong1]
  rfl

def c_IndexFunc_isLong1 : FSpec := ⟨[(.rd, .list (.int .i64)), (.rd, .fn 93 [])], [.int .i64], true, fun ps => True, fun ps => [.int .i64 (idxGo (fun e => longN e.I) 0 (nth ps 0).L)], fun _ => []⟩
theorem k_IndexFunc_isLong1 : FnOk Try.prog 144 c_IndexFunc_isLong1 := by
  refine fn_mk [0, 1, 4, 5, 7, 8] [.tmp 4] (env_cons (cs := []) k_isLong1 (env_nil (tyTab_ok []))) mixed Try.func144 rfl (by decide) rfl (by decide) rfl ?_
  intro ps hT hpre W hW
  simp only [c_IndexFunc_isLong1, TyA, Ty, Tys] at hT hpre
  obtain ⟨_, _, rfl, ⟨es, rfl, he, hes⟩, _, _, rfl, ⟨_, rfl, rfl⟩, rfl⟩ := hT
  refine hW.vc [] _ _ ?_
  simp [-List.getD_eq_getElem?_getD, nth_fold, nth_zero, nth_succ, pv_I, pv_B, pv_S, pv_L, pv_A, pv_at, lv_int, lv_bool, lv_str, lv_list, lv_agg, PTy.leaves, PTy.wd, inR, TI.sz, TI.pty, lk, set1, memB, anyB, kill, strike, stillH, unpath, still, prom, proms, dpB, dpAll, ndB, isNil, shOk, takeIn, takeOk, St.slot, ofConst1, ofConsts, ofConst, St.ev, SV.cells, SV.ofCells, SV.leafB, leafAll, fixL, zeroSV, zeroSVs, zeroLf, zeroLfs, zeroPV, resL, resLs, resB, resBs, resT, resTs, resEs, introL, noP, elP, introV, introVs, packV, binI, binS, imp, evs, closes, findFn, slsOf, slsAll, argLs, argsLs, pathOf, rdHs1, rdHsL, rdHs, rdsHs, rdOk, lendOk, backL, backs, ownersOf, allRd, soleMt, firstP, pthJs, putLfs, callRd, callPt, callOw, callOwn, callRes, idxs, oprs, fillSV, partsOk, convRes, viewE, viewA, pathE, pathA, sliceRes, evO, etaL, storeEl, loadEl, flatL, flatLs, flatB, leafD, leafDs, dataB, ownO, sameO, isStruct, aggOk, leafAt, srcOf, joinB, joinOk, appRes, builtinRes, loadHy, eqCs, lvsOf, opRes, nilRes, guardOf, csz, ksz, unwd, dstOk, putS, vcK, stepD, vcD, growP, rdCall, convP, rn, entV, entVs, entR, entO, entH, hlts, domH, entA, entL, ent, itVal, hsV, hsVs, itSlots, itBoxes, dropL, hsL, hsA, onlyR, gcH, gcA, itReach, itLay, itSt, mr, mrs, itRho, itOk, introB, introBs, introR, introX, introT, introTs, lkAll, numb, resMs, retOk, mtTy, bxCs, mtSls, mtHs, finFr, finOf, SV.lt, SV.lts, IntKind.min, IntKind.max, IntKind.signed, IntKind.bits, LIM, ty2, T2_sz, T2_pty, T2, ty3, T3_sz, T3_pty, T3, ty4, T4_sz, T4_pty, T4, ty5, T5_sz, T5_pty, T5, ty6, T6_sz, T6_pty, T6, ty7, T7_sz, T7_pty, T7, ty8, T8_sz, T8_pty, T8, ty9, T9_sz, T9_pty, T9, ty10, T10_sz, T10_pty, T10, ty11, T11_sz, T11_pty, T11, ty12, T12_sz, T12_pty, T12, ty13, T13_sz, T13_pty, T13, ty14, T14_sz, T14_pty, T14, ty15, T15_sz, T15_pty, T15, ty16, T16_sz, T16_pty, T16, ty17, T17_sz, T17_pty, T17, ty18, T18_sz, T18_pty, T18, ty19, T19_sz, T19_pty, T19, ty21, T21_sz, T21_pty, T21, ty22, T22_sz, T22_pty, T22, ty23, T23_sz, T23_pty, T23, ty24, T24_sz, T24_pty, T24, ty25, T25_sz, T25_pty, T25, ty34, T34_sz, T34_pty, T34, ty35, T35_sz, T35_pty, T35, ty36, T36_sz, T36_pty, T36, ty37, T37_sz, T37_pty, T37, ty39, T39_sz, T39_pty, T39, ty40, T40_sz, T40_pty, T40, ty41, T41_sz, T41_pty, T41, ty42, T42_sz, T42_pty, T42, ty53, T53_sz, T53_pty, T53, ty54, T54_sz, T54_pty, T54, ty59, T59_sz, T59_pty, T59, ty69, T69_sz, T69_pty, T69, ty70, T70_sz, T70_pty, T70, ty93, T93_sz, T93_pty, T93, ty104, T104_sz, T104_pty, T104, ty105, T105_sz, T105_pty, T105, ty118, T118_sz, T118_pty, T118, ty119, T119_sz, T119_pty, T119, ty121, T121_sz, T121_pty, T121, ty122, T122_sz, T122_pty, T122, ty124, T124_sz, T124_pty, T124, ty125, T125_sz, T125_pty, T125, ty126, T126_sz, T126_pty, T126, ty128, T128_sz, T128_pty, T128, ty131, T131_sz, T131_pty, T131, ty136, T136_sz, T136_pty, T136, ty137, T137_sz, T137_pty, T137, ty150, T150_sz, T150_pty, T150, ty151, T151_sz, T151_pty, T151, ty152, T152_sz, T152_pty, T152, ty154, T154_sz, T154_pty, T154, ty155, T155_sz, T155_pty, T155, ty174, T174_sz, T174_pty, T174, ty177, T177_sz, T177_pty, T177, ty178, T178_sz, T178_pty, T178, ty180, T180_sz, T180_pty, T180, ty183, T183_sz, T183_pty, T183, ty185, T185_sz, T185_pty, T185, ty186, T186_sz, T186_pty, T186, ty188, T188_sz, T188_pty, T188, ty189, T189_sz, T189_pty, T189, ty201, T201_sz, T201_pty, T201, ty203, T203_sz, T203_pty, T203, ty204, T204_sz, T204_pty, T204, ty205, T205_sz, T205_pty, T205, ty212, T212_sz, T212_pty, T212, ty219, T219_sz, T219_pty, T219, ty222, T222_sz, T222_pty, T222, ty225, T225_sz, T225_pty, T225, ty226, T226_sz, T226_pty, T226, ty230, T230_sz, T230_pty, T230, ty231, T231_sz, T231_pty, T231, ty233, T233_sz, T233_pty, T233, ty234, T234_sz, T234_pty, T234, c_IndexFunc_isLong1, c_isLong1]
  intro h1
  refine hW.loopS _ _ _ [.sl 8 .dp (.int .i64)] (fun ys => ∃ i : Nat, ys = [.int .i64 i] ∧ i ≤ es.length ∧ idxGo (fun e => longN e.I) 0 es = idxGo (fun e => longN e.I) i (es.drop i)) (fun ys => es.length - (nth ys 0).I.toNat) ?_ ?_
  · simp [-List.getD_eq_getElem?_getD, nth_fold, nth_zero, nth_succ, pv_I, pv_B, pv_S, pv_L, pv_A, pv_at, lv_int, lv_bool, lv_str, lv_list, lv_agg, PTy.leaves, PTy.wd, inR, TI.sz, TI.pty, lk, set1, memB, anyB, kill, strike, stillH, unpath, still, prom, proms, dpB, dpAll, ndB, isNil, shOk, takeIn, takeOk, St.slot, ofConst1, ofConsts, ofConst, St.ev, SV.cells, SV.ofCells, SV.leafB, leafAll, fixL, zeroSV, zeroSVs, zeroLf, zeroLfs, zeroPV, resL, resLs, resB, resBs, resT, resTs, resEs, introL, noP, elP, introV, introVs, packV, binI, binS, imp, evs, closes, findFn, slsOf, slsAll, argLs, argsLs, pathOf, rdHs1, rdHsL, rdHs, rdsHs, rdOk, lendOk, backL, backs, ownersOf, allRd, soleMt, firstP, pthJs, putLfs, callRd, callPt, callOw, callOwn, callRes, idxs, oprs, fillSV, partsOk, convRes, viewE, viewA, pathE, pathA, sliceRes, evO, etaL, storeEl, loadEl, flatL, flatLs, flatB, leafD, leafDs, dataB, ownO, sameO, isStruct, aggOk, leafAt, srcOf, joinB, joinOk, appRes, builtinRes, loadHy, eqCs, lvsOf, opRes, nilRes, guardOf, csz, ksz, unwd, dstOk, putS, vcK, stepD, vcD, growP, rdCall, convP, rn, entV, entVs, entR, entO, entH, hlts, domH, entA, entL, ent, itVal, hsV, hsVs, itSlots, itBoxes, dropL, hsL, hsA, onlyR, gcH, gcA, itReach, itLay, itSt, mr, mrs, itRho, itOk, introB, introBs, introR, introX, introT, introTs, lkAll, numb, resMs, retOk, mtTy, bxCs, mtSls, mtHs, finFr, finOf, SV.lt, SV.lts, IntKind.min, IntKind.max, IntKind.signed, IntKind.bits, LIM, ty2, T2_sz, T2_pty, T2, ty3, T3_sz, T3_pty, T3, ty4, T4_sz, T4_pty, T4, ty5, T5_sz, T5_pty, T5, ty6, T6_sz, T6_pty, T6, ty7, T7_sz, T7_pty, T7, ty8, T8_sz, T8_pty, T8, ty9, T9_sz, T9_pty, T9, ty10, T10_sz, T10_pty, T10, ty11, T11_sz, T11_pty, T11, ty12, T12_sz, T12_pty, T12, ty13, T13_sz, T13_pty, T13, ty14, T14_sz, T14_pty, T14, ty15, T15_sz, T15_pty, T15, ty16, T16_sz, T16_pty, T16, ty17, T17_sz, T17_pty, T17, ty18, T18_sz, T18_pty, T18, ty19, T19_sz, T19_pty, T19, ty21, T21_sz, T21_pty, T21, ty22, T22_sz, T22_pty, T22, ty23, T23_sz, T23_pty, T23, ty24, T24_sz, T24_pty, T24, ty25, T25_sz, T25_pty, T25, ty34, T34_sz, T34_pty, T34, ty35, T35_sz, T35_pty, T35, ty36, T36_sz, T36_pty, T36, ty37, T37_sz, T37_pty, T37, ty39, T39_sz, T39_pty, T39, ty40, T40_sz, T40_pty, T40, ty41, T41_sz, T41_pty, T41, ty42, T42_sz, T42_pty, T42, ty53, T53_sz, T53_pty, T53, ty54, T54_sz, T54_pty, T54, ty59, T59_sz, T59_pty, T59, ty69, T69_sz, T69_pty, T69, ty70, T70_sz, T70_pty, T70, ty93, T93_sz, T93_pty, T93, ty104, T104_sz, T104_pty, T104, ty105, T105_sz, T105_pty, T105, ty118, T118_sz, T118_pty, T118, ty119, T119_sz, T119_pty, T119, ty121, T121_sz, T121_pty, T121, ty122, T122_sz, T122_pty, T122, ty124, T124_sz, T124_pty, T124, ty125, T125_sz, T125_pty, T125, ty126, T126_sz, T126_pty, T126, ty128, T128_sz, T128_pty, T128, ty131, T131_sz, T131_pty, T131, ty136, T136_sz, T136_pty, T136, ty137, T137_sz, T137_pty, T137, ty150, T150_sz, T150_pty, T150, ty151, T151_sz, T151_pty, T151, ty152, T152_sz, T152_pty, T152, ty154, T154_sz, T154_pty, T154, ty155, T155_sz, T155_pty, T155, ty174, T174_sz, T174_pty, T174, ty177, T177_sz, T177_pty, T177, ty178, T178_sz, T178_pty, T178, ty180, T180_sz, T180_pty, T180, ty183, T183_sz, T183_pty, T183, ty185, T185_sz, T185_pty, T185, ty186, T186_sz, T186_pty, T186, ty188, T188_sz, T188_pty, T188, ty189, T189_sz, T189_pty, T189, ty201, T201_sz, T201_pty, T201, ty203, T203_sz, T203_pty, T203, ty204, T204_sz, T204_pty, T204, ty205, T205_sz, T205_pty, T205, ty212, T212_sz, T212_pty, T212, ty219, T219_sz, T219_pty, T219, ty222, T222_sz, T222_pty, T222, ty225, T225_sz, T225_pty, T225, ty226, T226_sz, T226_pty, T226, ty230, T230_sz, T230_pty, T230, ty231, T231_sz, T231_pty, T231, ty233, T233_sz, T233_pty, T233, ty234, T234_sz, T234_pty, T234, c_IndexFunc_isLong1, c_isLong1]
    exact ⟨0, rfl, by simp, by simp⟩
  · rintro ys ⟨i, rfl, h2, h3⟩
    refine hW.vc [] _ _ ?_
    simp [-List.getD_eq_getElem?_getD, nth_fold, nth_zero, nth_succ, pv_I, pv_B, pv_S, pv_L, pv_A, pv_at, lv_int, lv_bool, lv_str, lv_list, lv_agg, PTy.leaves, PTy.wd, inR, TI.sz, TI.pty, lk, set1, memB, anyB, kill, strike, stillH, unpath, still, prom, proms, dpB, dpAll, ndB, isNil, shOk, takeIn, takeOk, St.slot, ofConst1, ofConsts, ofConst, St.ev, SV.cells, SV.ofCells, SV.leafB, leafAll, fixL, zeroSV, zeroSVs, zeroLf, zeroLfs, zeroPV, resL, resLs, resB, resBs, resT, resTs, resEs, introL, noP, elP, introV, introVs, packV, binI, binS, imp, evs, closes, findFn, slsOf, slsAll, argLs, argsLs, pathOf, rdHs1, rdHsL, rdHs, rdsHs, rdOk, lendOk, backL, backs, ownersOf, allRd, soleMt, firstP, pthJs, putLfs, callRd, callPt, callOw, callOwn, callRes, idxs, oprs, fillSV, partsOk, convRes, viewE, viewA, pathE, pathA, sliceRes, evO, etaL, storeEl, loadEl, flatL, flatLs, flatB, leafD, leafDs, dataB, ownO, sameO, isStruct, aggOk, leafAt, srcOf, joinB, joinOk, appRes, builtinRes, loadHy, eqCs, lvsOf, opRes, nilRes, guardOf, csz, ksz, unwd, dstOk, putS, vcK, stepD, vcD, growP, rdCall, convP, rn, entV, entVs, entR, entO, entH, hlts, domH, entA, entL, ent, itVal, hsV, hsVs, itSlots, itBoxes, dropL, hsL, hsA, onlyR, gcH, gcA, itReach, itLay, itSt, mr, mrs, itRho, itOk, introB, introBs, introR, introX, introT, introTs, lkAll, numb, resMs, retOk, mtTy, bxCs, mtSls, mtHs, finFr, finOf, SV.lt, SV.lts, IntKind.min, IntKind.max, IntKind.signed, IntKind.bits, LIM, ty2, T2_sz, T2_pty, T2, ty3, T3_sz, T3_pty, T3, ty4, T4_sz, T4_pty, T4, ty5, T5_sz, T5_pty, T5, ty6, T6_sz, T6_pty, T6, ty7, T7_sz, T7_pty, T7, ty8, T8_sz, T8_pty, T8, ty9, T9_sz, T9_pty, T9, ty10, T10_sz, T10_pty, T10, ty11, T11_sz, T11_pty, T11, ty12, T12_sz, T12_pty, T12, ty13, T13_sz, T13_pty, T13, ty14, T14_sz, T14_pty, T14, ty15, T15_sz, T15_pty, T15, ty16, T16_sz, T16_pty, T16, ty17, T17_sz, T17_pty, T17, ty18, T18_sz, T18_pty, T18, ty19, T19_sz, T19_pty, T19, ty21, T21_sz, T21_pty, T21, ty22, T22_sz, T22_pty, T22, ty23, T23_sz, T23_pty, T23, ty24, T24_sz, T24_pty, T24, ty25, T25_sz, T25_pty, T25, ty34, T34_sz, T34_pty, T34, ty35, T35_sz, T35_pty, T35, ty36, T36_sz, T36_pty, T36, ty37, T37_sz, T37_pty, T37, ty39, T39_sz, T39_pty, T39, ty40, T40_sz, T40_pty, T40, ty41, T41_sz, T41_pty, T41, ty42, T42_sz, T42_pty, T42, ty53, T53_sz, T53_pty, T53, ty54, T54_sz, T54_pty, T54, ty59, T59_sz, T59_pty, T59, ty69, T69_sz, T69_pty, T69, ty70, T70_sz, T70_pty, T70, ty93, T93_sz, T93_pty, T93, ty104, T104_sz, T104_pty, T104, ty105, T105_sz, T105_pty, T105, ty118, T118_sz, T118_pty, T118, ty119, T119_sz, T119_pty, T119, ty121, T121_sz, T121_pty, T121, ty122, T122_sz, T122_pty, T122, ty124, T124_sz, T124_pty, T124, ty125, T125_sz, T125_pty, T125, ty126, T126_sz, T126_pty, T126, ty128, T128_sz, T128_pty, T128, ty131, T131_sz, T131_pty, T131, ty136, T136_sz, T136_pty, T136, ty137, T137_sz, T137_pty, T137, ty150, T150_sz, T150_pty, T150, ty151, T151_sz, T151_pty, T151, ty152, T152_sz, T152_pty, T152, ty154, T154_sz, T154_pty, T154, ty155, T155_sz, T155_pty, T155, ty174, T174_sz, T174_pty, T174, ty177, T177_sz, T177_pty, T177, ty178, T178_sz, T178_pty, T178, ty180, T180_sz, T180_pty, T180, ty183, T183_sz, T183_pty, T183, ty185, T185_sz, T185_pty, T185, ty186, T186_sz, T186_pty, T186, ty188, T188_sz, T188_pty, T188, ty189, T189_sz, T189_pty, T189, ty201, T201_sz, T201_pty, T201, ty203, T203_sz, T203_pty, T203, ty204, T204_sz, T204_pty, T204, ty205, T205_sz, T205_pty, T205, ty212, T212_sz, T212_pty, T212, ty219, T219_sz, T219_pty, T219, ty222, T222_sz, T222_pty, T222, ty225, T225_sz, T225_pty, T225, ty226, T226_sz, T226_pty, T226, ty230, T230_sz, T230_pty, T230, ty231, T231_sz, T231_pty, T231, ty233, T233_sz, T233_pty, T233, ty234, T234_sz, T234_pty, T234, c_IndexFunc_isLong1, c_isLong1]
    refine ⟨fun h4 => ⟨h4, fun _ => ⟨fun h5 => ?_, fun h5 => ?_⟩⟩, fun h4 => ?_⟩
    · rw [h3, drop_nth h4]; simp [idxGo, h5]
    · rw [wrap64 (by omega)]
      refine ⟨⟨i + 1, by omega, by omega, ?_⟩, by omega⟩
      rw [h3, drop_nth h4]; simp [idxGo, h5]
    · rw [h3, List.drop_eq_nil_of_le h4]; rfl

def c_ContainsFunc_isLong1 : FSpec := ⟨[(.rd, .list (.int .i64)), (.rd, .fn 93 [])], [.bool], true, fun ps => True, fun ps => [.bool ((nth ps 0).L.any (fun e => longN e.I))], fun _ => []⟩
theorem k_ContainsFunc_isLong1 : FnOk Try.prog 92 c_ContainsFunc_isLong1 := by
  refine fn_mk [0, 1, 4] [.tmp 4] (env_cons (cs := [93]) k_IndexFunc_isLong1 (env_nil (tyTab_ok []))) mixed Try.func92 rfl (by decide) rfl (by decide) rfl ?_
  intro ps hT hpre W hW
  simp only [c_ContainsFunc_isLong1, TyA, Ty, Tys] at hT hpre
  obtain ⟨_, _, rfl, ⟨es, rfl, he, hes⟩, _, _, rfl, ⟨_, rfl, rfl⟩, rfl⟩ := hT
  refine hW.vc [] _ _ ?_
  simp [-List.getD_eq_getElem?_getD, nth_fold, nth_zero, nth_succ, pv_I, pv_B, pv_S, pv_L, pv_A, pv_at, lv_int, lv_bool, lv_str, lv_list, lv_agg, PTy.leaves, PTy.wd, inR, TI.sz, TI.pty, lk, set1, memB, anyB, kill, strike, stillH, unpath, still, prom, proms, dpB, dpAll, ndB, isNil, shOk, takeIn, takeOk, St.slot, ofConst1, ofConsts, ofConst, St.ev, SV.cells, SV.ofCells, SV.leafB, leafAll, fixL, zeroSV, zeroSVs, zeroLf, zeroLfs, zeroPV, resL, resLs, resB, resBs, resT, resTs, resEs, introL, noP, elP, introV, introVs, packV, binI, binS, imp, evs, closes, findFn, slsOf, slsAll, argLs, argsLs, pathOf, rdHs1, rdHsL, rdHs, rdsHs, rdOk, lendOk, backL, backs, ownersOf, allRd, soleMt, firstP, pthJs, putLfs, callRd, callPt, callOw, callOwn, callRes, idxs, oprs, fillSV, partsOk, convRes, viewE, viewA, pathE, pathA, sliceRes, evO, etaL, storeEl, loadEl, flatL, flatLs, flatB, leafD, leafDs, dataB, ownO, sameO, isStruct, aggOk, leafAt, srcOf, joinB, joinOk, appRes, builtinRes, loadHy, eqCs, lvsOf, opRes, nilRes, guardOf, csz, ksz, unwd, dstOk, putS, vcK, stepD, vcD, growP, rdCall, convP, rn, entV, entVs, entR, entO, entH, hlts, domH, entA, entL, ent, itVal, hsV, hsVs, itSlots, itBoxes, dropL, hsL, hsA, onlyR, gcH, gcA, itReach, itLay, itSt, mr, mrs, itRho, itOk, introB, introBs, introR, introX, introT, introTs, lkAll, numb, resMs, retOk, mtTy, bxCs, mtSls, mtHs, finFr, finOf, SV.lt, SV.lts, IntKind.min, IntKind.max, IntKind.signed, IntKind.bits, LIM, ty2, T2_sz, T2_pty, T2, ty3, T3_sz, T3_pty, T3, ty4, T4_sz, T4_pty, T4, ty5, T5_sz, T5_pty, T5, ty6, T6_sz, T6_pty, T6, ty7, T7_sz, T7_pty, T7, ty8, T8_sz, T8_pty, T8, ty9, T9_sz, T9_pty, T9, ty10, T10_sz, T10_pty, T10, ty11, T11_sz, T11_pty, T11, ty12, T12_sz, T12_pty, T12, ty13, T13_sz, T13_pty, T13, ty14, T14_sz, T14_pty, T14, ty15, T15_sz, T15_pty, T15, ty16, T16_sz, T16_pty, T16, ty17, T17_sz, T17_pty, T17, ty18, T18_sz, T18_pty, T18, ty19, T19_sz, T19_pty, T19, ty21, T21_sz, T21_pty, T21, ty22, T22_sz, T22_pty, T22, ty23, T23_sz, T23_pty, T23, ty24, T24_sz, T24_pty, T24, ty25, T25_sz, T25_pty, T25, ty34, T34_sz, T34_pty, T34, ty35, T35_sz, T35_pty, T35, ty36, T36_sz, T36_pty, T36, ty37, T37_sz, T37_pty, T37, ty39, T39_sz, T39_pty, T39, ty40, T40_sz, T40_pty, T40, ty41, T41_sz, T41_pty, T41, ty42, T42_sz, T42_pty, T42, ty53, T53_sz, T53_pty, T53, ty54, T54_sz, T54_pty, T54, ty59, T59_sz, T59_pty, T59, ty69, T69_sz, T69_pty, T69, ty70, T70_sz, T70_pty, T70, ty93, T93_sz, T93_pty, T93, ty104, T104_sz, T104_pty, T104, ty105, T105_sz, T105_pty, T105, ty118, T118_sz, T118_pty, T118, ty119, T119_sz, T119_pty, T119, ty121, T121_sz, T121_pty, T121, ty122, T122_sz, T122_pty, T122, ty124, T124_sz, T124_pty, T124, ty125, T125_sz, T125_pty, T125, ty126, T126_sz, T126_pty, T126, ty128, T128_sz, T128_pty, T128, ty131, T131_sz, T131_pty, T131, ty136, T136_sz, T136_pty, T136, ty137, T137_sz, T137_pty, T137, ty150, T150_sz, T150_pty, T150, ty151, T151_sz, T151_pty, T151, ty152, T152_sz, T152_pty, T152, ty154, T154_sz, T154_pty, T154, ty155, T155_sz, T155_pty, T155, ty174, T174_sz, T174_pty, T174, ty177, T177_sz, T177_pty, T177, ty178, T178_sz, T178_pty, T178, ty180, T180_sz, T180_pty, T180, ty183, T183_sz, T183_pty, T183, ty185, T185_sz, T185_pty, T185, ty186, T186_sz, T186_pty, T186, ty188, T188_sz, T188_pty, T188, ty189, T189_sz, T189_pty, T189, ty201, T201_sz, T201_pty, T201, ty203, T203_sz, T203_pty, T203, ty204, T204_sz, T204_pty, T204, ty205, T205_sz, T205_pty, T205, ty212, T212_sz, T212_pty, T212, ty219, T219_sz, T219_pty, T219, ty222, T222_sz, T222_pty, T222, ty225, T225_sz, T225_pty, T225, ty226, T226_sz, T226_pty, T226, ty230, T230_sz, T230_pty, T230, ty231, T231_sz, T231_pty, T231, ty233, T233_sz, T233_pty, T233, ty234, T234_sz, T234_pty, T234, c_ContainsFunc_isLong1, c_IndexFunc_isLong1]
  exact idxGo_any (fun e => longN e.I) es 0

def c_isLong : FSpec := ⟨[(.rd, .list (.int .i64))], [.bool], true, fun _ => True, fun ps => [.bool ((nth ps 0).L.any (fun e => longN e.I))], fun _ => []⟩
theorem k_isLong : FnOk Try.prog 48 c_isLong := by
  refine fn_mk [0, 2] [.tmp 2] (env_cons (cs := [93]) k_ContainsFunc_isLong1 (env_nil (tyTab_ok []))) mixed Try.func48 rfl (by decide) rfl (by decide) rfl ?_
  intro ps hT hpre W hW
  simp only [c_isLong, TyA, Ty, Tys] at hT hpre
  obtain ⟨_, _, rfl, ⟨es, rfl, hes, tes⟩, rfl⟩ := hT
  refine hW.vc [] _ _ ?_
  simp [-List.getD_eq_getElem?_getD, nth_fold, nth_zero, nth_succ, pv_I, pv_B, pv_S, pv_L, pv_A, pv_at, lv_int, lv_bool, lv_str, lv_list, lv_agg, PTy.leaves, PTy.wd, inR, TI.sz, TI.pty, lk, set1, memB, anyB, kill, strike, stillH, unpath, still, prom, proms, dpB, dpAll, ndB, isNil, shOk, takeIn, takeOk, St.slot, ofConst1, ofConsts, ofConst, St.ev, SV.cells, SV.ofCells, SV.leafB, leafAll, fixL, zeroSV, zeroSVs, zeroLf, zeroLfs, zeroPV, resL, resLs, resB, resBs, resT, resTs, resEs, introL, noP, elP, introV, introVs, packV, binI, binS, imp, evs, closes, findFn, slsOf, slsAll, argLs, argsLs, pathOf, rdHs1, rdHsL, rdHs, rdsHs, rdOk, lendOk, backL, backs, ownersOf, allRd, soleMt, firstP, pthJs, putLfs, callRd, callPt, callOw, callOwn, callRes, idxs, oprs, fillSV, partsOk, convRes, viewE, viewA, pathE, pathA, sliceRes, evO, etaL, storeEl, loadEl, flatL, flatLs, flatB, leafD, leafDs, dataB, ownO, sameO, isStruct, aggOk, leafAt, srcOf, joinB, joinOk, appRes, builtinRes, loadHy, eqCs, lvsOf, opRes, nilRes, guardOf, csz, ksz, unwd, dstOk, putS, vcK, stepD, vcD, growP, rdCall, convP, rn, entV, entVs, entR, entO, entH, hlts, domH, entA, entL, ent, itVal, hsV, hsVs, itSlots, itBoxes, dropL, hsL, hsA, onlyR, gcH, gcA, itReach, itLay, itSt, mr, mrs, itRho, itOk, introB, introBs, introR, introX, introT, introTs, lkAll, numb, resMs, retOk, mtTy, bxCs, mtSls, mtHs, finFr, finOf, SV.lt, SV.lts, IntKind.min, IntKind.max, IntKind.signed, IntKind.bits, LIM, ty2, T2_sz, T2_pty, T2, ty3, T3_sz, T3_pty, T3, ty4, T4_sz, T4_pty, T4, ty5, T5_sz, T5_pty, T5, ty6, T6_sz, T6_pty, T6, ty7, T7_sz, T7_pty, T7, ty8, T8_sz, T8_pty, T8, ty9, T9_sz, T9_pty, T9, ty10, T10_sz, T10_pty, T10, ty11, T11_sz, T11_pty, T11, ty12, T12_sz, T12_pty, T12, ty13, T13_sz, T13_pty, T13, ty14, T14_sz, T14_pty, T14, ty15, T15_sz, T15_pty, T15, ty16, T16_sz, T16_pty, T16, ty17, T17_sz, T17_pty, T17, ty18, T18_sz, T18_pty, T18, ty19, T19_sz, T19_pty, T19, ty21, T21_sz, T21_pty, T21, ty22, T22_sz, T22_pty, T22, ty23, T23_sz, T23_pty, T23, ty24, T24_sz, T24_pty, T24, ty25, T25_sz, T25_pty, T25, ty34, T34_sz, T34_pty, T34, ty35, T35_sz, T35_pty, T35, ty36, T36_sz, T36_pty, T36, ty37, T37_sz, T37_pty, T37, ty39, T39_sz, T39_pty, T39, ty40, T40_sz, T40_pty, T40, ty41, T41_sz, T41_pty, T41, ty42, T42_sz, T42_pty, T42, ty53, T53_sz, T53_pty, T53, ty54, T54_sz, T54_pty, T54, ty59, T59_sz, T59_pty, T59, ty69, T69_sz, T69_pty, T69, ty70, T70_sz, T70_pty, T70, ty93, T93_sz, T93_pty, T93, ty104, T104_sz, T104_pty, T104, ty105, T105_sz, T105_pty, T105, ty118, T118_sz, T118_pty, T118, ty119, T119_sz, T119_pty, T119, ty121, T121_sz, T121_pty, T121, ty122, T122_sz, T122_pty, T122, ty124, T124_sz, T124_pty, T124, ty125, T125_sz, T125_pty, T125, ty126, T126_sz, T126_pty, T126, ty128, T128_sz, T128_pty, T128, ty131, T131_sz, T131_pty, T131, ty136, T136_sz, T136_pty, T136, ty137, T137_sz, T137_pty, T137, ty150, T150_sz, T150_pty, T150, ty151, T151_sz, T151_pty, T151, ty152, T152_sz, T152_pty, T152, ty154, T154_sz, T154_pty, T154, ty155, T155_sz, T155_pty, T155, ty174, T174_sz, T174_pty, T174, ty177, T177_sz, T177_pty, T177, ty178, T178_sz, T178_pty, T178, ty180, T180_sz, T180_pty, T180, ty183, T183_sz, T183_pty, T183, ty185, T185_sz, T185_pty, T185, ty186, T186_sz, T186_pty, T186, ty188, T188_sz, T188_pty, T188, ty189, T189_sz, T189_pty, T189, ty201, T201_sz, T201_pty, T201, ty203, T203_sz, T203_pty, T203, ty204, T204_sz, T204_pty, T204, ty205, T205_sz, T205_pty, T205, ty212, T212_sz, T212_pty, T212, ty219, T219_sz, T219_pty, T219, ty222, T222_sz, T222_pty, T222, ty225, T225_sz, T225_pty, T225, ty226, T226_sz, T226_pty, T226, ty230, T230_sz, T230_pty, T230, ty231, T231_sz, T231_pty, T231, ty233, T233_sz, T233_pty, T233, ty234, T234_sz, T234_pty, T234, c_isLong, c_ContainsFunc_isLong1]

def rvV (b : List UInt8) : VW × Int := if 65536 < b.length then (VW.no, 2) else if (rvI b).2 = true then ((rvI b).1, 0) else (VW.no, 3)
def c_iReadView : FSpec := ⟨[(.rd, .list (.int .u8))], [.agg [.int .i64, .int .i64, .bool, .int .i64, .int .i64, .list (.agg [.int .i64, .str])], .int .i64], true, fun _ => True, fun ps => [(rvV (pvBytes (nth ps 0).L)).1.pv, .int .i64 (rvV (pvBytes (nth ps 0).L)).2], fun _ => []⟩
theorem k_iReadView : FnOk Try.prog 10 c_iReadView := by
  refine fn_mk [0, 2, 3, 4, 5] [.cell 2 25, .tmp 3] (env_cons (cs := []) k_readView (env_cons (cs := []) k_isLong (env_nil (tyTab_ok [])))) mixed Try.func10 rfl (by decide) rfl (by decide) rfl ?_
  intro ps hT hpre W hW
  simp only [c_iReadView, TyA, Ty, Tys] at hT hpre
  obtain ⟨_, _, rfl, ⟨es, rfl, hes, tes⟩, rfl⟩ := hT
  have hp : (pvBytes es).length = es.length := by simp [pvBytes]
  refine hW.vc [] _ _ ?_
  simp [-List.getD_eq_getElem?_getD, nth_fold, nth_zero, nth_succ, pv_I, pv_B, pv_S, pv_L, pv_A, pv_at, lv_int, lv_bool, lv_str, lv_list, lv_agg, PTy.leaves, PTy.wd, inR, TI.sz, TI.pty, lk, set1, memB, anyB, kill, strike, stillH, unpath, still, prom, proms, dpB, dpAll, ndB, isNil, shOk, takeIn, takeOk, St.slot, ofConst1, ofConsts, ofConst, St.ev, SV.cells, SV.ofCells, SV.leafB, leafAll, fixL, zeroSV, zeroSVs, zeroLf, zeroLfs, zeroPV, resL, resLs, resB, resBs, resT, resTs, resEs, introL, noP, elP, introV, introVs, packV, binI, binS, imp, evs, closes, findFn, slsOf, slsAll, argLs, argsLs, pathOf, rdHs1, rdHsL, rdHs, rdsHs, rdOk, lendOk, backL, backs, ownersOf, allRd, soleMt, firstP, pthJs, putLfs, callRd, callPt, callOw, callOwn, callRes, idxs, oprs, fillSV, partsOk, convRes, viewE, viewA, pathE, pathA, sliceRes, evO, etaL, storeEl, loadEl, flatL, flatLs, flatB, leafD, leafDs, dataB, ownO, sameO, isStruct, aggOk, leafAt, srcOf, joinB, joinOk, appRes, builtinRes, loadHy, eqCs, lvsOf, opRes, nilRes, guardOf, csz, ksz, unwd, dstOk, putS, vcK, stepD, vcD, growP, rdCall, convP, rn, entV, entVs, entR, entO, entH, hlts, domH, entA, entL, ent, itVal, hsV, hsVs, itSlots, itBoxes, dropL, hsL, hsA, onlyR, gcH, gcA, itReach, itLay, itSt, mr, mrs, itRho, itOk, introB, introBs, introR, introX, introT, introTs, lkAll, numb, resMs, retOk, mtTy, bxCs, mtSls, mtHs, finFr, finOf, SV.lt, SV.lts, IntKind.min, IntKind.max, IntKind.signed, IntKind.bits, LIM, ty2, T2_sz, T2_pty, T2, ty3, T3_sz, T3_pty, T3, ty4, T4_sz, T4_pty, T4, ty5, T5_sz, T5_pty, T5, ty6, T6_sz, T6_pty, T6, ty7, T7_sz, T7_pty, T7, ty8, T8_sz, T8_pty, T8, ty9, T9_sz, T9_pty, T9, ty10, T10_sz, T10_pty, T10, ty11, T11_sz, T11_pty, T11, ty12, T12_sz, T12_pty, T12, ty13, T13_sz, T13_pty, T13, ty14, T14_sz, T14_pty, T14, ty15, T15_sz, T15_pty, T15, ty16, T16_sz, T16_pty, T16, ty17, T17_sz, T17_pty, T17, ty18, T18_sz, T18_pty, T18, ty19, T19_sz, T19_pty, T19, ty21, T21_sz, T21_pty, T21, ty22, T22_sz, T22_pty, T22, ty23, T23_sz, T23_pty, T23, ty24, T24_sz, T24_pty, T24, ty25, T25_sz, T25_pty, T25, ty34, T34_sz, T34_pty, T34, ty35, T35_sz, T35_pty, T35, ty36, T36_sz, T36_pty, T36, ty37, T37_sz, T37_pty, T37, ty39, T39_sz, T39_pty, T39, ty40, T40_sz, T40_pty, T40, ty41, T41_sz, T41_pty, T41, ty42, T42_sz, T42_pty, T42, ty53, T53_sz, T53_pty, T53, ty54, T54_sz, T54_pty, T54, ty59, T59_sz, T59_pty, T59, ty69, T69_sz, T69_pty, T69, ty70, T70_sz, T70_pty, T70, ty93, T93_sz, T93_pty, T93, ty104, T104_sz, T104_pty, T104, ty105, T105_sz, T105_pty, T105, ty118, T118_sz, T118_pty, T118, ty119, T119_sz, T119_pty, T119, ty121, T121_sz, T121_pty, T121, ty122, T122_sz, T122_pty, T122, ty124, T124_sz, T124_pty, T124, ty125, T125_sz, T125_pty, T125, ty126, T126_sz, T126_pty, T126, ty128, T128_sz, T128_pty, T128, ty131, T131_sz, T131_pty, T131, ty136, T136_sz, T136_pty, T136, ty137, T137_sz, T137_pty, T137, ty150, T150_sz, T150_pty, T150, ty151, T151_sz, T151_pty, T151, ty152, T152_sz, T152_pty, T152, ty154, T154_sz, T154_pty, T154, ty155, T155_sz, T155_pty, T155, ty174, T174_sz, T174_pty, T174, ty177, T177_sz, T177_pty, T177, ty178, T178_sz, T178_pty, T178, ty180, T180_sz, T180_pty, T180, ty183, T183_sz, T183_pty, T183, ty185, T185_sz, T185_pty, T185, ty186, T186_sz, T186_pty, T186, ty188, T188_sz, T188_pty, T188, ty189, T189_sz, T189_pty, T189, ty201, T201_sz, T201_pty, T201, ty203, T203_sz, T203_pty, T203, ty204, T204_sz, T204_pty, T204, ty205, T205_sz, T205_pty, T205, ty212, T212_sz, T212_pty, T212, ty219, T219_sz, T219_pty, T219, ty222, T222_sz, T222_pty, T222, ty225, T225_sz, T225_pty, T225, ty226, T226_sz, T226_pty, T226, ty230, T230_sz, T230_pty, T230, ty231, T231_sz, T231_pty, T231, ty233, T233_sz, T233_pty, T233, ty234, T234_sz, T234_pty, T234, c_iReadView, c_isLong, c_readView, VW.pv]
  rw [longN, decide_eq_true_iff, decide_eq_false_iff_not]
  refine fun _ => ⟨fun h => ?_, fun h => ⟨fun h2 => ?_, fun h2 => ?_⟩⟩
  · rw [rvV, if_pos (by omega)]; simp [VW.no]
  · rw [rvV, if_neg (by omega), if_neg (by simp [h2])]; simp [VW.no]
  · rw [rvV, if_neg (by omega), if_pos h2]; simp

def c_sReadView : FSpec := { c_iReadView with }
theorem k_sReadView : FnOk Try.prog 8 c_sReadView := by
  refine fn_mk [0, 2, 3, 4, 5] [.cell 2 25, .tmp 3] (env_cons (cs := []) k_l11Read (env_nil (tyTab_ok []))) mixed Try.func8 rfl (by decide) rfl (by decide) rfl ?_
  intro ps hT hpre W hW
  simp only [c_sReadView, TyA, Ty, Tys] at hT hpre
  simp only [c_iReadView, TyA, Ty, Tys] at hT hpre
  obtain ⟨_, _, rfl, ⟨es, rfl, hes, tes⟩, rfl⟩ := hT
  have hp : (pvBytes es).length = es.length := by simp [pvBytes]
  refine hW.vc [] _ _ ?_
  simp [-List.getD_eq_getElem?_getD, nth_fold, nth_zero, nth_succ, pv_I, pv_B, pv_S, pv_L, pv_A, pv_at, lv_int, lv_bool, lv_str, lv_list, lv_agg, PTy.leaves, PTy.wd, inR, TI.sz, TI.pty, lk, set1, memB, anyB, kill, strike, stillH, unpath, still, prom, proms, dpB, dpAll, ndB, isNil, shOk, takeIn, takeOk, St.slot, ofConst1, ofConsts, ofConst, St.ev, SV.cells, SV.ofCells, SV.leafB, leafAll, fixL, zeroSV, zeroSVs, zeroLf, zeroLfs, zeroPV, resL, resLs, resB, resBs, resT, resTs, resEs, introL, noP, elP, introV, introVs, packV, binI, binS, imp, evs, closes, findFn, slsOf, slsAll, argLs, argsLs, pathOf, rdHs1, rdHsL, rdHs, rdsHs, rdOk, lendOk, backL, backs, ownersOf, allRd, soleMt, firstP, pthJs, putLfs, callRd, callPt, callOw, callOwn, callRes, idxs, oprs, fillSV, partsOk, convRes, viewE, viewA, pathE, pathA, sliceRes, evO, etaL, storeEl, loadEl, flatL, flatLs, flatB, leafD, leafDs, dataB, ownO, sameO, isStruct, aggOk, leafAt, srcOf, joinB, joinOk, appRes, builtinRes, loadHy, eqCs, lvsOf, opRes, nilRes, guardOf, csz, ksz, unwd, dstOk, putS, vcK, stepD, vcD, growP, rdCall, convP, rn, entV, entVs, entR, entO, entH, hlts, domH, entA, entL, ent, itVal, hsV, hsVs, itSlots, itBoxes, dropL, hsL, hsA, onlyR, gcH, gcA, itReach, itLay, itSt, mr, mrs, itRho, itOk, introB, introBs, introR, introX, introT, introTs, lkAll, numb, resMs, retOk, mtTy, bxCs, mtSls, mtHs, finFr, finOf, SV.lt, SV.lts, IntKind.min, IntKind.max, IntKind.signed, IntKind.bits, LIM, ty2, T2_sz, T2_pty, T2, ty3, T3_sz, T3_pty, T3, ty4, T4_sz, T4_pty, T4, ty5, T5_sz, T5_pty, T5, ty6, T6_sz, T6_pty, T6, ty7, T7_sz, T7_pty, T7, ty8, T8_sz, T8_pty, T8, ty9, T9_sz, T9_pty, T9, ty10, T10_sz, T10_pty, T10, ty11, T11_sz, T11_pty, T11, ty12, T12_sz, T12_pty, T12, ty13, T13_sz, T13_pty, T13, ty14, T14_sz, T14_pty, T14, ty15, T15_sz, T15_pty, T15, ty16, T16_sz, T16_pty, T16, ty17, T17_sz, T17_pty, T17, ty18, T18_sz, T18_pty, T18, ty19, T19_sz, T19_pty, T19, ty21, T21_sz, T21_pty, T21, ty22, T22_sz, T22_pty, T22, ty23, T23_sz, T23_pty, T23, ty24, T24_sz, T24_pty, T24, ty25, T25_sz, T25_pty, T25, ty34, T34_sz, T34_pty, T34, ty35, T35_sz, T35_pty, T35, ty36, T36_sz, T36_pty, T36, ty37, T37_sz, T37_pty, T37, ty39, T39_sz, T39_pty, T39, ty40, T40_sz, T40_pty, T40, ty41, T41_sz, T41_pty, T41, ty42, T42_sz, T42_pty, T42, ty53, T53_sz, T53_pty, T53, ty54, T54_sz, T54_pty, T54, ty59, T59_sz, T59_pty, T59, ty69, T69_sz, T69_pty, T69, ty70, T70_sz, T70_pty, T70, ty93, T93_sz, T93_pty, T93, ty104, T104_sz, T104_pty, T104, ty105, T105_sz, T105_pty, T105, ty118, T118_sz, T118_pty, T118, ty119, T119_sz, T119_pty, T119, ty121, T121_sz, T121_pty, T121, ty122, T122_sz, T122_pty, T122, ty124, T124_sz, T124_pty, T124, ty125, T125_sz, T125_pty, T125, ty126, T126_sz, T126_pty, T126, ty128, T128_sz, T128_pty, T128, ty131, T131_sz, T131_pty, T131, ty136, T136_sz, T136_pty, T136, ty137, T137_sz, T137_pty, T137, ty150, T150_sz, T150_pty, T150, ty151, T151_sz, T151_pty, T151, ty152, T152_sz, T152_pty, T152, ty154, T154_sz, T154_pty, T154, ty155, T155_sz, T155_pty, T155, ty174, T174_sz, T174_pty, T174, ty177, T177_sz, T177_pty, T177, ty178, T178_sz, T178_pty, T178, ty180, T180_sz, T180_pty, T180, ty183, T183_sz, T183_pty, T183, ty185, T185_sz, T185_pty, T185, ty186, T186_sz, T186_pty, T186, ty188, T188_sz, T188_pty, T188, ty189, T189_sz, T189_pty, T189, ty201, T201_sz, T201_pty, T201, ty203, T203_sz, T203_pty, T203, ty204, T204_sz, T204_pty, T204, ty205, T205_sz, T205_pty, T205, ty212, T212_sz, T212_pty, T212, ty219, T219_sz, T219_pty, T219, ty222, T222_sz, T222_pty, T222, ty225, T225_sz, T225_pty, T225, ty226, T226_sz, T226_pty, T226, ty230, T230_sz, T230_pty, T230, ty231, T231_sz, T231_pty, T231, ty233, T233_sz, T233_pty, T233, ty234, T234_sz, T234_pty, T234, c_sReadView, c_l11Read, c_iReadView, c_iReadView, VW.pv]
  refine fun _ => ⟨fun h => ?_, fun h => ⟨by omega, fun h2 => ?_, fun h2 => ?_⟩⟩
  · rw [rvV, if_pos (by omega)]; simp [VW.no]
  · have h3 := rvS_rvI (b := pvBytes es) (by omega)
    rw [rvV, if_neg (by omega), if_neg (by rw [← h3.1, h2]; simp)]; simp [VW.no]
  · have h3 := rvS_rvI (b := pvBytes es) (by omega)
    have h4 : (rvI (pvBytes es)).2 = true := h3.1.symm.trans h2
    rw [rvV, if_neg (by omega), if_pos h4, h3.2 h4]; simp

end Go.Proofs.Ytmjjdfhpnckacab
