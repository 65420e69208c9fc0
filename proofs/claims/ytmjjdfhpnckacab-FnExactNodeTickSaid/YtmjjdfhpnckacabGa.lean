/-
  The law of a node's tick.
  Conditions: none.
-/
import Derived.Test.YtmjjdfhpnckacabFy
namespace Go.Proofs.Ytmjjdfhpnckacab
set_option maxRecDepth 100000
set_option linter.unusedSimpArgs false

theorem szN_each {n0 n1 n2 n3 n4 n5 n6 n7 : Int} {u : Bool} {es vs xs ms : List PV} {l : Int} (h : 0 ≤ l) (h2 : 0 ≤ szN [.int .i64 n0, .int .i64 n1, .int .i64 n2, .int .i64 n3, .int .i64 n4, .bool u, .list es, .int .i64 n5, .int .i64 n6, .int .i64 n7, .list vs, .list xs, .list ms] l) :
    (es.length : Int) ≤ l ∧ (vs.length : Int) ≤ l ∧ (xs.length : Int) ≤ l ∧ (ms.length : Int) ≤ l := by
  simp only [szN, nth_zero, nth_succ, pv_L] at h2
  unfold szQ at h2
  have a1 := szGs_le rowLen_nn (es := es) h
  split at h2
  · omega
  · rename_i q1
    have a2 := szR1_le (n := vs.length) (Int.not_lt.1 q1)
    split at h2
    · omega
    · rename_i q2
      have a3 := szR1_le (n := xs.length) (Int.not_lt.1 q2)
      split at h2
      · omega
      · rename_i q3
        have a4 := szR1_le (n := ms.length) (Int.not_lt.1 q3)
        omega
theorem sumMs_le {B : Int} : ∀ {es : List PV} {k : Int}, (∀ e ∈ es, msN e ≤ B) → sumMs k es ≤ k + B * es.length
  | [], k, h => by simp [sumMs]
  | e :: es, k, h => by
    have h1 := sumMs_le (es := es) (k := k + msN e) fun x hx => h x (by simp [hx])
    have h2 := h e (by simp)
    simp only [sumMs, List.length_cons, Int.natCast_add, Int.mul_add]
    omega
theorem sumMs_marks : ∀ (es : List PV) (k k' : Int), sumMs k' (markMs k es) = sumMs k' es
  | [], k, k' => rfl
  | e :: es, k, k' => by simp only [markMs, sumMs, msN_mk]; exact sumMs_marks es _ _
theorem repAll_ms (n : ND) : ∀ k, ∀ e ∈ repAll n k, msN e ≤ 8 + 2 * n.log.length
  | 0, e, he => by simp [repAll] at he
  | k + 1, e, he => by
    rw [repAll, List.mem_append] at he
    rcases he with he | he
    · exact repAll_ms n k e he
    · split at he
      · simp at he
      · simp only [List.mem_singleton] at he
        subst he
        simp only [msN, repV, repM, nth_zero, nth_succ, pv_A, pv_L, List.length_drop]
        omega
theorem voteAll_ms (n : ND) : ∀ k, ∀ e ∈ voteAll n k, msN e ≤ 8
  | 0, e, he => by simp [voteAll] at he
  | k + 1, e, he => by
    rw [voteAll, List.mem_append] at he
    rcases he with he | he
    · exact voteAll_ms n k e he
    · split at he
      · simp at he
      · simp only [List.mem_singleton] at he
        subst he
        simp [msN, voteM, nth_zero, nth_succ, pv_A, pv_L]
theorem vo_len {n : Int} : ∀ {es : List PV} {p : Int}, voB n p es = true → p ≤ n - 1 → p + es.length ≤ n - 1
  | [], p, h, hp => by simp; omega
  | e :: es, p, h, hp => by
    simp only [voB, inB, Bool.and_eq_true, decide_eq_true_eq] at h
    have := vo_len h.2 (by omega)
    simp only [List.length_cons]
    omega
/-- What a tick gives is small. -/
def smallR (r : ND × List PV) : Prop := r.1.log.length ≤ 61 ∧ r.1.vs.length ≤ 5 ∧ r.1.nx.length ≤ 5 ∧ r.1.ms.length ≤ 5 ∧ ∀ k, sumMs k r.2 ≤ k + 1000
theorem small_nil {n : ND} (h1 : n.log.length ≤ 61) (h2 : n.vs.length ≤ 5) (h3 : n.nx.length ≤ 5) (h4 : n.ms.length ≤ 5) : smallR (n, []) := ⟨h1, h2, h3, h4, fun k => by simp [sumMs]; omega⟩
theorem small_rep {n : ND} {k : Nat} (hk : k ≤ 5) (h1 : n.log.length ≤ 61) (h2 : n.vs.length ≤ 5) (h3 : n.nx.length ≤ 5) (h4 : n.ms.length ≤ 5) : smallR (n, repAll n k) := by
  refine ⟨h1, h2, h3, h4, fun j => ?_⟩
  have a1 := sumMs_le (k := j) (B := 130) (fun e he => Int.le_trans (repAll_ms n k e he) (by omega))
  have a2 := repAll_len n k
  show sumMs j (repAll n k) ≤ _
  omega
theorem tick_small {n : ND} {d : Int} (h : NdF n) : smallR (tickN n d) := by
  have f1 := h.n1; have f5 := h.n5; have l6 := h.l6; have nx := h.nx; have ms := h.ms
  have vl := vo_len h.vo (by omega)
  by_cases q1 : n.role = 2
  · by_cases q2 : (elaN n).ela < 2
    · rw [tick_a q1 q2]
      exact small_nil (n := elaN n) (by show n.log.length ≤ 61; omega) (by show n.vs.length ≤ 5; omega) (by show n.nx.length ≤ 5; omega) (by show n.ms.length ≤ 5; omega)
    · rw [tick_b q1 q2]
      exact small_rep (by omega) (by show n.log.length ≤ 61; omega) (by show n.vs.length ≤ 5; omega) (by show n.nx.length ≤ 5; omega) (by show n.ms.length ≤ 5; omega)
  · by_cases q2 : (elaN n).ela < n.wt ∨ n.term = 1000
    · rw [tick_c q1 q2]
      exact small_nil (n := elaN n) (by show n.log.length ≤ 61; omega) (by show n.vs.length ≤ 5; omega) (by show n.nx.length ≤ 5; omega) (by show n.ms.length ≤ 5; omega)
    · by_cases q3 : n.nodes = 1
      · rw [tick_d q1 q2 q3]
        have a1 := leadL_len (n.term + 1) n.log
        refine small_rep (by omega) ?_ ?_ ?_ ?_
        · show (leadL (n.term + 1) n.log).length ≤ 61; omega
        · show [PV.int .i64 n.id].length ≤ 5; simp
        · show (List.replicate n.nodes.toNat _).length ≤ 5; rw [List.length_replicate]; omega
        · show (List.replicate n.nodes.toNat _).length ≤ 5; rw [List.length_replicate]; omega
      · rw [tick_e q1 q2 q3]
        refine ⟨?_, ?_, ?_, ?_, fun j => ?_⟩
        · show n.log.length ≤ 61; omega
        · show [PV.int .i64 n.id].length ≤ 5; simp
        · show n.nx.length ≤ 5; omega
        · show n.ms.length ≤ 5; omega
        · have a1 := sumMs_le (k := j) (B := 8) (voteAll_ms (standN n d) n.nodes.toNat)
          have a2 := voteAll_len (standN n d) n.nodes.toNat
          show sumMs j (voteAll (standN n d) n.nodes.toNat) ≤ _
          omega
theorem nt_small {n : ND} {d : Int} : smallR ((ntOf n d).1, (ntOf n d).2.1) := by
  unfold ntOf
  cases h : nodeB n with
  | false => exact small_nil (n := ND.no) (by decide) (by decide) (by decide) (by decide)
  | true =>
    have hF := nodeB_F h
    cases h2 : inB d 0 1000000 with
    | false => exact small_nil (n := ND.no) (by decide) (by decide) (by decide) (by decide)
    | true =>
      cases h3 : n.up with
      | false =>
        have f1 := hF.n1; have f5 := hF.n5; have l6 := hF.l6; have nx := hF.nx; have ms := hF.ms
        have vl := vo_len hF.vo (by omega)
        show smallR (n, [])
        exact small_nil (by omega) (by omega) (by omega) (by omega)
      | true => exact tick_small hF

def c_exNodeTick : FSpec := ⟨[(.rd, .agg [.int .i64, .int .i64, .int .i64, .int .i64, .int .i64, .bool, .list (.agg [.int .i64, .str]), .int .i64, .int .i64, .int .i64, .list (.int .i64), .list (.int .i64), .list (.int .i64)]), (.rd, .int .i64)], [.bool], true, fun _ => True, fun _ => [.bool true], fun _ => []⟩
theorem k_exNodeTick : FnOk Try.prog 4 c_exNodeTick := by
  refine fn_mk [0, 1, 2, 4, 5, 6, 7, 8, 9, 10, 11, 12, 13, 14, 15, 16, 17, 18] [.tmp 4] (env_cons (cs := []) k_heldMessageS (env_cons (cs := []) k_heldNode (env_cons (cs := []) k_markMessageS (env_cons (cs := []) k_markNode (env_cons (cs := []) k_eqMessageS (env_cons (cs := []) k_eqNode (env_cons (cs := []) k_iNodeTick (env_cons (cs := []) k_sNodeTick (env_cons (cs := []) k_toNode (env_cons (cs := []) k_szNode (env_nil (tyTab_ok [])))))))))))) mixed Try.func4 rfl (by decide) rfl (by decide) rfl ?_
  intro ps hT hpre W hW
  simp only [c_exNodeTick, TyA, Ty, Tys] at hT hpre
  obtain ⟨_, _, rfl, ⟨_, rfl, _, _, rfl, ⟨n0, rfl, hn0⟩, _, _, rfl, ⟨n1, rfl, hn1⟩, _, _, rfl, ⟨n2, rfl, hn2⟩, _, _, rfl, ⟨n3, rfl, hn3⟩, _, _, rfl, ⟨n4, rfl, hn4⟩, _, _, rfl, ⟨u, rfl⟩, _, _, rfl, ⟨es, rfl, hes, tes⟩, _, _, rfl, ⟨n5, rfl, hn5⟩, _, _, rfl, ⟨n6, rfl, hn6⟩, _, _, rfl, ⟨n7, rfl, hn7⟩, _, _, rfl, ⟨vs, rfl, hvs, tvs⟩, _, _, rfl, ⟨xs, rfl, hxs, txs⟩, _, _, rfl, ⟨ms, rfl, hms, tms⟩, rfl⟩, _, _, rfl, ⟨d, rfl, hd⟩, rfl⟩ := hT
  have hs := nt_small (n := ⟨n0, n1, n2, n3, n4, u, es, n5, n6, n7, vs, xs, ms⟩) (d := d)
  refine hW.vc [(10, [], .take 0 <| .take 1 <| .alt 2 (.alt 3 (.take 4 <| .done) .stop) .stop)] _ _ ?_
  simp [-List.getD_eq_getElem?_getD, nth_fold, nth_zero, nth_succ, pv_I, pv_B, pv_S, pv_L, pv_A, pv_at, lv_int, lv_bool, lv_str, lv_list, lv_agg, PTy.leaves, PTy.wd, inR, TI.sz, TI.pty, lk, set1, memB, anyB, kill, strike, stillH, unpath, still, prom, proms, dpB, dpAll, ndB, isNil, shOk, takeIn, takeOk, St.slot, ofConst1, ofConsts, ofConst, St.ev, SV.cells, SV.ofCells, SV.leafB, leafAll, fixL, zeroSV, zeroSVs, zeroLf, zeroLfs, zeroPV, resL, resLs, resB, resBs, resT, resTs, resEs, introL, noP, elP, introV, introVs, packV, binI, binS, imp, evs, closes, findFn, slsOf, slsAll, argLs, argsLs, pathOf, rdHs1, rdHsL, rdHs, rdsHs, rdOk, lendOk, backL, backs, ownersOf, allRd, soleMt, firstP, callRd, callPt, callOw, callOwn, callRes, idxs, oprs, fillSV, partsOk, convRes, viewE, viewA, pathE, pathA, sliceRes, evO, etaL, storeEl, loadEl, flatL, flatLs, flatB, leafD, leafDs, dataB, ownO, sameO, isStruct, aggOk, leafAt, srcOf, joinB, joinOk, appRes, copyTo, copyRes, builtinRes, loadHy, eqCs, lvsOf, opRes, nilRes, guardOf, csz, ksz, unwd, dstOk, putS, vcK, vwCall, skipR, stepD, vcD, growP, rdCall, convP, rn, entV, entVs, entR, entO, entH, hlts, domH, entA, entL, ent, itVal, hsV, hsVs, itSlots, itBoxes, dropL, hsL, hsA, onlyR, gcH, gcA, itReach, itLay, itSt, mr, mrs, itRho, itOk, introB, introBs, introR, introX, introT, introTs, lkAll, numb, resMs, retOk, mtTy, bxCs, mtSls, mtHs, finFr, finOf, SV.lt, SV.lts, IntKind.min, IntKind.max, IntKind.signed, IntKind.bits, LIM, ty3, T3_sz, T3_pty, T3, ty4, T4_sz, T4_pty, T4, ty9, T9_sz, T9_pty, T9, ty34, T34_sz, T34_pty, T34, ty35, T35_sz, T35_pty, T35, ty37, T37_sz, T37_pty, T37, ty39, T39_sz, T39_pty, T39, ty41, T41_sz, T41_pty, T41, ty42, T42_sz, T42_pty, T42, ty54, T54_sz, T54_pty, T54, ty119, T119_sz, T119_pty, T119, ty128, T128_sz, T128_pty, T128, c_exNodeTick, c_szNode, c_toNode, c_sNodeTick, c_iNodeTick, c_eqNode, c_eqMessageS, c_markNode, c_markMessageS, c_heldNode, c_heldMessageS, ND.pv, ndOf, c_iNodeTick, eqNd_refl, eqMs_refl, heldN_mark, markR_len, markI_len, markMs_len, heldMs_mark, sumMs_marks]
  intro h1
  obtain ⟨h2, h3, h4, h5⟩ := szN_each (by omega) h1
  obtain ⟨r, hr⟩ : ∃ r, r = ntOf ⟨n0, n1, n2, n3, n4, u, es, n5, n6, n7, vs, xs, ms⟩ d := ⟨_, rfl⟩
  rw [← hr] at hs ⊢
  obtain ⟨b1, b2, b3, b4, b5⟩ := hs
  simp only at b1 b2 b3 b4 b5
  have c1 := b5 (1 + 2 * (r.1.log.length : Int) + r.1.vs.length + r.1.nx.length + r.1.ms.length)
  have c2 := sumMs_ge r.2.1 (1 + 2 * (r.1.log.length : Int) + r.1.vs.length + r.1.nx.length + r.1.ms.length)
  clear b5
  repeat' (first | refine And.intro ?_ ?_ | intro _)
  all_goals first | omega | decide +kernel | trace_state

end Go.Proofs.Ytmjjdfhpnckacab
