/-
  The contracts of the program's functions on nodes: a leader's start, a tick.
  Conditions: none.
-/
import Derived.Test.YtmjjdfhpnckacabFv
namespace Go.Proofs.Ytmjjdfhpnckacab
set_option maxRecDepth 100000
set_option linter.unusedSimpArgs false

/-- A leader's log. -/
def leadL (t : Int) (es : List PV) : List PV := if es.length < 60 then es ++ [.agg [.int .i64 t, .str []]] else es
def leadN (n : ND) : ND :=
  { n with role := 2, ela := 0, nx := List.replicate n.nodes.toNat (.int .i64 (n.log.length + 1)), ms := List.replicate n.nodes.toNat (.int .i64 0), log := leadL n.term n.log }
/-- A new leader. -/
def leadA (n : ND) : ND := { leadN n with com := advG (leadN n) (leadN n).log.length }
def leadOk (n : ND) : Prop := 1 ≤ n.nodes ∧ n.nodes ≤ 5 ∧ 0 ≤ n.com ∧ n.log.length ≤ 60
theorem leadL_len (t : Int) (es : List PV) : es.length ≤ (leadL t es).length ∧ (leadL t es).length ≤ es.length + 1 := by
  unfold leadL; split <;> simp
theorem nth_rep {x : PV} {n i : Nat} (h : i < n) : nth (List.replicate n x) i = x := by simp [nth, h]
theorem leadA_ok {n : ND} (h : leadOk n) : repsOk (leadA n) := by
  obtain ⟨h1, h2, h3, h4⟩ := h
  have h5 := leadL_len n.term n.log
  refine ⟨h1, h2, fun i hi => ?_⟩
  have hi' : (i : Int) < n.nodes := hi
  have e1 : (leadA n).nx = List.replicate n.nodes.toNat (.int .i64 (n.log.length + 1)) := rfl
  have e2 : (leadA n).log = leadL n.term n.log := rfl
  have e3 : (nth (leadA n).nx ((i : Int)).toNat).I = n.log.length + 1 := by rw [e1, nth_rep (by omega), pv_I]
  refine ⟨by omega, by rw [e1, List.length_replicate]; omega, by rw [e3]; omega, by rw [e3, e2]; omega, by rw [e2]; omega⟩

def c_lead : FSpec := ⟨[(.bx, .box [.int .i64, .int .i64, .int .i64, .int .i64, .int .i64, .bool, .list (.agg [.int .i64, .str]), .int .i64, .int .i64, .int .i64, .list (.int .i64), .list (.int .i64), .list (.int .i64)])], [.list (.agg [.int .i64, .int .i64, .int .i64, .int .i64, .int .i64, .int .i64, .int .i64, .bool, .list (.agg [.int .i64, .str])])], true, fun ps => leadOk (ndOf (nth ps 0).A), fun ps => [.list (repAll (leadA (ndOf (nth ps 0).A)) (nth (nth ps 0).A 1).I.toNat)],
  fun ps => [(leadA (ndOf (nth ps 0).A)).pv]⟩
theorem k_lead : FnOk Try.prog 108 c_lead := by
  refine fn_mk [0, 2] [.tmp 2] (env_cons (cs := []) k_replicateAll (env_cons (cs := []) k_advance (env_cons (cs := []) k_reset (env_nil (tyTab_ok []))))) mixed Try.func108 rfl (by decide) rfl (by decide) rfl ?_
  intro ps hT hpre W hW
  simp only [c_lead, TyA, Ty, Tys] at hT hpre
  obtain ⟨_, _, rfl, ⟨_, rfl, _, _, rfl, ⟨n0, rfl, hn0⟩, _, _, rfl, ⟨n1, rfl, hn1⟩, _, _, rfl, ⟨n2, rfl, hn2⟩, _, _, rfl, ⟨n3, rfl, hn3⟩, _, _, rfl, ⟨n4, rfl, hn4⟩, _, _, rfl, ⟨u, rfl⟩, _, _, rfl, ⟨es, rfl, hes, tes⟩, _, _, rfl, ⟨n5, rfl, hn5⟩, _, _, rfl, ⟨n6, rfl, hn6⟩, _, _, rfl, ⟨n7, rfl, hn7⟩, _, _, rfl, ⟨vs, rfl, hvs, tvs⟩, _, _, rfl, ⟨xs, rfl, hxs, txs⟩, _, _, rfl, ⟨ms, rfl, hms, tms⟩, rfl⟩, rfl⟩ := hT
  simp only [nth_zero, nth_succ, pv_I, pv_L, pv_A, pv_B, ndOf] at hpre
  refine hW.vc [(4, [11, 14], .take 0 <| .take 1 <| .take 2 <| .take 3 <| .take 4 <| .take 5 <| .take 6 <| .take 7 <| .take 8 <| .take 9 <| .alt 10 (.alt 11 (.take 12 <| .take 13 <| .alt 14 (.done) .stop) .stop) .stop)] _ _ ?_
  simp [-List.getD_eq_getElem?_getD, nth_fold, nth_zero, nth_succ, pv_I, pv_B, pv_S, pv_L, pv_A, pv_at, lv_int, lv_bool, lv_str, lv_list, lv_agg, PTy.leaves, PTy.wd, inR, TI.sz, TI.pty, lk, set1, memB, anyB, kill, strike, stillH, unpath, still, prom, proms, dpB, dpAll, ndB, isNil, shOk, takeIn, takeOk, St.slot, ofConst1, ofConsts, ofConst, St.ev, SV.cells, SV.ofCells, SV.leafB, leafAll, fixL, zeroSV, zeroSVs, zeroLf, zeroLfs, zeroPV, resL, resLs, resB, resBs, resT, resTs, resEs, introL, noP, elP, introV, introVs, packV, binI, binS, imp, evs, closes, findFn, slsOf, slsAll, argLs, argsLs, pathOf, rdHs1, rdHsL, rdHs, rdsHs, rdOk, lendOk, backL, backs, ownersOf, allRd, soleMt, firstP, callRd, callPt, callOw, callOwn, callRes, idxs, oprs, fillSV, partsOk, convRes, viewE, viewA, pathE, pathA, sliceRes, evO, etaL, storeEl, loadEl, flatL, flatLs, flatB, leafD, leafDs, dataB, ownO, sameO, isStruct, aggOk, leafAt, srcOf, joinB, joinOk, appRes, copyTo, copyRes, builtinRes, loadHy, eqCs, lvsOf, opRes, nilRes, guardOf, csz, ksz, unwd, dstOk, putS, vcK, vwCall, skipR, stepD, vcD, growP, rdCall, convP, rn, entV, entVs, entR, entO, entH, hlts, domH, entA, entL, ent, itVal, hsV, hsVs, itSlots, itBoxes, dropL, hsL, hsA, onlyR, gcH, gcA, itReach, itLay, itSt, mr, mrs, itRho, itOk, introB, introBs, introR, introX, introT, introTs, lkAll, numb, resMs, retOk, mtTy, bxCs, mtSls, mtHs, finFr, finOf, SV.lt, SV.lts, IntKind.min, IntKind.max, IntKind.signed, IntKind.bits, LIM, ty3, T3_sz, T3_pty, T3, ty4, T4_sz, T4_pty, T4, ty9, T9_sz, T9_pty, T9, ty35, T35_sz, T35_pty, T35, ty39, T39_sz, T39_pty, T39, ty41, T41_sz, T41_pty, T41, ty42, T42_sz, T42_pty, T42, ty54, T54_sz, T54_pty, T54, ty128, T128_sz, T128_pty, T128, ty131, T131_sz, T131_pty, T131, c_lead, c_reset, c_advance, c_replicateAll, ndOf, ND.pv]
  have hk := leadA_ok hpre
  obtain ⟨p1, p2, p3, p4⟩ := hpre
  simp only at p1 p2 p3 p4
  rw [wrap64 (n := (es.length : Int) + 1) (by omega)]
  refine fun _ => ⟨⟨p1, p2⟩, fun _ => ⟨fun h => ?_, fun h => ?_⟩⟩
  · have hA : leadA ⟨n0, n1, n2, n3, n4, u, es, n5, n6, n7, vs, xs, ms⟩ = ⟨n0, n1, n2, n3, 2, u, es ++ [.agg [.int .i64 n2, .str []]],
        advG ⟨n0, n1, n2, n3, 2, u, es ++ [.agg [.int .i64 n2, .str []]], n5, 0, n7, vs, List.replicate n1.toNat (.int .i64 (es.length + 1)), List.replicate n1.toNat (.int .i64 0)⟩ (es.length + 1), 0, n7, vs,
        List.replicate n1.toNat (.int .i64 (es.length + 1)), List.replicate n1.toNat (.int .i64 0)⟩ := by
      have h' : es.length < 60 := by omega
      simp only [leadA, leadN, leadL, if_pos h', List.length_append, List.length_singleton]
    rw [hA] at hk ⊢
    exact ⟨by decide +kernel, by omega, fun _ => ⟨⟨p3, p2, by omega⟩, hk, rfl, rfl, rfl, rfl, rfl, rfl, rfl, rfl, rfl, rfl, rfl, rfl, rfl, rfl⟩⟩
  · have hA : leadA ⟨n0, n1, n2, n3, n4, u, es, n5, n6, n7, vs, xs, ms⟩ = ⟨n0, n1, n2, n3, 2, u, es,
        advG ⟨n0, n1, n2, n3, 2, u, es, n5, 0, n7, vs, List.replicate n1.toNat (.int .i64 (es.length + 1)), List.replicate n1.toNat (.int .i64 0)⟩ es.length, 0, n7, vs,
        List.replicate n1.toNat (.int .i64 (es.length + 1)), List.replicate n1.toNat (.int .i64 0)⟩ := by
      have h' : ¬ es.length < 60 := by omega
      simp only [leadA, leadN, leadL, if_neg h']
    rw [hA] at hk ⊢
    exact ⟨⟨p3, p2, by omega⟩, hk, rfl, rfl, rfl, rfl, rfl, rfl, rfl, rfl, rfl, rfl, rfl, rfl, rfl, rfl⟩

/-- The message by which a candidate asks for a vote. -/
def voteM (n : ND) (to : Int) : PV := .agg [.int .i64 1, .int .i64 n.id, .int .i64 to, .int .i64 n.term, .int .i64 n.log.length, .int .i64 (tmAt n.log n.log.length), .int .i64 0, .bool false, .list []]
def voteAll (n : ND) : Nat → List PV
  | 0 => []
  | k + 1 => voteAll n k ++ (if (k : Int) = n.id then [] else [voteM n k])
theorem voteAll_len (n : ND) : ∀ k, (voteAll n k).length ≤ k
  | 0 => Nat.le_refl _
  | k + 1 => by
    have := voteAll_len n k
    rw [voteAll, List.length_append]
    split <;> simp <;> omega
/-- A candidate. -/
def standN (n : ND) (d : Int) : ND := { n with term := n.term + 1, vote := n.id, role := 1, vs := [.int .i64 n.id], ela := 0, wt := 5 + d.tmod 8 }
def elaN (n : ND) : ND := { n with ela := if 1000 < n.ela + 1 then 1000 else n.ela + 1 }
def standR (n : ND) (d : Int) : ND × List PV := if n.nodes = 1 then (leadA (standN n d), repAll (leadA (standN n d)) n.nodes.toNat) else (standN n d, voteAll (standN n d) n.nodes.toNat)
def tickN (n : ND) (d : Int) : ND × List PV :=
  if n.role = 2 then (if (elaN n).ela < 2 then (elaN n, []) else ({ n with ela := 0 }, repAll { n with ela := 0 } n.nodes.toNat))
  else if (elaN n).ela < n.wt ∨ n.term = 1000 then (elaN n, []) else standR n d
theorem tick_a {n : ND} {d : Int} (h1 : n.role = 2) (h2 : (elaN n).ela < 2) : tickN n d = (elaN n, []) := by rw [tickN, if_pos h1, if_pos h2]
theorem tick_b {n : ND} {d : Int} (h1 : n.role = 2) (h2 : ¬ (elaN n).ela < 2) : tickN n d = ({ n with ela := 0 }, repAll { n with ela := 0 } n.nodes.toNat) := by rw [tickN, if_pos h1, if_neg h2]
theorem tick_c {n : ND} {d : Int} (h1 : ¬ n.role = 2) (h2 : (elaN n).ela < n.wt ∨ n.term = 1000) : tickN n d = (elaN n, []) := by rw [tickN, if_neg h1, if_pos h2]
theorem tick_d {n : ND} {d : Int} (h1 : ¬ n.role = 2) (h2 : ¬ ((elaN n).ela < n.wt ∨ n.term = 1000)) (h3 : n.nodes = 1) : tickN n d = (leadA (standN n d), repAll (leadA (standN n d)) n.nodes.toNat) := by rw [tickN, if_neg h1, if_neg h2, standR, if_pos h3]
theorem tick_e {n : ND} {d : Int} (h1 : ¬ n.role = 2) (h2 : ¬ ((elaN n).ela < n.wt ∨ n.term = 1000)) (h3 : ¬ n.nodes = 1) : tickN n d = (standN n d, voteAll (standN n d) n.nodes.toNat) := by rw [tickN, if_neg h1, if_neg h2, standR, if_neg h3]

theorem nm_get {l : Int} : ∀ {xs ms : List PV}, nmB l xs ms = true → xs.length = ms.length → ∀ i, i < xs.length → 1 ≤ (nth xs i).I ∧ (nth xs i).I ≤ l + 1 ∧ 0 ≤ (nth ms i).I ∧ (nth ms i).I ≤ (nth xs i).I - 1
  | [], _, _, _, i, hi => by simp at hi
  | x :: xs, [], _, hl, i, hi => by simp at hl
  | x :: xs, m :: ms, h, hl, i, hi => by
    simp only [nmB, Bool.and_eq_true, inB, decide_eq_true_eq] at h
    cases i with
    | zero => simp only [nth_zero]; omega
    | succ i => simp only [nth_succ]; exact nm_get h.2 (by simpa using hl) i (by simpa using hi)
structure NdF (n : ND) : Prop where
  n1 : 1 ≤ n.nodes
  n5 : n.nodes ≤ 5
  i0 : 0 ≤ n.id
  i1 : n.id ≤ n.nodes - 1
  t0 : 0 ≤ n.term
  t1 : n.term ≤ 1000
  en : entB n.term 0 n.log = true
  l6 : n.log.length ≤ 60
  r0 : 0 ≤ n.role
  r2 : n.role ≤ 2
  ur : n.up = true ∨ n.role = 0
  c0 : 0 ≤ n.com
  c1 : n.com ≤ n.log.length
  e0 : 0 ≤ n.ela
  e1 : n.ela ≤ 1000
  w5 : 5 ≤ n.wt
  w1 : n.wt ≤ 100
  nx : (n.nx.length : Int) = n.nodes
  ms : (n.ms.length : Int) = n.nodes
  vo : voB n.nodes (-1) n.vs = true
  nm : nmB n.log.length n.nx n.ms = true
  vt : -1 ≤ n.vote ∧ n.vote ≤ 4 ∧ n.vote < n.nodes
theorem nodeB_F {n : ND} (h : nodeB n = true) : NdF n := by
  simp only [nodeB, ndB1, stB, entsB, inB, leB, ltB, Bool.and_eq_true, Bool.or_eq_true, decide_eq_true_eq, beq_iff_eq] at h
  obtain ⟨⟨⟨⟨⟨⟨⟨⟨⟨⟨⟨⟨h1, h2⟩, h3⟩, h4⟩, h5⟩, h6⟩, h7⟩, h8⟩, h9⟩, h10⟩, h11⟩, h12⟩, h13⟩ := h
  exact ⟨by omega, by omega, by omega, by omega, by omega, by omega, h3.2.1, by omega, by omega, by omega, h6, by omega, by omega, by omega, by omega, by omega, by omega, h10, h11, h12, h13, by omega⟩
theorem NdF.reps {n : ND} (h : NdF n) : repsOk n := by
  refine ⟨h.n1, h.n5, fun i hi => ?_⟩
  have h1 := h.nx
  have h2 := h.ms
  have h3 := h.l6
  have := nm_get h.nm (by omega) i (by omega)
  exact ⟨by omega, by omega, by rw [Int.toNat_natCast]; omega, by rw [Int.toNat_natCast]; omega, by omega⟩

def c_tick : FSpec := ⟨[(.bx, .box [.int .i64, .int .i64, .int .i64, .int .i64, .int .i64, .bool, .list (.agg [.int .i64, .str]), .int .i64, .int .i64, .int .i64, .list (.int .i64), .list (.int .i64), .list (.int .i64)]), (.rd, .int .i64)], [.list (.agg [.int .i64, .int .i64, .int .i64, .int .i64, .int .i64, .int .i64, .int .i64, .bool, .list (.agg [.int .i64, .str])])], true, fun ps => nodeB (ndOf (nth ps 0).A) = true ∧ 0 ≤ (nth ps 1).I ∧ (nth ps 1).I ≤ 1000000, fun ps => [.list (tickN (ndOf (nth ps 0).A) (nth ps 1).I).2],
  fun ps => [(tickN (ndOf (nth ps 0).A) (nth ps 1).I).1.pv]⟩
theorem k_tick : FnOk Try.prog 64 c_tick := by
  refine fn_mk [0, 1, 4, 5, 6, 7, 92, 93] [.tmp 4] (env_cons (cs := []) k_termAt (env_cons (cs := []) k_message (env_cons (cs := []) k_lead (env_cons (cs := []) k_replicateAll (env_nil (tyTab_ok [])))))) mixed Try.func64 rfl (by decide) rfl (by decide) rfl ?_
  intro ps hT hpre W hW
  simp only [c_tick, TyA, Ty, Tys] at hT hpre
  obtain ⟨_, _, rfl, ⟨_, rfl, _, _, rfl, ⟨n0, rfl, hn0⟩, _, _, rfl, ⟨n1, rfl, hn1⟩, _, _, rfl, ⟨n2, rfl, hn2⟩, _, _, rfl, ⟨n3, rfl, hn3⟩, _, _, rfl, ⟨n4, rfl, hn4⟩, _, _, rfl, ⟨u, rfl⟩, _, _, rfl, ⟨es, rfl, hes, tes⟩, _, _, rfl, ⟨n5, rfl, hn5⟩, _, _, rfl, ⟨n6, rfl, hn6⟩, _, _, rfl, ⟨n7, rfl, hn7⟩, _, _, rfl, ⟨vs, rfl, hvs, tvs⟩, _, _, rfl, ⟨xs, rfl, hxs, txs⟩, _, _, rfl, ⟨ms, rfl, hms, tms⟩, rfl⟩, _, _, rfl, ⟨d, rfl, hd⟩, rfl⟩ := hT
  simp only [nth_zero, nth_succ, pv_I, pv_L, pv_A, pv_B, ndOf] at hpre
  refine hW.vc [(7, [], .take 0 <| .take 1 <| .take 2 <| .take 3 <| .take 4 <| .take 5 <| .take 6 <| .take 7 <| .take 8 <| .take 9 <| .take 10 <| .take 11 <| .take 12 <| .take 13 <| .take 14 <| .take 15 <| .done), (10, [19, 22, 25, 28, 31], .take 0 <| .take 1 <| .take 2 <| .take 3 <| .take 4 <| .take 5 <| .take 6 <| .take 7 <| .take 8 <| .take 9 <| .take 10 <| .take 11 <| .take 12 <| .take 14 <| .take 15 <| .take 16 <| .take 17 <| .take 18 <| .alt 13 (.alt 19 (.take 20 <| .take 21 <| .alt 22 (.take 23 <| .take 24 <| .alt 25 (.take 26 <| .take 27 <| .alt 28 (.take 29 <| .take 30 <| .alt 31 (.done) .stop) .stop) .stop) .stop) .stop) (.alt 19 (.take 20 <| .take 21 <| .alt 13 (.alt 22 (.take 23 <| .take 24 <| .alt 25 (.take 26 <| .take 27 <| .alt 28 (.take 29 <| .take 30 <| .alt 31 (.done) .stop) .stop) .stop) .stop) (.alt 22 (.alt 13 (.take 23 <| .take 24 <| .alt 25 (.take 26 <| .take 27 <| .alt 28 (.take 29 <| .take 30 <| .alt 31 (.done) .stop) .stop) .stop) .stop) .stop)) .stop)), (19, [13, 15], .take 0 <| .take 1 <| .take 2 <| .take 3 <| .take 4 <| .take 5 <| .take 6 <| .take 7 <| .take 8 <| .take 9 <| .take 10 <| .take 12 <| .alt 11 (.alt 13 (.take 14 <| .alt 15 (.done) .stop) .stop) .stop)] _ _ ?_
  simp [-List.getD_eq_getElem?_getD, nth_fold, nth_zero, nth_succ, pv_I, pv_B, pv_S, pv_L, pv_A, pv_at, lv_int, lv_bool, lv_str, lv_list, lv_agg, PTy.leaves, PTy.wd, inR, TI.sz, TI.pty, lk, set1, memB, anyB, kill, strike, stillH, unpath, still, prom, proms, dpB, dpAll, ndB, isNil, shOk, takeIn, takeOk, St.slot, ofConst1, ofConsts, ofConst, St.ev, SV.cells, SV.ofCells, SV.leafB, leafAll, fixL, zeroSV, zeroSVs, zeroLf, zeroLfs, zeroPV, resL, resLs, resB, resBs, resT, resTs, resEs, introL, noP, elP, introV, introVs, packV, binI, binS, imp, evs, closes, findFn, slsOf, slsAll, argLs, argsLs, pathOf, rdHs1, rdHsL, rdHs, rdsHs, rdOk, lendOk, backL, backs, ownersOf, allRd, soleMt, firstP, callRd, callPt, callOw, callOwn, callRes, idxs, oprs, fillSV, partsOk, convRes, viewE, viewA, pathE, pathA, sliceRes, evO, etaL, storeEl, loadEl, flatL, flatLs, flatB, leafD, leafDs, dataB, ownO, sameO, isStruct, aggOk, leafAt, srcOf, joinB, joinOk, appRes, copyTo, copyRes, builtinRes, loadHy, eqCs, lvsOf, opRes, nilRes, guardOf, csz, ksz, unwd, dstOk, putS, vcK, vwCall, skipR, stepD, vcD, growP, rdCall, convP, rn, entV, entVs, entR, entO, entH, hlts, domH, entA, entL, ent, itVal, hsV, hsVs, itSlots, itBoxes, dropL, hsL, hsA, onlyR, gcH, gcA, itReach, itLay, itSt, mr, mrs, itRho, itOk, introB, introBs, introR, introX, introT, introTs, lkAll, numb, resMs, retOk, mtTy, bxCs, mtSls, mtHs, finFr, finOf, SV.lt, SV.lts, IntKind.min, IntKind.max, IntKind.signed, IntKind.bits, LIM, ty3, T3_sz, T3_pty, T3, ty4, T4_sz, T4_pty, T4, ty9, T9_sz, T9_pty, T9, ty35, T35_sz, T35_pty, T35, ty39, T39_sz, T39_pty, T39, ty41, T41_sz, T41_pty, T41, ty42, T42_sz, T42_pty, T42, ty54, T54_sz, T54_pty, T54, ty128, T128_sz, T128_pty, T128, ty131, T131_sz, T131_pty, T131, c_tick, c_replicateAll, c_lead, c_message, c_termAt, ndOf, ND.pv]
  obtain ⟨hB, hd0, hd1⟩ := hpre
  have hF := nodeB_F hB
  obtain ⟨nd, hnd⟩ : ∃ nd : ND, nd = ⟨n0, n1, n2, n3, n4, u, es, n5, n6, n7, vs, xs, ms⟩ := ⟨_, rfl⟩
  have f1 : 1 ≤ n1 ∧ n1 ≤ 5 ∧ 0 ≤ n0 ∧ n0 ≤ n1 - 1 ∧ 0 ≤ n2 ∧ n2 ≤ 1000 ∧ es.length ≤ 60 ∧ 0 ≤ n5 ∧ 0 ≤ n6 ∧ n6 ≤ 1000 := ⟨hF.n1, hF.n5, hF.i0, hF.i1, hF.t0, hF.t1, hF.l6, hF.c0, hF.e0, hF.e1⟩
  have ht : 0 ≤ d.tmod 8 ∧ d.tmod 8 < 8 := ⟨Int.tmod_nonneg _ hd0, Int.tmod_lt_of_pos _ (by omega)⟩
  have e1 : IntKind.i64.wrap (n6 + 1) = n6 + 1 := wrap64 (by omega)
  have e2 : IntKind.i64.wrap (n2 + 1) = n2 + 1 := wrap64 (by omega)
  have e3 : IntKind.i64.wrap (5 + d.tmod 8) = 5 + d.tmod 8 := wrap64 (by omega)
  have hr : repsOk { nd with ela := 0 } := by rw [hnd]; exact hF.reps
  rw [e1, e2, e3, ← hnd]
  have hq : nd.role = n4 ∧ nd.wt = n7 ∧ nd.term = n2 ∧ nd.nodes = n1 ∧ (elaN nd).ela = (if 1000 < n6 + 1 then 1000 else n6 + 1) := by rw [hnd]; exact ⟨rfl, rfl, rfl, rfl, rfl⟩
  obtain ⟨q1, q2, q3, q4, q5⟩ := hq
  refine ⟨fun h1 => ⟨fun h2 => ?_, fun h2 => ?_⟩, fun h1 => ⟨by decide +kernel, fun h2 => ?_, fun h2 h3 => ⟨by decide +kernel, fun h4 => ?_, fun h4 => ?_⟩⟩⟩
  · rw [tick_a (by rw [q1]; exact h1) (by rw [q5]; exact h2), hnd]
    exact ⟨rfl, rfl, rfl, rfl, rfl, rfl, rfl, rfl, rfl, rfl, rfl, rfl, rfl, rfl⟩
  · rw [tick_b (by rw [q1]; exact h1) (by rw [q5]; exact Int.not_lt.2 h2)]
    refine ⟨?_, ?_⟩
    · rw [hnd] at hr; exact hr
    · rw [hnd]; exact ⟨rfl, rfl, rfl, rfl, rfl, rfl, rfl, rfl, rfl, rfl, rfl, rfl, rfl, rfl⟩
  · rw [tick_c (by rw [q1]; exact h1) (by rw [q5, q2, q3]; exact h2), hnd]
    exact ⟨rfl, rfl, rfl, rfl, rfl, rfl, rfl, rfl, rfl, rfl, rfl, rfl, rfl, rfl⟩
  · rw [tick_d (by rw [q1]; exact h1) (by rw [q5, q2, q3]; exact fun h => h.elim (fun h => absurd h2 (Int.not_le.2 h)) h3) (by rw [q4]; exact h4), hnd]
    exact ⟨⟨f1.1, f1.2.1, f1.2.2.2.2.2.2.2.1, f1.2.2.2.2.2.2.1⟩, rfl, rfl, rfl, rfl, rfl, rfl, rfl, rfl, rfl, rfl, rfl, rfl, rfl, rfl⟩
  · have hT := tick_e (d := d) (by rw [q1]; exact h1) (by rw [q5, q2, q3]; exact fun h => h.elim (fun h => absurd h2 (Int.not_le.2 h)) h3) (by rw [q4]; exact h4)
    have hS : standN nd d = ⟨n0, n1, n2 + 1, n0, 1, u, es, n5, 0, 5 + d.tmod 8, [.int .i64 n0], xs, ms⟩ := by rw [hnd]; rfl
    obtain ⟨sd, hsd⟩ : ∃ sd : ND, sd = standN nd d := ⟨_, rfl⟩
    rw [← hsd] at hS hT
    refine hW.loopS _ _ _ [.sl 93 .dp (.int .i64), .sl 5 .dp (.list (.agg [.int .i64, .int .i64, .int .i64, .int .i64, .int .i64, .int .i64, .int .i64, .bool, .list (.agg [.int .i64, .str])]))] (fun ys => ∃ i : Nat, ys = [.int .i64 i, .list (voteAll sd i)] ∧ (i : Int) ≤ n1) (fun ys => n1.toNat - (nth ys 0).I.toNat) ?_ ?_
    · simp [-List.getD_eq_getElem?_getD, nth_fold, nth_zero, nth_succ, pv_I, pv_B, pv_S, pv_L, pv_A, pv_at, lv_int, lv_bool, lv_str, lv_list, lv_agg, PTy.leaves, PTy.wd, inR, TI.sz, TI.pty, lk, set1, memB, anyB, kill, strike, stillH, unpath, still, prom, proms, dpB, dpAll, ndB, isNil, shOk, takeIn, takeOk, St.slot, ofConst1, ofConsts, ofConst, St.ev, SV.cells, SV.ofCells, SV.leafB, leafAll, fixL, zeroSV, zeroSVs, zeroLf, zeroLfs, zeroPV, resL, resLs, resB, resBs, resT, resTs, resEs, introL, noP, elP, introV, introVs, packV, binI, binS, imp, evs, closes, findFn, slsOf, slsAll, argLs, argsLs, pathOf, rdHs1, rdHsL, rdHs, rdsHs, rdOk, lendOk, backL, backs, ownersOf, allRd, soleMt, firstP, callRd, callPt, callOw, callOwn, callRes, idxs, oprs, fillSV, partsOk, convRes, viewE, viewA, pathE, pathA, sliceRes, evO, etaL, storeEl, loadEl, flatL, flatLs, flatB, leafD, leafDs, dataB, ownO, sameO, isStruct, aggOk, leafAt, srcOf, joinB, joinOk, appRes, copyTo, copyRes, builtinRes, loadHy, eqCs, lvsOf, opRes, nilRes, guardOf, csz, ksz, unwd, dstOk, putS, vcK, vwCall, skipR, stepD, vcD, growP, rdCall, convP, rn, entV, entVs, entR, entO, entH, hlts, domH, entA, entL, ent, itVal, hsV, hsVs, itSlots, itBoxes, dropL, hsL, hsA, onlyR, gcH, gcA, itReach, itLay, itSt, mr, mrs, itRho, itOk, introB, introBs, introR, introX, introT, introTs, lkAll, numb, resMs, retOk, mtTy, bxCs, mtSls, mtHs, finFr, finOf, SV.lt, SV.lts, IntKind.min, IntKind.max, IntKind.signed, IntKind.bits, LIM, ty3, T3_sz, T3_pty, T3, ty4, T4_sz, T4_pty, T4, ty9, T9_sz, T9_pty, T9, ty35, T35_sz, T35_pty, T35, ty39, T39_sz, T39_pty, T39, ty41, T41_sz, T41_pty, T41, ty42, T42_sz, T42_pty, T42, ty54, T54_sz, T54_pty, T54, ty128, T128_sz, T128_pty, T128, ty131, T131_sz, T131_pty, T131, c_tick, c_replicateAll, c_lead, c_message, c_termAt]
      exact ⟨0, ⟨rfl, rfl⟩, by omega⟩
    · rintro ys ⟨i, rfl, g1⟩
      refine hW.vc [(7, [], .take 0 <| .take 1 <| .take 2 <| .take 3 <| .take 4 <| .take 5 <| .take 6 <| .take 7 <| .take 8 <| .take 9 <| .take 10 <| .take 11 <| .take 12 <| .take 13 <| .take 14 <| .take 15 <| .done), (10, [19, 22, 25, 28, 31], .take 0 <| .take 1 <| .take 2 <| .take 3 <| .take 4 <| .take 5 <| .take 6 <| .take 7 <| .take 8 <| .take 9 <| .take 10 <| .take 11 <| .take 12 <| .take 14 <| .take 15 <| .take 16 <| .take 17 <| .take 18 <| .alt 13 (.alt 19 (.take 20 <| .take 21 <| .alt 22 (.take 23 <| .take 24 <| .alt 25 (.take 26 <| .take 27 <| .alt 28 (.take 29 <| .take 30 <| .alt 31 (.done) .stop) .stop) .stop) .stop) .stop) (.alt 19 (.take 20 <| .take 21 <| .alt 13 (.alt 22 (.take 23 <| .take 24 <| .alt 25 (.take 26 <| .take 27 <| .alt 28 (.take 29 <| .take 30 <| .alt 31 (.done) .stop) .stop) .stop) .stop) (.alt 22 (.alt 13 (.take 23 <| .take 24 <| .alt 25 (.take 26 <| .take 27 <| .alt 28 (.take 29 <| .take 30 <| .alt 31 (.done) .stop) .stop) .stop) .stop) .stop)) .stop)), (19, [13, 15], .take 0 <| .take 1 <| .take 2 <| .take 3 <| .take 4 <| .take 5 <| .take 6 <| .take 7 <| .take 8 <| .take 9 <| .take 10 <| .take 12 <| .alt 11 (.alt 13 (.take 14 <| .alt 15 (.done) .stop) .stop) .stop)] _ _ ?_
      simp [-List.getD_eq_getElem?_getD, nth_fold, nth_zero, nth_succ, pv_I, pv_B, pv_S, pv_L, pv_A, pv_at, lv_int, lv_bool, lv_str, lv_list, lv_agg, PTy.leaves, PTy.wd, inR, TI.sz, TI.pty, lk, set1, memB, anyB, kill, strike, stillH, unpath, still, prom, proms, dpB, dpAll, ndB, isNil, shOk, takeIn, takeOk, St.slot, ofConst1, ofConsts, ofConst, St.ev, SV.cells, SV.ofCells, SV.leafB, leafAll, fixL, zeroSV, zeroSVs, zeroLf, zeroLfs, zeroPV, resL, resLs, resB, resBs, resT, resTs, resEs, introL, noP, elP, introV, introVs, packV, binI, binS, imp, evs, closes, findFn, slsOf, slsAll, argLs, argsLs, pathOf, rdHs1, rdHsL, rdHs, rdsHs, rdOk, lendOk, backL, backs, ownersOf, allRd, soleMt, firstP, callRd, callPt, callOw, callOwn, callRes, idxs, oprs, fillSV, partsOk, convRes, viewE, viewA, pathE, pathA, sliceRes, evO, etaL, storeEl, loadEl, flatL, flatLs, flatB, leafD, leafDs, dataB, ownO, sameO, isStruct, aggOk, leafAt, srcOf, joinB, joinOk, appRes, copyTo, copyRes, builtinRes, loadHy, eqCs, lvsOf, opRes, nilRes, guardOf, csz, ksz, unwd, dstOk, putS, vcK, vwCall, skipR, stepD, vcD, growP, rdCall, convP, rn, entV, entVs, entR, entO, entH, hlts, domH, entA, entL, ent, itVal, hsV, hsVs, itSlots, itBoxes, dropL, hsL, hsA, onlyR, gcH, gcA, itReach, itLay, itSt, mr, mrs, itRho, itOk, introB, introBs, introR, introX, introT, introTs, lkAll, numb, resMs, retOk, mtTy, bxCs, mtSls, mtHs, finFr, finOf, SV.lt, SV.lts, IntKind.min, IntKind.max, IntKind.signed, IntKind.bits, LIM, ty3, T3_sz, T3_pty, T3, ty4, T4_sz, T4_pty, T4, ty9, T9_sz, T9_pty, T9, ty35, T35_sz, T35_pty, T35, ty39, T39_sz, T39_pty, T39, ty41, T41_sz, T41_pty, T41, ty42, T42_sz, T42_pty, T42, ty54, T54_sz, T54_pty, T54, ty128, T128_sz, T128_pty, T128, ty131, T131_sz, T131_pty, T131, c_tick, c_replicateAll, c_lead, c_message, c_termAt, ndOf]
      have hl := voteAll_len sd i
      rw [wrap64 (n := (i : Int) + 1) (by omega)]
      refine ⟨fun g2 => ⟨fun g3 => ⟨by decide +kernel, fun _ => ⟨by omega, fun _ => ⟨⟨i + 1, ⟨rfl, ?_⟩, by omega⟩, by omega⟩⟩⟩, fun g3 => ⟨⟨i + 1, ⟨rfl, ?_⟩, by omega⟩, by omega⟩⟩, fun g2 => ?_⟩
      · rw [voteAll, if_neg (by rw [hS]; exact g3), hS]; rfl
      · rw [voteAll, if_pos (by rw [hS]; exact g3), List.append_nil]
      · have : i = n1.toNat := by omega
        rw [← hnd, hT, q4, this]
        exact ⟨rfl, by rw [hS]; rfl⟩

def ntOf (n : ND) (d : Int) : ND × List PV × Int :=
  cond (nodeB n) (cond (inB d 0 1000000) (cond n.up ((tickN n d).1, (tickN n d).2, 0) (n, [], 13)) (ND.no, [], 4)) (ND.no, [], 1)
def c_iNodeTick : FSpec := ⟨[(.rd, .agg [.int .i64, .int .i64, .int .i64, .int .i64, .int .i64, .bool, .list (.agg [.int .i64, .str]), .int .i64, .int .i64, .int .i64, .list (.int .i64), .list (.int .i64), .list (.int .i64)]), (.rd, .int .i64)], [.agg [.int .i64, .int .i64, .int .i64, .int .i64, .int .i64, .bool, .list (.agg [.int .i64, .str]), .int .i64, .int .i64, .int .i64, .list (.int .i64), .list (.int .i64), .list (.int .i64)], .list (.agg [.int .i64, .int .i64, .int .i64, .int .i64, .int .i64, .int .i64, .int .i64, .bool, .list (.agg [.int .i64, .str])]), .int .i64], true, fun ps => (nth (nth ps 0).A 10).L.length ≤ 1048576,
  fun ps => [(ntOf (ndOf (nth ps 0).A) (nth ps 1).I).1.pv, .list (ntOf (ndOf (nth ps 0).A) (nth ps 1).I).2.1, .int .i64 (ntOf (ndOf (nth ps 0).A) (nth ps 1).I).2.2], fun _ => []⟩
theorem k_iNodeTick : FnOk Try.prog 19 c_iNodeTick := by
  refine fn_mk [0, 1, 2, 4, 5, 6, 7, 8] [.cell 4 41, .tmp 5, .tmp 6] (env_cons (cs := []) k_tick (env_cons (cs := []) k_cloneNode (env_cons (cs := []) k_within (env_cons (cs := []) k_isNode (env_nil (tyTab_ok [])))))) mixed Try.func19 rfl (by decide) rfl (by decide) rfl ?_
  intro ps hT hpre W hW
  simp only [c_iNodeTick, TyA, Ty, Tys] at hT hpre
  obtain ⟨_, _, rfl, ⟨_, rfl, _, _, rfl, ⟨n0, rfl, hn0⟩, _, _, rfl, ⟨n1, rfl, hn1⟩, _, _, rfl, ⟨n2, rfl, hn2⟩, _, _, rfl, ⟨n3, rfl, hn3⟩, _, _, rfl, ⟨n4, rfl, hn4⟩, _, _, rfl, ⟨u, rfl⟩, _, _, rfl, ⟨es, rfl, hes, tes⟩, _, _, rfl, ⟨n5, rfl, hn5⟩, _, _, rfl, ⟨n6, rfl, hn6⟩, _, _, rfl, ⟨n7, rfl, hn7⟩, _, _, rfl, ⟨vs, rfl, hvs, tvs⟩, _, _, rfl, ⟨xs, rfl, hxs, txs⟩, _, _, rfl, ⟨ms, rfl, hms, tms⟩, rfl⟩, _, _, rfl, ⟨d, rfl, hd⟩, rfl⟩ := hT
  simp only [nth_zero, nth_succ, pv_I, pv_L, pv_A] at hpre
  refine hW.vc [] _ _ ?_
  simp [-List.getD_eq_getElem?_getD, nth_fold, nth_zero, nth_succ, pv_I, pv_B, pv_S, pv_L, pv_A, pv_at, lv_int, lv_bool, lv_str, lv_list, lv_agg, PTy.leaves, PTy.wd, inR, TI.sz, TI.pty, lk, set1, memB, anyB, kill, strike, stillH, unpath, still, prom, proms, dpB, dpAll, ndB, isNil, shOk, takeIn, takeOk, St.slot, ofConst1, ofConsts, ofConst, St.ev, SV.cells, SV.ofCells, SV.leafB, leafAll, fixL, zeroSV, zeroSVs, zeroLf, zeroLfs, zeroPV, resL, resLs, resB, resBs, resT, resTs, resEs, introL, noP, elP, introV, introVs, packV, binI, binS, imp, evs, closes, findFn, slsOf, slsAll, argLs, argsLs, pathOf, rdHs1, rdHsL, rdHs, rdsHs, rdOk, lendOk, backL, backs, ownersOf, allRd, soleMt, firstP, callRd, callPt, callOw, callOwn, callRes, idxs, oprs, fillSV, partsOk, convRes, viewE, viewA, pathE, pathA, sliceRes, evO, etaL, storeEl, loadEl, flatL, flatLs, flatB, leafD, leafDs, dataB, ownO, sameO, isStruct, aggOk, leafAt, srcOf, joinB, joinOk, appRes, copyTo, copyRes, builtinRes, loadHy, eqCs, lvsOf, opRes, nilRes, guardOf, csz, ksz, unwd, dstOk, putS, vcK, vwCall, skipR, stepD, vcD, growP, rdCall, convP, rn, entV, entVs, entR, entO, entH, hlts, domH, entA, entL, ent, itVal, hsV, hsVs, itSlots, itBoxes, dropL, hsL, hsA, onlyR, gcH, gcA, itReach, itLay, itSt, mr, mrs, itRho, itOk, introB, introBs, introR, introX, introT, introTs, lkAll, numb, resMs, retOk, mtTy, bxCs, mtSls, mtHs, finFr, finOf, SV.lt, SV.lts, IntKind.min, IntKind.max, IntKind.signed, IntKind.bits, LIM, ty3, T3_sz, T3_pty, T3, ty4, T4_sz, T4_pty, T4, ty9, T9_sz, T9_pty, T9, ty35, T35_sz, T35_pty, T35, ty39, T39_sz, T39_pty, T39, ty41, T41_sz, T41_pty, T41, ty42, T42_sz, T42_pty, T42, ty54, T54_sz, T54_pty, T54, ty128, T128_sz, T128_pty, T128, c_iNodeTick, c_isNode, c_within, c_cloneNode, c_tick, c_toNode, ndOf, ND.pv]
  obtain ⟨nd, hnd⟩ : ∃ nd : ND, nd = ⟨n0, n1, n2, n3, n4, u, es, n5, n6, n7, vs, xs, ms⟩ := ⟨_, rfl⟩
  rw [← hnd]
  refine ⟨fun h1 => ?_, fun h1 => ⟨fun h2 => ?_, fun h2 => ?_⟩⟩
  · have e : ntOf nd d = (ND.no, [], 1) := by rw [ntOf, h1]; rfl
    rw [e]
    simp [ND.no]
  · have e : ntOf nd d = (ND.no, [], 4) := by rw [ntOf, h1, h2]; rfl
    rw [e]
    simp [ND.no]
  · have hF := nodeB_F h1
    have f1 : es.length ≤ 60 ∧ (xs.length : Int) ≤ 5 ∧ (ms.length : Int) ≤ 5 := by
      have a1 := hF.l6; have a2 := hF.nx; have a3 := hF.ms; have a4 := hF.n5
      rw [hnd] at a1 a2 a3 a4
      simp only at a1 a2 a3 a4
      exact ⟨a1, by omega, by omega⟩
    refine ⟨fun hu => ⟨⟨by omega, hpre, by omega, by omega⟩, ?_⟩, fun hu => ⟨⟨by omega, hpre, by omega, by omega⟩, ⟨h1, ?_⟩, ?_⟩⟩
    · have e : ntOf nd d = (nd, [], 13) := by rw [ntOf, h1, h2, show nd.up = false by rw [hnd]; exact hu]; rfl
      rw [e, hnd]; exact ⟨⟨rfl, rfl, rfl, rfl, rfl, rfl, rfl, rfl, rfl, rfl, rfl, rfl, rfl⟩, rfl, rfl⟩
    · simp [inB] at h2; omega
    · have e : ntOf nd d = ((tickN nd d).1, (tickN nd d).2, 0) := by rw [ntOf, h1, h2, show nd.up = true by rw [hnd]; exact hu]; rfl
      rw [e]; exact ⟨⟨rfl, rfl, rfl, rfl, rfl, rfl, rfl, rfl, rfl, rfl, rfl, rfl, rfl⟩, rfl, rfl⟩

end Go.Proofs.Ytmjjdfhpnckacab
