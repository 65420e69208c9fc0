/-
  Part 10 of the proof of FnNode: a verification-condition generator over the program and the contracts of its functions, in the order of their use.
  Conditions: none.
-/
import Derived.Test.YtkofjkjcbljkdaaM9
import Derived.OpenShut
import Derived.SizedLaws
import Derived.ReadAgain
import Derived.ProofKit
set_option linter.unusedVariables false
set_option linter.unusedSimpArgs false
set_option linter.unusedSectionVars false

section
namespace Go.Proofs.Ytkofjkjcbljkdaa
variable [LaidG]
set_option maxRecDepth 100000
set_option linter.unusedSimpArgs false

def c_drawMessage : FSpec := ⟨[(.bs, .box [.list (.int .u8), .int .i64, .int .i64]), (.rd, .agg [.int .i64, .int .i64, .int .i64, .int .i64, .int .i64, .bool, .list (.agg [.int .i64, .str]), .int .i64, .int .i64, .int .i64, .list (.int .i64), .list (.int .i64), .list (.int .i64)])], [.agg [.int .i64, .int .i64, .int .i64, .int .i64, .int .i64, .int .i64, .int .i64, .bool, .list (.agg [.int .i64, .str])]], true, fun ps => srcOk (nth (nth ps 0).A 1).I (nth (nth ps 0).A 2).I 30 ∧ NdF (ndOf (nth ps 1).A) ∧ 2 ≤ (nth (nth ps 1).A 1).I ∧ (nth (nth ps 1).A 2).I ≤ 999, fun ps => [(msgR (nth (nth ps 0).A 0).L ⟨(nth (nth ps 0).A 1).I, (nth (nth ps 0).A 2).I⟩ (ndOf (nth ps 1).A)).1.pv], fun ps => [.agg [.list [], .int .i64 (msgR (nth (nth ps 0).A 0).L ⟨(nth (nth ps 0).A 1).I, (nth (nth ps 0).A 2).I⟩ (ndOf (nth ps 1).A)).2.p, .int .i64 (msgR (nth (nth ps 0).A 0).L ⟨(nth (nth ps 0).A 1).I, (nth (nth ps 0).A 2).I⟩ (ndOf (nth ps 1).A)).2.q]]⟩
set_option maxHeartbeats 0 in
theorem k_drawMessage : FnOk Try.prog 28 c_drawMessage := by
  refine fn_mk [0, 1, 3, 4, 5, 6] [.cell 4 30] (env_cons (cs := []) k_drawEntry (env_cons (cs := []) k_l08Term (env_cons (cs := []) k_chance (env_cons (cs := []) k_peer (env_cons (cs := []) k_srcNext (env_nil (tyTab_ok []))))))) mixed Try.func28 rfl (by decide) rfl (by decide) rfl ?_
  intro ps hT hpre W hW
  simp only [c_drawMessage, TyA, Ty, Tys] at hT hpre
  obtain ⟨_, _, rfl, ⟨_, rfl, _, _, rfl, ⟨es0, rfl, hes0, tes0⟩, _, _, rfl, ⟨p, rfl, hp⟩, _, _, rfl, ⟨q, rfl, hq⟩, rfl⟩, _, _, rfl, ⟨_, rfl, _, _, rfl, ⟨n0, rfl, hn0⟩, _, _, rfl, ⟨n1, rfl, hn1⟩, _, _, rfl, ⟨n2, rfl, hn2⟩, _, _, rfl, ⟨n3, rfl, hn3⟩, _, _, rfl, ⟨n4, rfl, hn4⟩, _, _, rfl, ⟨u, rfl⟩, _, _, rfl, ⟨es, rfl, hes, tes⟩, _, _, rfl, ⟨n5, rfl, hn5⟩, _, _, rfl, ⟨n6, rfl, hn6⟩, _, _, rfl, ⟨n7, rfl, hn7⟩, _, _, rfl, ⟨vs, rfl, hvs, tvs⟩, _, _, rfl, ⟨xs, rfl, hxs, txs⟩, _, _, rfl, ⟨ms, rfl, hms, tms⟩, rfl⟩, rfl⟩ := hT
  simp only [nth_zero, nth_succ, pv_A, pv_I, pv_L, pv_B, ndOf] at hpre
  obtain ⟨h1, hF, h2, h3⟩ := hpre
  have hc := codeOk_ty tes0
  have b1 := hF.n5
  have b2 := hF.i0
  have b3 := hF.i1
  have b4 := hF.t0
  have b5 := hF.l6
  have b6 := hF.n1
  simp only at b1 b2 b3 b4 b5 b6
  obtain ⟨a, ha⟩ : ∃ a, a = srcN es0 ⟨p, q⟩ 4 := ⟨_, rfl⟩
  obtain ⟨b, hb⟩ : ∃ b, b = peerR es0 a.2 n1 n0 := ⟨_, rfl⟩
  obtain ⟨c, hcc⟩ : ∃ c, c = srcN es0 b.2 3 := ⟨_, rfl⟩
  obtain ⟨d, hd⟩ : ∃ d, d = srcN es0 c.2 (es.length + 2) := ⟨_, rfl⟩
  obtain ⟨e, he⟩ : ∃ e, e = srcN es0 d.2 4 := ⟨_, rfl⟩
  obtain ⟨f, hf⟩ : ∃ f, f = srcN es0 e.2 2 := ⟨_, rfl⟩
  have ka := srcN_ok (s := ⟨p, q⟩) (n := 4) hc h1 (by omega)
  rw [← ha] at ka
  have kb := peerR_ok (n := n1) (no := n0) hc ka.1 (by omega) h2
  rw [← hb] at kb
  have kc := srcN_ok (n := 3) hc kb.1 (by omega)
  rw [← hcc] at kc
  have kd := srcN_ok (n := (es.length : Int) + 2) hc kc.1 (by omega)
  rw [← hd] at kd
  have ke := srcN_ok (n := 4) hc kd.1 (by omega)
  rw [← he] at ke
  have kf := srcN_ok (n := 2) hc ke.1 (by omega)
  rw [← hf] at kf
  have wa : IntKind.i64.wrap (1 + a.1) = 1 + a.1 := wrap64 (by have := ka.2.2 (by omega); omega)
  have wc : IntKind.i64.wrap (n2 + c.1) = n2 + c.1 := wrap64 (by have := kc.2.2 (by omega); omega)
  have wc2 : IntKind.i64.wrap (n2 + c.1 - 1) = n2 + c.1 - 1 := wrap64 (by have := kc.2.2 (by omega); omega)
  have wl : IntKind.i64.wrap ((es.length : Int) + 2) = es.length + 2 := wrap64 (by omega)
  have sa : srcOk a.2.p a.2.q 3 := ka.1.mono (by omega)
  have sb : srcOk b.2.p b.2.q 3 := kb.1.mono (by omega)
  have sc : srcOk c.2.p c.2.q 3 := kc.1.mono (by omega)
  have sd : srcOk d.2.p d.2.q 3 := kd.1.mono (by omega)
  have se : srcOk e.2.p e.2.q 3 := ke.1.mono (by omega)
  have s0 : srcOk p q 3 := h1.mono (by omega)
  refine hW.vc [] _ _ ?_
  simp [-List.getD_eq_getElem?_getD, c_drawMessage, c_srcNext, c_peer, c_chance, c_l08Term, c_drawEntry]
  refine hW.cutS [_] _ _ [.bs 0 [.list (.int .u8), .int .i64, .int .i64], .nb 5 30 [.int .i64, .int .i64, .int .i64, .int .i64, .int .i64, .int .i64, .int .i64, .bool, .list (.agg [.int .i64, .str])]] (fun ys => ys = [.agg [.list es0, .int .i64 f.2.p, .int .i64 f.2.q], .agg [.int .i64 (1 + a.1), .int .i64 b.1, .int .i64 n0, .int .i64 (if 1 < n2 + c.1 - 1 then n2 + c.1 - 1 else 1), .int .i64 d.1, .int .i64 0, .int .i64 e.1, .bool (f.1 == 1), .list []]]) ?_ ?_
  · refine hW.vc [(1, [1, 8, 14, 23, 25, 27, 31], .take 0 <| .take 3 <| .take 4 <| .take 6 <| .take 9 <| .take 11 <| .take 13 <| .take 18 <| .take 19 <| .take 24 <| .take 26 <| .tak2 5 <| .tak2 7 <| .tak2 10 <| .tak2 12 <| .tak2 20 <| .tak2 21 <| .take 22 <| .alt 1 (.take 2 <| .alt 8 (.alt 14 (.take 15 <| .take 16 <| .tak2 17 <| .alt 23 (.alt 25 (.alt 27 (.alt 28 (.take 29 <| .alt 30 (.alt 31 (.done) .stop) .stop) (.alt 30 (.alt 28 (.take 29 <| .alt 31 (.done) .stop) .stop) .stop)) (.alt 28 (.alt 27 (.take 29 <| .alt 30 (.alt 31 (.done) .stop) .stop) (.alt 30 (.alt 27 (.take 29 <| .alt 31 (.done) .stop) .stop) .stop)) (.alt 30 (.alt 27 (.alt 28 (.take 29 <| .alt 31 (.done) .stop) .stop) (.alt 28 (.alt 27 (.take 29 <| .alt 31 (.done) .stop) .stop) .stop)) .stop))) (.alt 28 (.alt 25 (.alt 27 (.take 29 <| .alt 30 (.alt 31 (.done) .stop) .stop) (.alt 30 (.alt 27 (.take 29 <| .alt 31 (.done) .stop) .stop) .stop)) (.alt 30 (.alt 25 (.alt 27 (.take 29 <| .alt 31 (.done) .stop) .stop) .stop) .stop)) (.alt 30 (.alt 25 (.alt 27 (.alt 28 (.take 29 <| .alt 31 (.done) .stop) .stop) (.alt 28 (.alt 27 (.take 29 <| .alt 31 (.done) .stop) .stop) .stop)) (.alt 28 (.alt 25 (.alt 27 (.take 29 <| .alt 31 (.done) .stop) .stop) .stop) .stop)) .stop))) (.alt 28 (.alt 23 (.alt 25 (.alt 27 (.take 29 <| .alt 30 (.alt 31 (.done) .stop) .stop) (.alt 30 (.alt 27 (.take 29 <| .alt 31 (.done) .stop) .stop) .stop)) (.alt 30 (.alt 25 (.alt 27 (.take 29 <| .alt 31 (.done) .stop) .stop) .stop) .stop)) (.alt 30 (.alt 23 (.alt 25 (.alt 27 (.take 29 <| .alt 31 (.done) .stop) .stop) .stop) .stop) .stop)) (.alt 30 (.alt 23 (.alt 25 (.alt 27 (.alt 28 (.take 29 <| .alt 31 (.done) .stop) .stop) (.alt 28 (.alt 27 (.take 29 <| .alt 31 (.done) .stop) .stop) .stop)) (.alt 28 (.alt 25 (.alt 27 (.take 29 <| .alt 31 (.done) .stop) .stop) .stop) .stop)) (.alt 28 (.alt 23 (.alt 25 (.alt 27 (.take 29 <| .alt 31 (.done) .stop) .stop) .stop) .stop) .stop)) .stop))) (.alt 28 (.alt 14 (.take 15 <| .take 16 <| .tak2 17 <| .alt 23 (.alt 25 (.alt 27 (.take 29 <| .alt 30 (.alt 31 (.done) .stop) .stop) (.alt 30 (.alt 27 (.take 29 <| .alt 31 (.done) .stop) .stop) .stop)) (.alt 30 (.alt 25 (.alt 27 (.take 29 <| .alt 31 (.done) .stop) .stop) .stop) .stop)) (.alt 30 (.alt 23 (.alt 25 (.alt 27 (.take 29 <| .alt 31 (.done) .stop) .stop) .stop) .stop) .stop)) (.alt 30 (.alt 14 (.take 15 <| .take 16 <| .tak2 17 <| .alt 23 (.alt 25 (.alt 27 (.take 29 <| .alt 31 (.done) .stop) .stop) .stop) .stop) .stop) .stop)) (.alt 30 (.alt 14 (.take 15 <| .take 16 <| .tak2 17 <| .alt 23 (.alt 25 (.alt 27 (.alt 28 (.take 29 <| .alt 31 (.done) .stop) .stop) (.alt 28 (.alt 27 (.take 29 <| .alt 31 (.done) .stop) .stop) .stop)) (.alt 28 (.alt 25 (.alt 27 (.take 29 <| .alt 31 (.done) .stop) .stop) .stop) .stop)) (.alt 28 (.alt 23 (.alt 25 (.alt 27 (.take 29 <| .alt 31 (.done) .stop) .stop) .stop) .stop) .stop)) (.alt 28 (.alt 14 (.take 15 <| .take 16 <| .tak2 17 <| .alt 23 (.alt 25 (.alt 27 (.take 29 <| .alt 31 (.done) .stop) .stop) .stop) .stop) .stop) .stop)) .stop))) (.alt 28 (.alt 8 (.alt 14 (.take 15 <| .take 16 <| .tak2 17 <| .alt 23 (.alt 25 (.alt 27 (.take 29 <| .alt 30 (.alt 31 (.done) .stop) .stop) (.alt 30 (.alt 27 (.take 29 <| .alt 31 (.done) .stop) .stop) .stop)) (.alt 30 (.alt 25 (.alt 27 (.take 29 <| .alt 31 (.done) .stop) .stop) .stop) .stop)) (.alt 30 (.alt 23 (.alt 25 (.alt 27 (.take 29 <| .alt 31 (.done) .stop) .stop) .stop) .stop) .stop)) (.alt 30 (.alt 14 (.take 15 <| .take 16 <| .tak2 17 <| .alt 23 (.alt 25 (.alt 27 (.take 29 <| .alt 31 (.done) .stop) .stop) .stop) .stop) .stop) .stop)) (.alt 30 (.alt 8 (.alt 14 (.take 15 <| .take 16 <| .tak2 17 <| .alt 23 (.alt 25 (.alt 27 (.take 29 <| .alt 31 (.done) .stop) .stop) .stop) .stop) .stop) .stop) .stop)) (.alt 30 (.alt 8 (.alt 14 (.take 15 <| .take 16 <| .tak2 17 <| .alt 23 (.alt 25 (.alt 27 (.alt 28 (.take 29 <| .alt 31 (.done) .stop) .stop) (.alt 28 (.alt 27 (.take 29 <| .alt 31 (.done) .stop) .stop) .stop)) (.alt 28 (.alt 25 (.alt 27 (.take 29 <| .alt 31 (.done) .stop) .stop) .stop) .stop)) (.alt 28 (.alt 23 (.alt 25 (.alt 27 (.take 29 <| .alt 31 (.done) .stop) .stop) .stop) .stop) .stop)) (.alt 28 (.alt 14 (.take 15 <| .take 16 <| .tak2 17 <| .alt 23 (.alt 25 (.alt 27 (.take 29 <| .alt 31 (.done) .stop) .stop) .stop) .stop) .stop) .stop)) (.alt 28 (.alt 8 (.alt 14 (.take 15 <| .take 16 <| .tak2 17 <| .alt 23 (.alt 25 (.alt 27 (.take 29 <| .alt 31 (.done) .stop) .stop) .stop) .stop) .stop) .stop) .stop)) .stop))) (.alt 28 (.alt 1 (.take 2 <| .alt 8 (.alt 14 (.take 15 <| .take 16 <| .tak2 17 <| .alt 23 (.alt 25 (.alt 27 (.take 29 <| .alt 30 (.alt 31 (.done) .stop) .stop) (.alt 30 (.alt 27 (.take 29 <| .alt 31 (.done) .stop) .stop) .stop)) (.alt 30 (.alt 25 (.alt 27 (.take 29 <| .alt 31 (.done) .stop) .stop) .stop) .stop)) (.alt 30 (.alt 23 (.alt 25 (.alt 27 (.take 29 <| .alt 31 (.done) .stop) .stop) .stop) .stop) .stop)) (.alt 30 (.alt 14 (.take 15 <| .take 16 <| .tak2 17 <| .alt 23 (.alt 25 (.alt 27 (.take 29 <| .alt 31 (.done) .stop) .stop) .stop) .stop) .stop) .stop)) (.alt 30 (.alt 8 (.alt 14 (.take 15 <| .take 16 <| .tak2 17 <| .alt 23 (.alt 25 (.alt 27 (.take 29 <| .alt 31 (.done) .stop) .stop) .stop) .stop) .stop) .stop) .stop)) (.alt 30 (.alt 1 (.take 2 <| .alt 8 (.alt 14 (.take 15 <| .take 16 <| .tak2 17 <| .alt 23 (.alt 25 (.alt 27 (.take 29 <| .alt 31 (.done) .stop) .stop) .stop) .stop) .stop) .stop) .stop) .stop)) (.alt 30 (.alt 1 (.take 2 <| .alt 8 (.alt 14 (.take 15 <| .take 16 <| .tak2 17 <| .alt 23 (.alt 25 (.alt 27 (.alt 28 (.take 29 <| .alt 31 (.done) .stop) .stop) (.alt 28 (.alt 27 (.take 29 <| .alt 31 (.done) .stop) .stop) .stop)) (.alt 28 (.alt 25 (.alt 27 (.take 29 <| .alt 31 (.done) .stop) .stop) .stop) .stop)) (.alt 28 (.alt 23 (.alt 25 (.alt 27 (.take 29 <| .alt 31 (.done) .stop) .stop) .stop) .stop) .stop)) (.alt 28 (.alt 14 (.take 15 <| .take 16 <| .tak2 17 <| .alt 23 (.alt 25 (.alt 27 (.take 29 <| .alt 31 (.done) .stop) .stop) .stop) .stop) .stop) .stop)) (.alt 28 (.alt 8 (.alt 14 (.take 15 <| .take 16 <| .tak2 17 <| .alt 23 (.alt 25 (.alt 27 (.take 29 <| .alt 31 (.done) .stop) .stop) .stop) .stop) .stop) .stop) .stop)) (.alt 28 (.alt 1 (.take 2 <| .alt 8 (.alt 14 (.take 15 <| .take 16 <| .tak2 17 <| .alt 23 (.alt 25 (.alt 27 (.take 29 <| .alt 31 (.done) .stop) .stop) .stop) .stop) .stop) .stop) .stop) .stop)) .stop)))] _ _ ?_
    simp (maxSteps := 20000000) [-List.getD_eq_getElem?_getD, c_drawMessage, c_srcNext, c_peer, c_chance, c_l08Term, c_drawEntry, ← ha, ← hb, ← hcc, wa, wc, wc2, wl, ← hd, ← he, ← hf]
    exact ⟨by decide +kernel, fun _ => ⟨s0, ⟨sa, by omega, by omega⟩, sb, sc, sd, se⟩⟩
  · rintro ys rfl
    obtain ⟨ix, hix⟩ : ∃ ix, ix = if 60 < d.1 then 60 else d.1 := ⟨_, rfl⟩
    obtain ⟨tt, htt⟩ : ∃ tt, tt = if 1 < n2 + c.1 - 1 then n2 + c.1 - 1 else 1 := ⟨_, rfl⟩
    obtain ⟨nd, hnd⟩ : ∃ nd : ND, nd = ⟨n0, n1, n2, n3, n4, u, es, n5, n6, n7, vs, xs, ms⟩ := ⟨_, rfl⟩
    obtain ⟨dd, hdd⟩ : ∃ dd : MD, dd = ⟨1 + a.1, b.1, tt, ix, e.1, f.1 == 1, f.2⟩ := ⟨_, rfl⟩
    have hmd : mdOf es0 ⟨p, q⟩ nd = dd := by
      rw [hdd, hix, htt, hf, he, hd, hcc, hb, ha, hnd]; rfl
    have hm : msgR es0 ⟨p, q⟩ nd = (⟨1 + a.1, b.1, n0, tt, ix, mdLt nd dd, e.1, f.1 == 1, (mdEs es0 dd).1⟩, (mdEs es0 dd).2) := by
      rw [msgR, hmd, hdd, hnd]
    have hno : ndOf [PV.int IntKind.i64 n0, PV.int IntKind.i64 n1, PV.int IntKind.i64 n2, PV.int IntKind.i64 n3, PV.int IntKind.i64 n4, PV.bool u, PV.list es, PV.int IntKind.i64 n5, PV.int IntKind.i64 n6, PV.int IntKind.i64 n7, PV.list vs, PV.list xs, PV.list ms] = nd := by rw [hnd]; rfl
    have ix0 : 0 ≤ ix := by rw [hix]; split <;> omega
    have ix6 : ix ≤ 60 := by rw [hix]; split <;> omega
    obtain ⟨g, hg⟩ : ∃ g, g = srcN es0 f.2 3 := ⟨_, rfl⟩
    have kg := srcN_ok (n := 3) hc kf.1 (by omega)
    rw [← hg] at kg
    have kg2 := kg.2.2 (by omega)
    have sf : srcOk f.2.p f.2.q 3 := kf.1.mono (by omega)
    have hlt : mdLt nd dd = if 0 < ix ∧ ix ≤ es.length then (if tmAt es ix < tt then tmAt es ix else tt) else if 1 + a.1 = 3 ∧ (es.length : Int) < ix then 1 else 0 := by rw [hdd, hnd]; rfl
    by_cases hK : 1 + a.1 = 3
    · have hE : mdEs es0 dd = entD es0 tt ix g.1.toNat g.2 [] := by rw [mdEs, hdd, if_pos hK, ← hg]
      by_cases h0 : 0 < ix
      · by_cases hL : ix ≤ es.length
        · have hL2 : ¬ ((es.length : Int) < ix) := by omega
          rw [if_pos ⟨h0, hL⟩] at hlt
          refine hW.vc [(1, [1, 8, 14, 23, 25, 27, 31], .take 0 <| .take 3 <| .take 4 <| .take 6 <| .take 9 <| .take 11 <| .take 13 <| .take 18 <| .take 19 <| .take 24 <| .take 26 <| .tak2 5 <| .tak2 7 <| .tak2 10 <| .tak2 12 <| .tak2 20 <| .tak2 21 <| .take 22 <| .alt 1 (.take 2 <| .alt 8 (.alt 14 (.take 15 <| .take 16 <| .tak2 17 <| .alt 23 (.alt 25 (.alt 27 (.alt 28 (.take 29 <| .alt 30 (.alt 31 (.done) .stop) .stop) (.alt 30 (.alt 28 (.take 29 <| .alt 31 (.done) .stop) .stop) .stop)) (.alt 28 (.alt 27 (.take 29 <| .alt 30 (.alt 31 (.done) .stop) .stop) (.alt 30 (.alt 27 (.take 29 <| .alt 31 (.done) .stop) .stop) .stop)) (.alt 30 (.alt 27 (.alt 28 (.take 29 <| .alt 31 (.done) .stop) .stop) (.alt 28 (.alt 27 (.take 29 <| .alt 31 (.done) .stop) .stop) .stop)) .stop))) (.alt 28 (.alt 25 (.alt 27 (.take 29 <| .alt 30 (.alt 31 (.done) .stop) .stop) (.alt 30 (.alt 27 (.take 29 <| .alt 31 (.done) .stop) .stop) .stop)) (.alt 30 (.alt 25 (.alt 27 (.take 29 <| .alt 31 (.done) .stop) .stop) .stop) .stop)) (.alt 30 (.alt 25 (.alt 27 (.alt 28 (.take 29 <| .alt 31 (.done) .stop) .stop) (.alt 28 (.alt 27 (.take 29 <| .alt 31 (.done) .stop) .stop) .stop)) (.alt 28 (.alt 25 (.alt 27 (.take 29 <| .alt 31 (.done) .stop) .stop) .stop) .stop)) .stop))) (.alt 28 (.alt 23 (.alt 25 (.alt 27 (.take 29 <| .alt 30 (.alt 31 (.done) .stop) .stop) (.alt 30 (.alt 27 (.take 29 <| .alt 31 (.done) .stop) .stop) .stop)) (.alt 30 (.alt 25 (.alt 27 (.take 29 <| .alt 31 (.done) .stop) .stop) .stop) .stop)) (.alt 30 (.alt 23 (.alt 25 (.alt 27 (.take 29 <| .alt 31 (.done) .stop) .stop) .stop) .stop) .stop)) (.alt 30 (.alt 23 (.alt 25 (.alt 27 (.alt 28 (.take 29 <| .alt 31 (.done) .stop) .stop) (.alt 28 (.alt 27 (.take 29 <| .alt 31 (.done) .stop) .stop) .stop)) (.alt 28 (.alt 25 (.alt 27 (.take 29 <| .alt 31 (.done) .stop) .stop) .stop) .stop)) (.alt 28 (.alt 23 (.alt 25 (.alt 27 (.take 29 <| .alt 31 (.done) .stop) .stop) .stop) .stop) .stop)) .stop))) (.alt 28 (.alt 14 (.take 15 <| .take 16 <| .tak2 17 <| .alt 23 (.alt 25 (.alt 27 (.take 29 <| .alt 30 (.alt 31 (.done) .stop) .stop) (.alt 30 (.alt 27 (.take 29 <| .alt 31 (.done) .stop) .stop) .stop)) (.alt 30 (.alt 25 (.alt 27 (.take 29 <| .alt 31 (.done) .stop) .stop) .stop) .stop)) (.alt 30 (.alt 23 (.alt 25 (.alt 27 (.take 29 <| .alt 31 (.done) .stop) .stop) .stop) .stop) .stop)) (.alt 30 (.alt 14 (.take 15 <| .take 16 <| .tak2 17 <| .alt 23 (.alt 25 (.alt 27 (.take 29 <| .alt 31 (.done) .stop) .stop) .stop) .stop) .stop) .stop)) (.alt 30 (.alt 14 (.take 15 <| .take 16 <| .tak2 17 <| .alt 23 (.alt 25 (.alt 27 (.alt 28 (.take 29 <| .alt 31 (.done) .stop) .stop) (.alt 28 (.alt 27 (.take 29 <| .alt 31 (.done) .stop) .stop) .stop)) (.alt 28 (.alt 25 (.alt 27 (.take 29 <| .alt 31 (.done) .stop) .stop) .stop) .stop)) (.alt 28 (.alt 23 (.alt 25 (.alt 27 (.take 29 <| .alt 31 (.done) .stop) .stop) .stop) .stop) .stop)) (.alt 28 (.alt 14 (.take 15 <| .take 16 <| .tak2 17 <| .alt 23 (.alt 25 (.alt 27 (.take 29 <| .alt 31 (.done) .stop) .stop) .stop) .stop) .stop) .stop)) .stop))) (.alt 28 (.alt 8 (.alt 14 (.take 15 <| .take 16 <| .tak2 17 <| .alt 23 (.alt 25 (.alt 27 (.take 29 <| .alt 30 (.alt 31 (.done) .stop) .stop) (.alt 30 (.alt 27 (.take 29 <| .alt 31 (.done) .stop) .stop) .stop)) (.alt 30 (.alt 25 (.alt 27 (.take 29 <| .alt 31 (.done) .stop) .stop) .stop) .stop)) (.alt 30 (.alt 23 (.alt 25 (.alt 27 (.take 29 <| .alt 31 (.done) .stop) .stop) .stop) .stop) .stop)) (.alt 30 (.alt 14 (.take 15 <| .take 16 <| .tak2 17 <| .alt 23 (.alt 25 (.alt 27 (.take 29 <| .alt 31 (.done) .stop) .stop) .stop) .stop) .stop) .stop)) (.alt 30 (.alt 8 (.alt 14 (.take 15 <| .take 16 <| .tak2 17 <| .alt 23 (.alt 25 (.alt 27 (.take 29 <| .alt 31 (.done) .stop) .stop) .stop) .stop) .stop) .stop) .stop)) (.alt 30 (.alt 8 (.alt 14 (.take 15 <| .take 16 <| .tak2 17 <| .alt 23 (.alt 25 (.alt 27 (.alt 28 (.take 29 <| .alt 31 (.done) .stop) .stop) (.alt 28 (.alt 27 (.take 29 <| .alt 31 (.done) .stop) .stop) .stop)) (.alt 28 (.alt 25 (.alt 27 (.take 29 <| .alt 31 (.done) .stop) .stop) .stop) .stop)) (.alt 28 (.alt 23 (.alt 25 (.alt 27 (.take 29 <| .alt 31 (.done) .stop) .stop) .stop) .stop) .stop)) (.alt 28 (.alt 14 (.take 15 <| .take 16 <| .tak2 17 <| .alt 23 (.alt 25 (.alt 27 (.take 29 <| .alt 31 (.done) .stop) .stop) .stop) .stop) .stop) .stop)) (.alt 28 (.alt 8 (.alt 14 (.take 15 <| .take 16 <| .tak2 17 <| .alt 23 (.alt 25 (.alt 27 (.take 29 <| .alt 31 (.done) .stop) .stop) .stop) .stop) .stop) .stop) .stop)) .stop))) (.alt 28 (.alt 1 (.take 2 <| .alt 8 (.alt 14 (.take 15 <| .take 16 <| .tak2 17 <| .alt 23 (.alt 25 (.alt 27 (.take 29 <| .alt 30 (.alt 31 (.done) .stop) .stop) (.alt 30 (.alt 27 (.take 29 <| .alt 31 (.done) .stop) .stop) .stop)) (.alt 30 (.alt 25 (.alt 27 (.take 29 <| .alt 31 (.done) .stop) .stop) .stop) .stop)) (.alt 30 (.alt 23 (.alt 25 (.alt 27 (.take 29 <| .alt 31 (.done) .stop) .stop) .stop) .stop) .stop)) (.alt 30 (.alt 14 (.take 15 <| .take 16 <| .tak2 17 <| .alt 23 (.alt 25 (.alt 27 (.take 29 <| .alt 31 (.done) .stop) .stop) .stop) .stop) .stop) .stop)) (.alt 30 (.alt 8 (.alt 14 (.take 15 <| .take 16 <| .tak2 17 <| .alt 23 (.alt 25 (.alt 27 (.take 29 <| .alt 31 (.done) .stop) .stop) .stop) .stop) .stop) .stop) .stop)) (.alt 30 (.alt 1 (.take 2 <| .alt 8 (.alt 14 (.take 15 <| .take 16 <| .tak2 17 <| .alt 23 (.alt 25 (.alt 27 (.take 29 <| .alt 31 (.done) .stop) .stop) .stop) .stop) .stop) .stop) .stop) .stop)) (.alt 30 (.alt 1 (.take 2 <| .alt 8 (.alt 14 (.take 15 <| .take 16 <| .tak2 17 <| .alt 23 (.alt 25 (.alt 27 (.alt 28 (.take 29 <| .alt 31 (.done) .stop) .stop) (.alt 28 (.alt 27 (.take 29 <| .alt 31 (.done) .stop) .stop) .stop)) (.alt 28 (.alt 25 (.alt 27 (.take 29 <| .alt 31 (.done) .stop) .stop) .stop) .stop)) (.alt 28 (.alt 23 (.alt 25 (.alt 27 (.take 29 <| .alt 31 (.done) .stop) .stop) .stop) .stop) .stop)) (.alt 28 (.alt 14 (.take 15 <| .take 16 <| .tak2 17 <| .alt 23 (.alt 25 (.alt 27 (.take 29 <| .alt 31 (.done) .stop) .stop) .stop) .stop) .stop) .stop)) (.alt 28 (.alt 8 (.alt 14 (.take 15 <| .take 16 <| .tak2 17 <| .alt 23 (.alt 25 (.alt 27 (.take 29 <| .alt 31 (.done) .stop) .stop) .stop) .stop) .stop) .stop) .stop)) (.alt 28 (.alt 1 (.take 2 <| .alt 8 (.alt 14 (.take 15 <| .take 16 <| .tak2 17 <| .alt 23 (.alt 25 (.alt 27 (.take 29 <| .alt 31 (.done) .stop) .stop) .stop) .stop) .stop) .stop) .stop) .stop)) .stop))), (4, [8], .take 0 <| .take 1 <| .take 2 <| .take 3 <| .take 4 <| .alt 5 (.take 6 <| .take 7 <| .alt 8 (.done) .stop) .stop), (11, [5, 7, 9], .take 0 <| .take 2 <| .take 3 <| .take 4 <| .alt 1 (.alt 5 (.alt 6 (.alt 7 (.take 8 <| .alt 9 (.done) .stop) .stop) .stop) .stop) (.alt 5 (.take 1 <| .alt 6 (.alt 7 (.take 8 <| .alt 9 (.done) .stop) .stop) .stop) .stop))] _ _ ?_
          simp [-List.getD_eq_getElem?_getD, c_drawMessage, c_srcNext, c_peer, c_chance, c_l08Term, c_drawEntry, ← hix, ← htt, ← hg, hK, h0, hL, hL2, hno, hm, MG.pv]
          refine fun _ => ⟨by decide +kernel, ix0, fun _ => ⟨sf, ?_⟩⟩
          refine hW.loopS _ _ _ [.bs 0 [.list (.int .u8), .int .i64, .int .i64], .bx 5 [.int .i64, .int .i64, .int .i64, .int .i64, .int .i64, .int .i64, .int .i64, .bool, .list (.agg [.int .i64, .str])], .sl 6 .dp (.int .i64)] (fun ys => ∃ (k : Nat) (s : Src) (acc : List PV), ys = [.agg [.list es0, .int .i64 s.p, .int .i64 s.q], .agg [.int .i64 3, .int .i64 b.1, .int .i64 n0, .int .i64 tt, .int .i64 ix, .int .i64 (mdLt nd dd), .int .i64 e.1, .bool (f.1 == 1), .list acc], .int .i64 k] ∧ srcOk s.p s.q (3 * k) ∧ k ≤ 2 ∧ acc.length ≤ 60 ∧ mdEs es0 dd = entD es0 tt ix k s acc) (fun ys => (nth ys 2).I.toNat) ?_ ?_
          · simp [-List.getD_eq_getElem?_getD, c_drawMessage, c_srcNext, c_peer, c_chance, c_l08Term, c_drawEntry]
            exact ⟨g.1.toNat, g.2, [], ⟨⟨rfl, rfl⟩, ⟨hlt.symm, rfl⟩, by omega⟩, kg.1.mono (by omega), by omega, by decide, hE⟩
          · rintro ys ⟨k, s, acc, rfl, g1, g2, g3, g4⟩
            have w5 : IntKind.i64.wrap ((acc.length : Int) + ix) = acc.length + ix := wrap64 (by omega)
            have w6 : IntKind.i64.wrap ((k : Int) - 1) = k - 1 := wrap64 (by omega)
            refine hW.vc [(1, [1, 8, 14, 23, 25, 27, 31], .take 0 <| .take 3 <| .take 4 <| .take 6 <| .take 9 <| .take 11 <| .take 13 <| .take 18 <| .take 19 <| .take 24 <| .take 26 <| .tak2 5 <| .tak2 7 <| .tak2 10 <| .tak2 12 <| .tak2 20 <| .tak2 21 <| .take 22 <| .alt 1 (.take 2 <| .alt 8 (.alt 14 (.take 15 <| .take 16 <| .tak2 17 <| .alt 23 (.alt 25 (.alt 27 (.alt 28 (.take 29 <| .alt 30 (.alt 31 (.done) .stop) .stop) (.alt 30 (.alt 28 (.take 29 <| .alt 31 (.done) .stop) .stop) .stop)) (.alt 28 (.alt 27 (.take 29 <| .alt 30 (.alt 31 (.done) .stop) .stop) (.alt 30 (.alt 27 (.take 29 <| .alt 31 (.done) .stop) .stop) .stop)) (.alt 30 (.alt 27 (.alt 28 (.take 29 <| .alt 31 (.done) .stop) .stop) (.alt 28 (.alt 27 (.take 29 <| .alt 31 (.done) .stop) .stop) .stop)) .stop))) (.alt 28 (.alt 25 (.alt 27 (.take 29 <| .alt 30 (.alt 31 (.done) .stop) .stop) (.alt 30 (.alt 27 (.take 29 <| .alt 31 (.done) .stop) .stop) .stop)) (.alt 30 (.alt 25 (.alt 27 (.take 29 <| .alt 31 (.done) .stop) .stop) .stop) .stop)) (.alt 30 (.alt 25 (.alt 27 (.alt 28 (.take 29 <| .alt 31 (.done) .stop) .stop) (.alt 28 (.alt 27 (.take 29 <| .alt 31 (.done) .stop) .stop) .stop)) (.alt 28 (.alt 25 (.alt 27 (.take 29 <| .alt 31 (.done) .stop) .stop) .stop) .stop)) .stop))) (.alt 28 (.alt 23 (.alt 25 (.alt 27 (.take 29 <| .alt 30 (.alt 31 (.done) .stop) .stop) (.alt 30 (.alt 27 (.take 29 <| .alt 31 (.done) .stop) .stop) .stop)) (.alt 30 (.alt 25 (.alt 27 (.take 29 <| .alt 31 (.done) .stop) .stop) .stop) .stop)) (.alt 30 (.alt 23 (.alt 25 (.alt 27 (.take 29 <| .alt 31 (.done) .stop) .stop) .stop) .stop) .stop)) (.alt 30 (.alt 23 (.alt 25 (.alt 27 (.alt 28 (.take 29 <| .alt 31 (.done) .stop) .stop) (.alt 28 (.alt 27 (.take 29 <| .alt 31 (.done) .stop) .stop) .stop)) (.alt 28 (.alt 25 (.alt 27 (.take 29 <| .alt 31 (.done) .stop) .stop) .stop) .stop)) (.alt 28 (.alt 23 (.alt 25 (.alt 27 (.take 29 <| .alt 31 (.done) .stop) .stop) .stop) .stop) .stop)) .stop))) (.alt 28 (.alt 14 (.take 15 <| .take 16 <| .tak2 17 <| .alt 23 (.alt 25 (.alt 27 (.take 29 <| .alt 30 (.alt 31 (.done) .stop) .stop) (.alt 30 (.alt 27 (.take 29 <| .alt 31 (.done) .stop) .stop) .stop)) (.alt 30 (.alt 25 (.alt 27 (.take 29 <| .alt 31 (.done) .stop) .stop) .stop) .stop)) (.alt 30 (.alt 23 (.alt 25 (.alt 27 (.take 29 <| .alt 31 (.done) .stop) .stop) .stop) .stop) .stop)) (.alt 30 (.alt 14 (.take 15 <| .take 16 <| .tak2 17 <| .alt 23 (.alt 25 (.alt 27 (.take 29 <| .alt 31 (.done) .stop) .stop) .stop) .stop) .stop) .stop)) (.alt 30 (.alt 14 (.take 15 <| .take 16 <| .tak2 17 <| .alt 23 (.alt 25 (.alt 27 (.alt 28 (.take 29 <| .alt 31 (.done) .stop) .stop) (.alt 28 (.alt 27 (.take 29 <| .alt 31 (.done) .stop) .stop) .stop)) (.alt 28 (.alt 25 (.alt 27 (.take 29 <| .alt 31 (.done) .stop) .stop) .stop) .stop)) (.alt 28 (.alt 23 (.alt 25 (.alt 27 (.take 29 <| .alt 31 (.done) .stop) .stop) .stop) .stop) .stop)) (.alt 28 (.alt 14 (.take 15 <| .take 16 <| .tak2 17 <| .alt 23 (.alt 25 (.alt 27 (.take 29 <| .alt 31 (.done) .stop) .stop) .stop) .stop) .stop) .stop)) .stop))) (.alt 28 (.alt 8 (.alt 14 (.take 15 <| .take 16 <| .tak2 17 <| .alt 23 (.alt 25 (.alt 27 (.take 29 <| .alt 30 (.alt 31 (.done) .stop) .stop) (.alt 30 (.alt 27 (.take 29 <| .alt 31 (.done) .stop) .stop) .stop)) (.alt 30 (.alt 25 (.alt 27 (.take 29 <| .alt 31 (.done) .stop) .stop) .stop) .stop)) (.alt 30 (.alt 23 (.alt 25 (.alt 27 (.take 29 <| .alt 31 (.done) .stop) .stop) .stop) .stop) .stop)) (.alt 30 (.alt 14 (.take 15 <| .take 16 <| .tak2 17 <| .alt 23 (.alt 25 (.alt 27 (.take 29 <| .alt 31 (.done) .stop) .stop) .stop) .stop) .stop) .stop)) (.alt 30 (.alt 8 (.alt 14 (.take 15 <| .take 16 <| .tak2 17 <| .alt 23 (.alt 25 (.alt 27 (.take 29 <| .alt 31 (.done) .stop) .stop) .stop) .stop) .stop) .stop) .stop)) (.alt 30 (.alt 8 (.alt 14 (.take 15 <| .take 16 <| .tak2 17 <| .alt 23 (.alt 25 (.alt 27 (.alt 28 (.take 29 <| .alt 31 (.done) .stop) .stop) (.alt 28 (.alt 27 (.take 29 <| .alt 31 (.done) .stop) .stop) .stop)) (.alt 28 (.alt 25 (.alt 27 (.take 29 <| .alt 31 (.done) .stop) .stop) .stop) .stop)) (.alt 28 (.alt 23 (.alt 25 (.alt 27 (.take 29 <| .alt 31 (.done) .stop) .stop) .stop) .stop) .stop)) (.alt 28 (.alt 14 (.take 15 <| .take 16 <| .tak2 17 <| .alt 23 (.alt 25 (.alt 27 (.take 29 <| .alt 31 (.done) .stop) .stop) .stop) .stop) .stop) .stop)) (.alt 28 (.alt 8 (.alt 14 (.take 15 <| .take 16 <| .tak2 17 <| .alt 23 (.alt 25 (.alt 27 (.take 29 <| .alt 31 (.done) .stop) .stop) .stop) .stop) .stop) .stop) .stop)) .stop))) (.alt 28 (.alt 1 (.take 2 <| .alt 8 (.alt 14 (.take 15 <| .take 16 <| .tak2 17 <| .alt 23 (.alt 25 (.alt 27 (.take 29 <| .alt 30 (.alt 31 (.done) .stop) .stop) (.alt 30 (.alt 27 (.take 29 <| .alt 31 (.done) .stop) .stop) .stop)) (.alt 30 (.alt 25 (.alt 27 (.take 29 <| .alt 31 (.done) .stop) .stop) .stop) .stop)) (.alt 30 (.alt 23 (.alt 25 (.alt 27 (.take 29 <| .alt 31 (.done) .stop) .stop) .stop) .stop) .stop)) (.alt 30 (.alt 14 (.take 15 <| .take 16 <| .tak2 17 <| .alt 23 (.alt 25 (.alt 27 (.take 29 <| .alt 31 (.done) .stop) .stop) .stop) .stop) .stop) .stop)) (.alt 30 (.alt 8 (.alt 14 (.take 15 <| .take 16 <| .tak2 17 <| .alt 23 (.alt 25 (.alt 27 (.take 29 <| .alt 31 (.done) .stop) .stop) .stop) .stop) .stop) .stop) .stop)) (.alt 30 (.alt 1 (.take 2 <| .alt 8 (.alt 14 (.take 15 <| .take 16 <| .tak2 17 <| .alt 23 (.alt 25 (.alt 27 (.take 29 <| .alt 31 (.done) .stop) .stop) .stop) .stop) .stop) .stop) .stop) .stop)) (.alt 30 (.alt 1 (.take 2 <| .alt 8 (.alt 14 (.take 15 <| .take 16 <| .tak2 17 <| .alt 23 (.alt 25 (.alt 27 (.alt 28 (.take 29 <| .alt 31 (.done) .stop) .stop) (.alt 28 (.alt 27 (.take 29 <| .alt 31 (.done) .stop) .stop) .stop)) (.alt 28 (.alt 25 (.alt 27 (.take 29 <| .alt 31 (.done) .stop) .stop) .stop) .stop)) (.alt 28 (.alt 23 (.alt 25 (.alt 27 (.take 29 <| .alt 31 (.done) .stop) .stop) .stop) .stop) .stop)) (.alt 28 (.alt 14 (.take 15 <| .take 16 <| .tak2 17 <| .alt 23 (.alt 25 (.alt 27 (.take 29 <| .alt 31 (.done) .stop) .stop) .stop) .stop) .stop) .stop)) (.alt 28 (.alt 8 (.alt 14 (.take 15 <| .take 16 <| .tak2 17 <| .alt 23 (.alt 25 (.alt 27 (.take 29 <| .alt 31 (.done) .stop) .stop) .stop) .stop) .stop) .stop) .stop)) (.alt 28 (.alt 1 (.take 2 <| .alt 8 (.alt 14 (.take 15 <| .take 16 <| .tak2 17 <| .alt 23 (.alt 25 (.alt 27 (.take 29 <| .alt 31 (.done) .stop) .stop) .stop) .stop) .stop) .stop) .stop) .stop)) .stop))), (4, [8], .take 0 <| .take 1 <| .take 2 <| .take 3 <| .take 4 <| .alt 5 (.take 6 <| .take 7 <| .alt 8 (.done) .stop) .stop), (11, [5, 7, 9], .take 0 <| .take 2 <| .take 3 <| .take 4 <| .alt 1 (.alt 5 (.alt 6 (.alt 7 (.take 8 <| .alt 9 (.done) .stop) .stop) .stop) .stop) (.alt 5 (.take 1 <| .alt 6 (.alt 7 (.take 8 <| .alt 9 (.done) .stop) .stop) .stop) .stop))] _ _ ?_
            simp [-List.getD_eq_getElem?_getD, c_drawMessage, c_srcNext, c_peer, c_chance, c_l08Term, c_drawEntry, hno, hm, MG.pv, w5, w6, hK]
            refine fun _ => ⟨fun hk hl => ⟨by decide +kernel, g1.mono (by omega), by omega, fun _ => ⟨⟨k - 1, (pickR es0 s datL).2, _, ⟨⟨rfl, rfl⟩, rfl, by omega⟩, (pickR_ok hc g1 (by omega)).mono (by omega), by omega, ?_, ?_⟩, by omega⟩⟩, fun h => ?_⟩
            · simp; omega
            · rw [g4]
              obtain ⟨j, rfl⟩ : ∃ j, k = j + 1 := ⟨k - 1, by omega⟩
              rw [entD, if_pos hl]; rfl
            · have : mdEs es0 dd = (acc, s) := by
                rw [g4]
                cases k with
                | zero => rfl
                | succ j => rw [entD, if_neg (by have := h (by omega); omega)]
              rw [this]; exact ⟨rfl, rfl, rfl⟩
        · have hL2 : (es.length : Int) < ix := by omega
          rw [if_neg (by omega), if_pos ⟨hK, hL2⟩] at hlt
          refine hW.vc [(1, [1, 8, 14, 23, 25, 27, 31], .take 0 <| .take 3 <| .take 4 <| .take 6 <| .take 9 <| .take 11 <| .take 13 <| .take 18 <| .take 19 <| .take 24 <| .take 26 <| .tak2 5 <| .tak2 7 <| .tak2 10 <| .tak2 12 <| .tak2 20 <| .tak2 21 <| .take 22 <| .alt 1 (.take 2 <| .alt 8 (.alt 14 (.take 15 <| .take 16 <| .tak2 17 <| .alt 23 (.alt 25 (.alt 27 (.alt 28 (.take 29 <| .alt 30 (.alt 31 (.done) .stop) .stop) (.alt 30 (.alt 28 (.take 29 <| .alt 31 (.done) .stop) .stop) .stop)) (.alt 28 (.alt 27 (.take 29 <| .alt 30 (.alt 31 (.done) .stop) .stop) (.alt 30 (.alt 27 (.take 29 <| .alt 31 (.done) .stop) .stop) .stop)) (.alt 30 (.alt 27 (.alt 28 (.take 29 <| .alt 31 (.done) .stop) .stop) (.alt 28 (.alt 27 (.take 29 <| .alt 31 (.done) .stop) .stop) .stop)) .stop))) (.alt 28 (.alt 25 (.alt 27 (.take 29 <| .alt 30 (.alt 31 (.done) .stop) .stop) (.alt 30 (.alt 27 (.take 29 <| .alt 31 (.done) .stop) .stop) .stop)) (.alt 30 (.alt 25 (.alt 27 (.take 29 <| .alt 31 (.done) .stop) .stop) .stop) .stop)) (.alt 30 (.alt 25 (.alt 27 (.alt 28 (.take 29 <| .alt 31 (.done) .stop) .stop) (.alt 28 (.alt 27 (.take 29 <| .alt 31 (.done) .stop) .stop) .stop)) (.alt 28 (.alt 25 (.alt 27 (.take 29 <| .alt 31 (.done) .stop) .stop) .stop) .stop)) .stop))) (.alt 28 (.alt 23 (.alt 25 (.alt 27 (.take 29 <| .alt 30 (.alt 31 (.done) .stop) .stop) (.alt 30 (.alt 27 (.take 29 <| .alt 31 (.done) .stop) .stop) .stop)) (.alt 30 (.alt 25 (.alt 27 (.take 29 <| .alt 31 (.done) .stop) .stop) .stop) .stop)) (.alt 30 (.alt 23 (.alt 25 (.alt 27 (.take 29 <| .alt 31 (.done) .stop) .stop) .stop) .stop) .stop)) (.alt 30 (.alt 23 (.alt 25 (.alt 27 (.alt 28 (.take 29 <| .alt 31 (.done) .stop) .stop) (.alt 28 (.alt 27 (.take 29 <| .alt 31 (.done) .stop) .stop) .stop)) (.alt 28 (.alt 25 (.alt 27 (.take 29 <| .alt 31 (.done) .stop) .stop) .stop) .stop)) (.alt 28 (.alt 23 (.alt 25 (.alt 27 (.take 29 <| .alt 31 (.done) .stop) .stop) .stop) .stop) .stop)) .stop))) (.alt 28 (.alt 14 (.take 15 <| .take 16 <| .tak2 17 <| .alt 23 (.alt 25 (.alt 27 (.take 29 <| .alt 30 (.alt 31 (.done) .stop) .stop) (.alt 30 (.alt 27 (.take 29 <| .alt 31 (.done) .stop) .stop) .stop)) (.alt 30 (.alt 25 (.alt 27 (.take 29 <| .alt 31 (.done) .stop) .stop) .stop) .stop)) (.alt 30 (.alt 23 (.alt 25 (.alt 27 (.take 29 <| .alt 31 (.done) .stop) .stop) .stop) .stop) .stop)) (.alt 30 (.alt 14 (.take 15 <| .take 16 <| .tak2 17 <| .alt 23 (.alt 25 (.alt 27 (.take 29 <| .alt 31 (.done) .stop) .stop) .stop) .stop) .stop) .stop)) (.alt 30 (.alt 14 (.take 15 <| .take 16 <| .tak2 17 <| .alt 23 (.alt 25 (.alt 27 (.alt 28 (.take 29 <| .alt 31 (.done) .stop) .stop) (.alt 28 (.alt 27 (.take 29 <| .alt 31 (.done) .stop) .stop) .stop)) (.alt 28 (.alt 25 (.alt 27 (.take 29 <| .alt 31 (.done) .stop) .stop) .stop) .stop)) (.alt 28 (.alt 23 (.alt 25 (.alt 27 (.take 29 <| .alt 31 (.done) .stop) .stop) .stop) .stop) .stop)) (.alt 28 (.alt 14 (.take 15 <| .take 16 <| .tak2 17 <| .alt 23 (.alt 25 (.alt 27 (.take 29 <| .alt 31 (.done) .stop) .stop) .stop) .stop) .stop) .stop)) .stop))) (.alt 28 (.alt 8 (.alt 14 (.take 15 <| .take 16 <| .tak2 17 <| .alt 23 (.alt 25 (.alt 27 (.take 29 <| .alt 30 (.alt 31 (.done) .stop) .stop) (.alt 30 (.alt 27 (.take 29 <| .alt 31 (.done) .stop) .stop) .stop)) (.alt 30 (.alt 25 (.alt 27 (.take 29 <| .alt 31 (.done) .stop) .stop) .stop) .stop)) (.alt 30 (.alt 23 (.alt 25 (.alt 27 (.take 29 <| .alt 31 (.done) .stop) .stop) .stop) .stop) .stop)) (.alt 30 (.alt 14 (.take 15 <| .take 16 <| .tak2 17 <| .alt 23 (.alt 25 (.alt 27 (.take 29 <| .alt 31 (.done) .stop) .stop) .stop) .stop) .stop) .stop)) (.alt 30 (.alt 8 (.alt 14 (.take 15 <| .take 16 <| .tak2 17 <| .alt 23 (.alt 25 (.alt 27 (.take 29 <| .alt 31 (.done) .stop) .stop) .stop) .stop) .stop) .stop) .stop)) (.alt 30 (.alt 8 (.alt 14 (.take 15 <| .take 16 <| .tak2 17 <| .alt 23 (.alt 25 (.alt 27 (.alt 28 (.take 29 <| .alt 31 (.done) .stop) .stop) (.alt 28 (.alt 27 (.take 29 <| .alt 31 (.done) .stop) .stop) .stop)) (.alt 28 (.alt 25 (.alt 27 (.take 29 <| .alt 31 (.done) .stop) .stop) .stop) .stop)) (.alt 28 (.alt 23 (.alt 25 (.alt 27 (.take 29 <| .alt 31 (.done) .stop) .stop) .stop) .stop) .stop)) (.alt 28 (.alt 14 (.take 15 <| .take 16 <| .tak2 17 <| .alt 23 (.alt 25 (.alt 27 (.take 29 <| .alt 31 (.done) .stop) .stop) .stop) .stop) .stop) .stop)) (.alt 28 (.alt 8 (.alt 14 (.take 15 <| .take 16 <| .tak2 17 <| .alt 23 (.alt 25 (.alt 27 (.take 29 <| .alt 31 (.done) .stop) .stop) .stop) .stop) .stop) .stop) .stop)) .stop))) (.alt 28 (.alt 1 (.take 2 <| .alt 8 (.alt 14 (.take 15 <| .take 16 <| .tak2 17 <| .alt 23 (.alt 25 (.alt 27 (.take 29 <| .alt 30 (.alt 31 (.done) .stop) .stop) (.alt 30 (.alt 27 (.take 29 <| .alt 31 (.done) .stop) .stop) .stop)) (.alt 30 (.alt 25 (.alt 27 (.take 29 <| .alt 31 (.done) .stop) .stop) .stop) .stop)) (.alt 30 (.alt 23 (.alt 25 (.alt 27 (.take 29 <| .alt 31 (.done) .stop) .stop) .stop) .stop) .stop)) (.alt 30 (.alt 14 (.take 15 <| .take 16 <| .tak2 17 <| .alt 23 (.alt 25 (.alt 27 (.take 29 <| .alt 31 (.done) .stop) .stop) .stop) .stop) .stop) .stop)) (.alt 30 (.alt 8 (.alt 14 (.take 15 <| .take 16 <| .tak2 17 <| .alt 23 (.alt 25 (.alt 27 (.take 29 <| .alt 31 (.done) .stop) .stop) .stop) .stop) .stop) .stop) .stop)) (.alt 30 (.alt 1 (.take 2 <| .alt 8 (.alt 14 (.take 15 <| .take 16 <| .tak2 17 <| .alt 23 (.alt 25 (.alt 27 (.take 29 <| .alt 31 (.done) .stop) .stop) .stop) .stop) .stop) .stop) .stop) .stop)) (.alt 30 (.alt 1 (.take 2 <| .alt 8 (.alt 14 (.take 15 <| .take 16 <| .tak2 17 <| .alt 23 (.alt 25 (.alt 27 (.alt 28 (.take 29 <| .alt 31 (.done) .stop) .stop) (.alt 28 (.alt 27 (.take 29 <| .alt 31 (.done) .stop) .stop) .stop)) (.alt 28 (.alt 25 (.alt 27 (.take 29 <| .alt 31 (.done) .stop) .stop) .stop) .stop)) (.alt 28 (.alt 23 (.alt 25 (.alt 27 (.take 29 <| .alt 31 (.done) .stop) .stop) .stop) .stop) .stop)) (.alt 28 (.alt 14 (.take 15 <| .take 16 <| .tak2 17 <| .alt 23 (.alt 25 (.alt 27 (.take 29 <| .alt 31 (.done) .stop) .stop) .stop) .stop) .stop) .stop)) (.alt 28 (.alt 8 (.alt 14 (.take 15 <| .take 16 <| .tak2 17 <| .alt 23 (.alt 25 (.alt 27 (.take 29 <| .alt 31 (.done) .stop) .stop) .stop) .stop) .stop) .stop) .stop)) (.alt 28 (.alt 1 (.take 2 <| .alt 8 (.alt 14 (.take 15 <| .take 16 <| .tak2 17 <| .alt 23 (.alt 25 (.alt 27 (.take 29 <| .alt 31 (.done) .stop) .stop) .stop) .stop) .stop) .stop) .stop) .stop)) .stop))), (4, [8], .take 0 <| .take 1 <| .take 2 <| .take 3 <| .take 4 <| .alt 5 (.take 6 <| .take 7 <| .alt 8 (.done) .stop) .stop), (11, [5, 7, 9], .take 0 <| .take 2 <| .take 3 <| .take 4 <| .alt 1 (.alt 5 (.alt 6 (.alt 7 (.take 8 <| .alt 9 (.done) .stop) .stop) .stop) .stop) (.alt 5 (.take 1 <| .alt 6 (.alt 7 (.take 8 <| .alt 9 (.done) .stop) .stop) .stop) .stop))] _ _ ?_
          simp [-List.getD_eq_getElem?_getD, c_drawMessage, c_srcNext, c_peer, c_chance, c_l08Term, c_drawEntry, ← hix, ← htt, ← hg, hK, h0, hL, hL2, hno, hm, MG.pv]
          refine fun _ => ⟨sf, ?_⟩
          refine hW.loopS _ _ _ [.bs 0 [.list (.int .u8), .int .i64, .int .i64], .bx 5 [.int .i64, .int .i64, .int .i64, .int .i64, .int .i64, .int .i64, .int .i64, .bool, .list (.agg [.int .i64, .str])], .sl 6 .dp (.int .i64)] (fun ys => ∃ (k : Nat) (s : Src) (acc : List PV), ys = [.agg [.list es0, .int .i64 s.p, .int .i64 s.q], .agg [.int .i64 3, .int .i64 b.1, .int .i64 n0, .int .i64 tt, .int .i64 ix, .int .i64 (mdLt nd dd), .int .i64 e.1, .bool (f.1 == 1), .list acc], .int .i64 k] ∧ srcOk s.p s.q (3 * k) ∧ k ≤ 2 ∧ acc.length ≤ 60 ∧ mdEs es0 dd = entD es0 tt ix k s acc) (fun ys => (nth ys 2).I.toNat) ?_ ?_
          · simp [-List.getD_eq_getElem?_getD, c_drawMessage, c_srcNext, c_peer, c_chance, c_l08Term, c_drawEntry]
            exact ⟨g.1.toNat, g.2, [], ⟨⟨rfl, rfl⟩, ⟨hlt.symm, rfl⟩, by omega⟩, kg.1.mono (by omega), by omega, by decide, hE⟩
          · rintro ys ⟨k, s, acc, rfl, g1, g2, g3, g4⟩
            have w5 : IntKind.i64.wrap ((acc.length : Int) + ix) = acc.length + ix := wrap64 (by omega)
            have w6 : IntKind.i64.wrap ((k : Int) - 1) = k - 1 := wrap64 (by omega)
            refine hW.vc [(1, [1, 8, 14, 23, 25, 27, 31], .take 0 <| .take 3 <| .take 4 <| .take 6 <| .take 9 <| .take 11 <| .take 13 <| .take 18 <| .take 19 <| .take 24 <| .take 26 <| .tak2 5 <| .tak2 7 <| .tak2 10 <| .tak2 12 <| .tak2 20 <| .tak2 21 <| .take 22 <| .alt 1 (.take 2 <| .alt 8 (.alt 14 (.take 15 <| .take 16 <| .tak2 17 <| .alt 23 (.alt 25 (.alt 27 (.alt 28 (.take 29 <| .alt 30 (.alt 31 (.done) .stop) .stop) (.alt 30 (.alt 28 (.take 29 <| .alt 31 (.done) .stop) .stop) .stop)) (.alt 28 (.alt 27 (.take 29 <| .alt 30 (.alt 31 (.done) .stop) .stop) (.alt 30 (.alt 27 (.take 29 <| .alt 31 (.done) .stop) .stop) .stop)) (.alt 30 (.alt 27 (.alt 28 (.take 29 <| .alt 31 (.done) .stop) .stop) (.alt 28 (.alt 27 (.take 29 <| .alt 31 (.done) .stop) .stop) .stop)) .stop))) (.alt 28 (.alt 25 (.alt 27 (.take 29 <| .alt 30 (.alt 31 (.done) .stop) .stop) (.alt 30 (.alt 27 (.take 29 <| .alt 31 (.done) .stop) .stop) .stop)) (.alt 30 (.alt 25 (.alt 27 (.take 29 <| .alt 31 (.done) .stop) .stop) .stop) .stop)) (.alt 30 (.alt 25 (.alt 27 (.alt 28 (.take 29 <| .alt 31 (.done) .stop) .stop) (.alt 28 (.alt 27 (.take 29 <| .alt 31 (.done) .stop) .stop) .stop)) (.alt 28 (.alt 25 (.alt 27 (.take 29 <| .alt 31 (.done) .stop) .stop) .stop) .stop)) .stop))) (.alt 28 (.alt 23 (.alt 25 (.alt 27 (.take 29 <| .alt 30 (.alt 31 (.done) .stop) .stop) (.alt 30 (.alt 27 (.take 29 <| .alt 31 (.done) .stop) .stop) .stop)) (.alt 30 (.alt 25 (.alt 27 (.take 29 <| .alt 31 (.done) .stop) .stop) .stop) .stop)) (.alt 30 (.alt 23 (.alt 25 (.alt 27 (.take 29 <| .alt 31 (.done) .stop) .stop) .stop) .stop) .stop)) (.alt 30 (.alt 23 (.alt 25 (.alt 27 (.alt 28 (.take 29 <| .alt 31 (.done) .stop) .stop) (.alt 28 (.alt 27 (.take 29 <| .alt 31 (.done) .stop) .stop) .stop)) (.alt 28 (.alt 25 (.alt 27 (.take 29 <| .alt 31 (.done) .stop) .stop) .stop) .stop)) (.alt 28 (.alt 23 (.alt 25 (.alt 27 (.take 29 <| .alt 31 (.done) .stop) .stop) .stop) .stop) .stop)) .stop))) (.alt 28 (.alt 14 (.take 15 <| .take 16 <| .tak2 17 <| .alt 23 (.alt 25 (.alt 27 (.take 29 <| .alt 30 (.alt 31 (.done) .stop) .stop) (.alt 30 (.alt 27 (.take 29 <| .alt 31 (.done) .stop) .stop) .stop)) (.alt 30 (.alt 25 (.alt 27 (.take 29 <| .alt 31 (.done) .stop) .stop) .stop) .stop)) (.alt 30 (.alt 23 (.alt 25 (.alt 27 (.take 29 <| .alt 31 (.done) .stop) .stop) .stop) .stop) .stop)) (.alt 30 (.alt 14 (.take 15 <| .take 16 <| .tak2 17 <| .alt 23 (.alt 25 (.alt 27 (.take 29 <| .alt 31 (.done) .stop) .stop) .stop) .stop) .stop) .stop)) (.alt 30 (.alt 14 (.take 15 <| .take 16 <| .tak2 17 <| .alt 23 (.alt 25 (.alt 27 (.alt 28 (.take 29 <| .alt 31 (.done) .stop) .stop) (.alt 28 (.alt 27 (.take 29 <| .alt 31 (.done) .stop) .stop) .stop)) (.alt 28 (.alt 25 (.alt 27 (.take 29 <| .alt 31 (.done) .stop) .stop) .stop) .stop)) (.alt 28 (.alt 23 (.alt 25 (.alt 27 (.take 29 <| .alt 31 (.done) .stop) .stop) .stop) .stop) .stop)) (.alt 28 (.alt 14 (.take 15 <| .take 16 <| .tak2 17 <| .alt 23 (.alt 25 (.alt 27 (.take 29 <| .alt 31 (.done) .stop) .stop) .stop) .stop) .stop) .stop)) .stop))) (.alt 28 (.alt 8 (.alt 14 (.take 15 <| .take 16 <| .tak2 17 <| .alt 23 (.alt 25 (.alt 27 (.take 29 <| .alt 30 (.alt 31 (.done) .stop) .stop) (.alt 30 (.alt 27 (.take 29 <| .alt 31 (.done) .stop) .stop) .stop)) (.alt 30 (.alt 25 (.alt 27 (.take 29 <| .alt 31 (.done) .stop) .stop) .stop) .stop)) (.alt 30 (.alt 23 (.alt 25 (.alt 27 (.take 29 <| .alt 31 (.done) .stop) .stop) .stop) .stop) .stop)) (.alt 30 (.alt 14 (.take 15 <| .take 16 <| .tak2 17 <| .alt 23 (.alt 25 (.alt 27 (.take 29 <| .alt 31 (.done) .stop) .stop) .stop) .stop) .stop) .stop)) (.alt 30 (.alt 8 (.alt 14 (.take 15 <| .take 16 <| .tak2 17 <| .alt 23 (.alt 25 (.alt 27 (.take 29 <| .alt 31 (.done) .stop) .stop) .stop) .stop) .stop) .stop) .stop)) (.alt 30 (.alt 8 (.alt 14 (.take 15 <| .take 16 <| .tak2 17 <| .alt 23 (.alt 25 (.alt 27 (.alt 28 (.take 29 <| .alt 31 (.done) .stop) .stop) (.alt 28 (.alt 27 (.take 29 <| .alt 31 (.done) .stop) .stop) .stop)) (.alt 28 (.alt 25 (.alt 27 (.take 29 <| .alt 31 (.done) .stop) .stop) .stop) .stop)) (.alt 28 (.alt 23 (.alt 25 (.alt 27 (.take 29 <| .alt 31 (.done) .stop) .stop) .stop) .stop) .stop)) (.alt 28 (.alt 14 (.take 15 <| .take 16 <| .tak2 17 <| .alt 23 (.alt 25 (.alt 27 (.take 29 <| .alt 31 (.done) .stop) .stop) .stop) .stop) .stop) .stop)) (.alt 28 (.alt 8 (.alt 14 (.take 15 <| .take 16 <| .tak2 17 <| .alt 23 (.alt 25 (.alt 27 (.take 29 <| .alt 31 (.done) .stop) .stop) .stop) .stop) .stop) .stop) .stop)) .stop))) (.alt 28 (.alt 1 (.take 2 <| .alt 8 (.alt 14 (.take 15 <| .take 16 <| .tak2 17 <| .alt 23 (.alt 25 (.alt 27 (.take 29 <| .alt 30 (.alt 31 (.done) .stop) .stop) (.alt 30 (.alt 27 (.take 29 <| .alt 31 (.done) .stop) .stop) .stop)) (.alt 30 (.alt 25 (.alt 27 (.take 29 <| .alt 31 (.done) .stop) .stop) .stop) .stop)) (.alt 30 (.alt 23 (.alt 25 (.alt 27 (.take 29 <| .alt 31 (.done) .stop) .stop) .stop) .stop) .stop)) (.alt 30 (.alt 14 (.take 15 <| .take 16 <| .tak2 17 <| .alt 23 (.alt 25 (.alt 27 (.take 29 <| .alt 31 (.done) .stop) .stop) .stop) .stop) .stop) .stop)) (.alt 30 (.alt 8 (.alt 14 (.take 15 <| .take 16 <| .tak2 17 <| .alt 23 (.alt 25 (.alt 27 (.take 29 <| .alt 31 (.done) .stop) .stop) .stop) .stop) .stop) .stop) .stop)) (.alt 30 (.alt 1 (.take 2 <| .alt 8 (.alt 14 (.take 15 <| .take 16 <| .tak2 17 <| .alt 23 (.alt 25 (.alt 27 (.take 29 <| .alt 31 (.done) .stop) .stop) .stop) .stop) .stop) .stop) .stop) .stop)) (.alt 30 (.alt 1 (.take 2 <| .alt 8 (.alt 14 (.take 15 <| .take 16 <| .tak2 17 <| .alt 23 (.alt 25 (.alt 27 (.alt 28 (.take 29 <| .alt 31 (.done) .stop) .stop) (.alt 28 (.alt 27 (.take 29 <| .alt 31 (.done) .stop) .stop) .stop)) (.alt 28 (.alt 25 (.alt 27 (.take 29 <| .alt 31 (.done) .stop) .stop) .stop) .stop)) (.alt 28 (.alt 23 (.alt 25 (.alt 27 (.take 29 <| .alt 31 (.done) .stop) .stop) .stop) .stop) .stop)) (.alt 28 (.alt 14 (.take 15 <| .take 16 <| .tak2 17 <| .alt 23 (.alt 25 (.alt 27 (.take 29 <| .alt 31 (.done) .stop) .stop) .stop) .stop) .stop) .stop)) (.alt 28 (.alt 8 (.alt 14 (.take 15 <| .take 16 <| .tak2 17 <| .alt 23 (.alt 25 (.alt 27 (.take 29 <| .alt 31 (.done) .stop) .stop) .stop) .stop) .stop) .stop) .stop)) (.alt 28 (.alt 1 (.take 2 <| .alt 8 (.alt 14 (.take 15 <| .take 16 <| .tak2 17 <| .alt 23 (.alt 25 (.alt 27 (.take 29 <| .alt 31 (.done) .stop) .stop) .stop) .stop) .stop) .stop) .stop) .stop)) .stop))), (4, [8], .take 0 <| .take 1 <| .take 2 <| .take 3 <| .take 4 <| .alt 5 (.take 6 <| .take 7 <| .alt 8 (.done) .stop) .stop), (11, [5, 7, 9], .take 0 <| .take 2 <| .take 3 <| .take 4 <| .alt 1 (.alt 5 (.alt 6 (.alt 7 (.take 8 <| .alt 9 (.done) .stop) .stop) .stop) .stop) (.alt 5 (.take 1 <| .alt 6 (.alt 7 (.take 8 <| .alt 9 (.done) .stop) .stop) .stop) .stop))] _ _ ?_
            simp [-List.getD_eq_getElem?_getD, c_drawMessage, c_srcNext, c_peer, c_chance, c_l08Term, c_drawEntry, hno, hm, MG.pv, w5, w6, hK]
            refine fun _ => ⟨fun hk hl => ⟨by decide +kernel, g1.mono (by omega), by omega, fun _ => ⟨⟨k - 1, (pickR es0 s datL).2, _, ⟨⟨rfl, rfl⟩, rfl, by omega⟩, (pickR_ok hc g1 (by omega)).mono (by omega), by omega, ?_, ?_⟩, by omega⟩⟩, fun h => ?_⟩
            · simp; omega
            · rw [g4]
              obtain ⟨j, rfl⟩ : ∃ j, k = j + 1 := ⟨k - 1, by omega⟩
              rw [entD, if_pos hl]; rfl
            · have : mdEs es0 dd = (acc, s) := by
                rw [g4]
                cases k with
                | zero => rfl
                | succ j => rw [entD, if_neg (by have := h (by omega); omega)]
              rw [this]; exact ⟨rfl, rfl, rfl⟩
      · have hz : ix = 0 := by omega
        have hL2 : ¬ ((es.length : Int) < ix) := by omega
        rw [if_neg (by omega), if_neg (by omega)] at hlt
        refine hW.vc [(1, [1, 8, 14, 23, 25, 27, 31], .take 0 <| .take 3 <| .take 4 <| .take 6 <| .take 9 <| .take 11 <| .take 13 <| .take 18 <| .take 19 <| .take 24 <| .take 26 <| .tak2 5 <| .tak2 7 <| .tak2 10 <| .tak2 12 <| .tak2 20 <| .tak2 21 <| .take 22 <| .alt 1 (.take 2 <| .alt 8 (.alt 14 (.take 15 <| .take 16 <| .tak2 17 <| .alt 23 (.alt 25 (.alt 27 (.alt 28 (.take 29 <| .alt 30 (.alt 31 (.done) .stop) .stop) (.alt 30 (.alt 28 (.take 29 <| .alt 31 (.done) .stop) .stop) .stop)) (.alt 28 (.alt 27 (.take 29 <| .alt 30 (.alt 31 (.done) .stop) .stop) (.alt 30 (.alt 27 (.take 29 <| .alt 31 (.done) .stop) .stop) .stop)) (.alt 30 (.alt 27 (.alt 28 (.take 29 <| .alt 31 (.done) .stop) .stop) (.alt 28 (.alt 27 (.take 29 <| .alt 31 (.done) .stop) .stop) .stop)) .stop))) (.alt 28 (.alt 25 (.alt 27 (.take 29 <| .alt 30 (.alt 31 (.done) .stop) .stop) (.alt 30 (.alt 27 (.take 29 <| .alt 31 (.done) .stop) .stop) .stop)) (.alt 30 (.alt 25 (.alt 27 (.take 29 <| .alt 31 (.done) .stop) .stop) .stop) .stop)) (.alt 30 (.alt 25 (.alt 27 (.alt 28 (.take 29 <| .alt 31 (.done) .stop) .stop) (.alt 28 (.alt 27 (.take 29 <| .alt 31 (.done) .stop) .stop) .stop)) (.alt 28 (.alt 25 (.alt 27 (.take 29 <| .alt 31 (.done) .stop) .stop) .stop) .stop)) .stop))) (.alt 28 (.alt 23 (.alt 25 (.alt 27 (.take 29 <| .alt 30 (.alt 31 (.done) .stop) .stop) (.alt 30 (.alt 27 (.take 29 <| .alt 31 (.done) .stop) .stop) .stop)) (.alt 30 (.alt 25 (.alt 27 (.take 29 <| .alt 31 (.done) .stop) .stop) .stop) .stop)) (.alt 30 (.alt 23 (.alt 25 (.alt 27 (.take 29 <| .alt 31 (.done) .stop) .stop) .stop) .stop) .stop)) (.alt 30 (.alt 23 (.alt 25 (.alt 27 (.alt 28 (.take 29 <| .alt 31 (.done) .stop) .stop) (.alt 28 (.alt 27 (.take 29 <| .alt 31 (.done) .stop) .stop) .stop)) (.alt 28 (.alt 25 (.alt 27 (.take 29 <| .alt 31 (.done) .stop) .stop) .stop) .stop)) (.alt 28 (.alt 23 (.alt 25 (.alt 27 (.take 29 <| .alt 31 (.done) .stop) .stop) .stop) .stop) .stop)) .stop))) (.alt 28 (.alt 14 (.take 15 <| .take 16 <| .tak2 17 <| .alt 23 (.alt 25 (.alt 27 (.take 29 <| .alt 30 (.alt 31 (.done) .stop) .stop) (.alt 30 (.alt 27 (.take 29 <| .alt 31 (.done) .stop) .stop) .stop)) (.alt 30 (.alt 25 (.alt 27 (.take 29 <| .alt 31 (.done) .stop) .stop) .stop) .stop)) (.alt 30 (.alt 23 (.alt 25 (.alt 27 (.take 29 <| .alt 31 (.done) .stop) .stop) .stop) .stop) .stop)) (.alt 30 (.alt 14 (.take 15 <| .take 16 <| .tak2 17 <| .alt 23 (.alt 25 (.alt 27 (.take 29 <| .alt 31 (.done) .stop) .stop) .stop) .stop) .stop) .stop)) (.alt 30 (.alt 14 (.take 15 <| .take 16 <| .tak2 17 <| .alt 23 (.alt 25 (.alt 27 (.alt 28 (.take 29 <| .alt 31 (.done) .stop) .stop) (.alt 28 (.alt 27 (.take 29 <| .alt 31 (.done) .stop) .stop) .stop)) (.alt 28 (.alt 25 (.alt 27 (.take 29 <| .alt 31 (.done) .stop) .stop) .stop) .stop)) (.alt 28 (.alt 23 (.alt 25 (.alt 27 (.take 29 <| .alt 31 (.done) .stop) .stop) .stop) .stop) .stop)) (.alt 28 (.alt 14 (.take 15 <| .take 16 <| .tak2 17 <| .alt 23 (.alt 25 (.alt 27 (.take 29 <| .alt 31 (.done) .stop) .stop) .stop) .stop) .stop) .stop)) .stop))) (.alt 28 (.alt 8 (.alt 14 (.take 15 <| .take 16 <| .tak2 17 <| .alt 23 (.alt 25 (.alt 27 (.take 29 <| .alt 30 (.alt 31 (.done) .stop) .stop) (.alt 30 (.alt 27 (.take 29 <| .alt 31 (.done) .stop) .stop) .stop)) (.alt 30 (.alt 25 (.alt 27 (.take 29 <| .alt 31 (.done) .stop) .stop) .stop) .stop)) (.alt 30 (.alt 23 (.alt 25 (.alt 27 (.take 29 <| .alt 31 (.done) .stop) .stop) .stop) .stop) .stop)) (.alt 30 (.alt 14 (.take 15 <| .take 16 <| .tak2 17 <| .alt 23 (.alt 25 (.alt 27 (.take 29 <| .alt 31 (.done) .stop) .stop) .stop) .stop) .stop) .stop)) (.alt 30 (.alt 8 (.alt 14 (.take 15 <| .take 16 <| .tak2 17 <| .alt 23 (.alt 25 (.alt 27 (.take 29 <| .alt 31 (.done) .stop) .stop) .stop) .stop) .stop) .stop) .stop)) (.alt 30 (.alt 8 (.alt 14 (.take 15 <| .take 16 <| .tak2 17 <| .alt 23 (.alt 25 (.alt 27 (.alt 28 (.take 29 <| .alt 31 (.done) .stop) .stop) (.alt 28 (.alt 27 (.take 29 <| .alt 31 (.done) .stop) .stop) .stop)) (.alt 28 (.alt 25 (.alt 27 (.take 29 <| .alt 31 (.done) .stop) .stop) .stop) .stop)) (.alt 28 (.alt 23 (.alt 25 (.alt 27 (.take 29 <| .alt 31 (.done) .stop) .stop) .stop) .stop) .stop)) (.alt 28 (.alt 14 (.take 15 <| .take 16 <| .tak2 17 <| .alt 23 (.alt 25 (.alt 27 (.take 29 <| .alt 31 (.done) .stop) .stop) .stop) .stop) .stop) .stop)) (.alt 28 (.alt 8 (.alt 14 (.take 15 <| .take 16 <| .tak2 17 <| .alt 23 (.alt 25 (.alt 27 (.take 29 <| .alt 31 (.done) .stop) .stop) .stop) .stop) .stop) .stop) .stop)) .stop))) (.alt 28 (.alt 1 (.take 2 <| .alt 8 (.alt 14 (.take 15 <| .take 16 <| .tak2 17 <| .alt 23 (.alt 25 (.alt 27 (.take 29 <| .alt 30 (.alt 31 (.done) .stop) .stop) (.alt 30 (.alt 27 (.take 29 <| .alt 31 (.done) .stop) .stop) .stop)) (.alt 30 (.alt 25 (.alt 27 (.take 29 <| .alt 31 (.done) .stop) .stop) .stop) .stop)) (.alt 30 (.alt 23 (.alt 25 (.alt 27 (.take 29 <| .alt 31 (.done) .stop) .stop) .stop) .stop) .stop)) (.alt 30 (.alt 14 (.take 15 <| .take 16 <| .tak2 17 <| .alt 23 (.alt 25 (.alt 27 (.take 29 <| .alt 31 (.done) .stop) .stop) .stop) .stop) .stop) .stop)) (.alt 30 (.alt 8 (.alt 14 (.take 15 <| .take 16 <| .tak2 17 <| .alt 23 (.alt 25 (.alt 27 (.take 29 <| .alt 31 (.done) .stop) .stop) .stop) .stop) .stop) .stop) .stop)) (.alt 30 (.alt 1 (.take 2 <| .alt 8 (.alt 14 (.take 15 <| .take 16 <| .tak2 17 <| .alt 23 (.alt 25 (.alt 27 (.take 29 <| .alt 31 (.done) .stop) .stop) .stop) .stop) .stop) .stop) .stop) .stop)) (.alt 30 (.alt 1 (.take 2 <| .alt 8 (.alt 14 (.take 15 <| .take 16 <| .tak2 17 <| .alt 23 (.alt 25 (.alt 27 (.alt 28 (.take 29 <| .alt 31 (.done) .stop) .stop) (.alt 28 (.alt 27 (.take 29 <| .alt 31 (.done) .stop) .stop) .stop)) (.alt 28 (.alt 25 (.alt 27 (.take 29 <| .alt 31 (.done) .stop) .stop) .stop) .stop)) (.alt 28 (.alt 23 (.alt 25 (.alt 27 (.take 29 <| .alt 31 (.done) .stop) .stop) .stop) .stop) .stop)) (.alt 28 (.alt 14 (.take 15 <| .take 16 <| .tak2 17 <| .alt 23 (.alt 25 (.alt 27 (.take 29 <| .alt 31 (.done) .stop) .stop) .stop) .stop) .stop) .stop)) (.alt 28 (.alt 8 (.alt 14 (.take 15 <| .take 16 <| .tak2 17 <| .alt 23 (.alt 25 (.alt 27 (.take 29 <| .alt 31 (.done) .stop) .stop) .stop) .stop) .stop) .stop) .stop)) (.alt 28 (.alt 1 (.take 2 <| .alt 8 (.alt 14 (.take 15 <| .take 16 <| .tak2 17 <| .alt 23 (.alt 25 (.alt 27 (.take 29 <| .alt 31 (.done) .stop) .stop) .stop) .stop) .stop) .stop) .stop) .stop)) .stop))), (4, [8], .take 0 <| .take 1 <| .take 2 <| .take 3 <| .take 4 <| .alt 5 (.take 6 <| .take 7 <| .alt 8 (.done) .stop) .stop), (11, [5, 7, 9], .take 0 <| .take 2 <| .take 3 <| .take 4 <| .alt 1 (.alt 5 (.alt 6 (.alt 7 (.take 8 <| .alt 9 (.done) .stop) .stop) .stop) .stop) (.alt 5 (.take 1 <| .alt 6 (.alt 7 (.take 8 <| .alt 9 (.done) .stop) .stop) .stop) .stop))] _ _ ?_
        simp [-List.getD_eq_getElem?_getD, c_drawMessage, c_srcNext, c_peer, c_chance, c_l08Term, c_drawEntry, ← hix, ← htt, ← hg, hK, h0, hL2, hno, hm, MG.pv]
        refine fun _ => ⟨sf, ?_⟩
        refine hW.loopS _ _ _ [.bs 0 [.list (.int .u8), .int .i64, .int .i64], .bx 5 [.int .i64, .int .i64, .int .i64, .int .i64, .int .i64, .int .i64, .int .i64, .bool, .list (.agg [.int .i64, .str])], .sl 6 .dp (.int .i64)] (fun ys => ∃ (k : Nat) (s : Src) (acc : List PV), ys = [.agg [.list es0, .int .i64 s.p, .int .i64 s.q], .agg [.int .i64 3, .int .i64 b.1, .int .i64 n0, .int .i64 tt, .int .i64 ix, .int .i64 (mdLt nd dd), .int .i64 e.1, .bool (f.1 == 1), .list acc], .int .i64 k] ∧ srcOk s.p s.q (3 * k) ∧ k ≤ 2 ∧ acc.length ≤ 60 ∧ mdEs es0 dd = entD es0 tt ix k s acc) (fun ys => (nth ys 2).I.toNat) ?_ ?_
        · simp [-List.getD_eq_getElem?_getD, c_drawMessage, c_srcNext, c_peer, c_chance, c_l08Term, c_drawEntry]
          exact ⟨g.1.toNat, g.2, [], ⟨⟨rfl, rfl⟩, ⟨hlt.symm, rfl⟩, by omega⟩, kg.1.mono (by omega), by omega, by decide, hE⟩
        · rintro ys ⟨k, s, acc, rfl, g1, g2, g3, g4⟩
          have w5 : IntKind.i64.wrap ((acc.length : Int) + ix) = acc.length + ix := wrap64 (by omega)
          have w6 : IntKind.i64.wrap ((k : Int) - 1) = k - 1 := wrap64 (by omega)
          refine hW.vc [(1, [1, 8, 14, 23, 25, 27, 31], .take 0 <| .take 3 <| .take 4 <| .take 6 <| .take 9 <| .take 11 <| .take 13 <| .take 18 <| .take 19 <| .take 24 <| .take 26 <| .tak2 5 <| .tak2 7 <| .tak2 10 <| .tak2 12 <| .tak2 20 <| .tak2 21 <| .take 22 <| .alt 1 (.take 2 <| .alt 8 (.alt 14 (.take 15 <| .take 16 <| .tak2 17 <| .alt 23 (.alt 25 (.alt 27 (.alt 28 (.take 29 <| .alt 30 (.alt 31 (.done) .stop) .stop) (.alt 30 (.alt 28 (.take 29 <| .alt 31 (.done) .stop) .stop) .stop)) (.alt 28 (.alt 27 (.take 29 <| .alt 30 (.alt 31 (.done) .stop) .stop) (.alt 30 (.alt 27 (.take 29 <| .alt 31 (.done) .stop) .stop) .stop)) (.alt 30 (.alt 27 (.alt 28 (.take 29 <| .alt 31 (.done) .stop) .stop) (.alt 28 (.alt 27 (.take 29 <| .alt 31 (.done) .stop) .stop) .stop)) .stop))) (.alt 28 (.alt 25 (.alt 27 (.take 29 <| .alt 30 (.alt 31 (.done) .stop) .stop) (.alt 30 (.alt 27 (.take 29 <| .alt 31 (.done) .stop) .stop) .stop)) (.alt 30 (.alt 25 (.alt 27 (.take 29 <| .alt 31 (.done) .stop) .stop) .stop) .stop)) (.alt 30 (.alt 25 (.alt 27 (.alt 28 (.take 29 <| .alt 31 (.done) .stop) .stop) (.alt 28 (.alt 27 (.take 29 <| .alt 31 (.done) .stop) .stop) .stop)) (.alt 28 (.alt 25 (.alt 27 (.take 29 <| .alt 31 (.done) .stop) .stop) .stop) .stop)) .stop))) (.alt 28 (.alt 23 (.alt 25 (.alt 27 (.take 29 <| .alt 30 (.alt 31 (.done) .stop) .stop) (.alt 30 (.alt 27 (.take 29 <| .alt 31 (.done) .stop) .stop) .stop)) (.alt 30 (.alt 25 (.alt 27 (.take 29 <| .alt 31 (.done) .stop) .stop) .stop) .stop)) (.alt 30 (.alt 23 (.alt 25 (.alt 27 (.take 29 <| .alt 31 (.done) .stop) .stop) .stop) .stop) .stop)) (.alt 30 (.alt 23 (.alt 25 (.alt 27 (.alt 28 (.take 29 <| .alt 31 (.done) .stop) .stop) (.alt 28 (.alt 27 (.take 29 <| .alt 31 (.done) .stop) .stop) .stop)) (.alt 28 (.alt 25 (.alt 27 (.take 29 <| .alt 31 (.done) .stop) .stop) .stop) .stop)) (.alt 28 (.alt 23 (.alt 25 (.alt 27 (.take 29 <| .alt 31 (.done) .stop) .stop) .stop) .stop) .stop)) .stop))) (.alt 28 (.alt 14 (.take 15 <| .take 16 <| .tak2 17 <| .alt 23 (.alt 25 (.alt 27 (.take 29 <| .alt 30 (.alt 31 (.done) .stop) .stop) (.alt 30 (.alt 27 (.take 29 <| .alt 31 (.done) .stop) .stop) .stop)) (.alt 30 (.alt 25 (.alt 27 (.take 29 <| .alt 31 (.done) .stop) .stop) .stop) .stop)) (.alt 30 (.alt 23 (.alt 25 (.alt 27 (.take 29 <| .alt 31 (.done) .stop) .stop) .stop) .stop) .stop)) (.alt 30 (.alt 14 (.take 15 <| .take 16 <| .tak2 17 <| .alt 23 (.alt 25 (.alt 27 (.take 29 <| .alt 31 (.done) .stop) .stop) .stop) .stop) .stop) .stop)) (.alt 30 (.alt 14 (.take 15 <| .take 16 <| .tak2 17 <| .alt 23 (.alt 25 (.alt 27 (.alt 28 (.take 29 <| .alt 31 (.done) .stop) .stop) (.alt 28 (.alt 27 (.take 29 <| .alt 31 (.done) .stop) .stop) .stop)) (.alt 28 (.alt 25 (.alt 27 (.take 29 <| .alt 31 (.done) .stop) .stop) .stop) .stop)) (.alt 28 (.alt 23 (.alt 25 (.alt 27 (.take 29 <| .alt 31 (.done) .stop) .stop) .stop) .stop) .stop)) (.alt 28 (.alt 14 (.take 15 <| .take 16 <| .tak2 17 <| .alt 23 (.alt 25 (.alt 27 (.take 29 <| .alt 31 (.done) .stop) .stop) .stop) .stop) .stop) .stop)) .stop))) (.alt 28 (.alt 8 (.alt 14 (.take 15 <| .take 16 <| .tak2 17 <| .alt 23 (.alt 25 (.alt 27 (.take 29 <| .alt 30 (.alt 31 (.done) .stop) .stop) (.alt 30 (.alt 27 (.take 29 <| .alt 31 (.done) .stop) .stop) .stop)) (.alt 30 (.alt 25 (.alt 27 (.take 29 <| .alt 31 (.done) .stop) .stop) .stop) .stop)) (.alt 30 (.alt 23 (.alt 25 (.alt 27 (.take 29 <| .alt 31 (.done) .stop) .stop) .stop) .stop) .stop)) (.alt 30 (.alt 14 (.take 15 <| .take 16 <| .tak2 17 <| .alt 23 (.alt 25 (.alt 27 (.take 29 <| .alt 31 (.done) .stop) .stop) .stop) .stop) .stop) .stop)) (.alt 30 (.alt 8 (.alt 14 (.take 15 <| .take 16 <| .tak2 17 <| .alt 23 (.alt 25 (.alt 27 (.take 29 <| .alt 31 (.done) .stop) .stop) .stop) .stop) .stop) .stop) .stop)) (.alt 30 (.alt 8 (.alt 14 (.take 15 <| .take 16 <| .tak2 17 <| .alt 23 (.alt 25 (.alt 27 (.alt 28 (.take 29 <| .alt 31 (.done) .stop) .stop) (.alt 28 (.alt 27 (.take 29 <| .alt 31 (.done) .stop) .stop) .stop)) (.alt 28 (.alt 25 (.alt 27 (.take 29 <| .alt 31 (.done) .stop) .stop) .stop) .stop)) (.alt 28 (.alt 23 (.alt 25 (.alt 27 (.take 29 <| .alt 31 (.done) .stop) .stop) .stop) .stop) .stop)) (.alt 28 (.alt 14 (.take 15 <| .take 16 <| .tak2 17 <| .alt 23 (.alt 25 (.alt 27 (.take 29 <| .alt 31 (.done) .stop) .stop) .stop) .stop) .stop) .stop)) (.alt 28 (.alt 8 (.alt 14 (.take 15 <| .take 16 <| .tak2 17 <| .alt 23 (.alt 25 (.alt 27 (.take 29 <| .alt 31 (.done) .stop) .stop) .stop) .stop) .stop) .stop) .stop)) .stop))) (.alt 28 (.alt 1 (.take 2 <| .alt 8 (.alt 14 (.take 15 <| .take 16 <| .tak2 17 <| .alt 23 (.alt 25 (.alt 27 (.take 29 <| .alt 30 (.alt 31 (.done) .stop) .stop) (.alt 30 (.alt 27 (.take 29 <| .alt 31 (.done) .stop) .stop) .stop)) (.alt 30 (.alt 25 (.alt 27 (.take 29 <| .alt 31 (.done) .stop) .stop) .stop) .stop)) (.alt 30 (.alt 23 (.alt 25 (.alt 27 (.take 29 <| .alt 31 (.done) .stop) .stop) .stop) .stop) .stop)) (.alt 30 (.alt 14 (.take 15 <| .take 16 <| .tak2 17 <| .alt 23 (.alt 25 (.alt 27 (.take 29 <| .alt 31 (.done) .stop) .stop) .stop) .stop) .stop) .stop)) (.alt 30 (.alt 8 (.alt 14 (.take 15 <| .take 16 <| .tak2 17 <| .alt 23 (.alt 25 (.alt 27 (.take 29 <| .alt 31 (.done) .stop) .stop) .stop) .stop) .stop) .stop) .stop)) (.alt 30 (.alt 1 (.take 2 <| .alt 8 (.alt 14 (.take 15 <| .take 16 <| .tak2 17 <| .alt 23 (.alt 25 (.alt 27 (.take 29 <| .alt 31 (.done) .stop) .stop) .stop) .stop) .stop) .stop) .stop) .stop)) (.alt 30 (.alt 1 (.take 2 <| .alt 8 (.alt 14 (.take 15 <| .take 16 <| .tak2 17 <| .alt 23 (.alt 25 (.alt 27 (.alt 28 (.take 29 <| .alt 31 (.done) .stop) .stop) (.alt 28 (.alt 27 (.take 29 <| .alt 31 (.done) .stop) .stop) .stop)) (.alt 28 (.alt 25 (.alt 27 (.take 29 <| .alt 31 (.done) .stop) .stop) .stop) .stop)) (.alt 28 (.alt 23 (.alt 25 (.alt 27 (.take 29 <| .alt 31 (.done) .stop) .stop) .stop) .stop) .stop)) (.alt 28 (.alt 14 (.take 15 <| .take 16 <| .tak2 17 <| .alt 23 (.alt 25 (.alt 27 (.take 29 <| .alt 31 (.done) .stop) .stop) .stop) .stop) .stop) .stop)) (.alt 28 (.alt 8 (.alt 14 (.take 15 <| .take 16 <| .tak2 17 <| .alt 23 (.alt 25 (.alt 27 (.take 29 <| .alt 31 (.done) .stop) .stop) .stop) .stop) .stop) .stop) .stop)) (.alt 28 (.alt 1 (.take 2 <| .alt 8 (.alt 14 (.take 15 <| .take 16 <| .tak2 17 <| .alt 23 (.alt 25 (.alt 27 (.take 29 <| .alt 31 (.done) .stop) .stop) .stop) .stop) .stop) .stop) .stop) .stop)) .stop))), (4, [8], .take 0 <| .take 1 <| .take 2 <| .take 3 <| .take 4 <| .alt 5 (.take 6 <| .take 7 <| .alt 8 (.done) .stop) .stop), (11, [5, 7, 9], .take 0 <| .take 2 <| .take 3 <| .take 4 <| .alt 1 (.alt 5 (.alt 6 (.alt 7 (.take 8 <| .alt 9 (.done) .stop) .stop) .stop) .stop) (.alt 5 (.take 1 <| .alt 6 (.alt 7 (.take 8 <| .alt 9 (.done) .stop) .stop) .stop) .stop))] _ _ ?_
          simp [-List.getD_eq_getElem?_getD, c_drawMessage, c_srcNext, c_peer, c_chance, c_l08Term, c_drawEntry, hno, hm, MG.pv, w5, w6, hK]
          refine fun _ => ⟨fun hk hl => ⟨by decide +kernel, g1.mono (by omega), by omega, fun _ => ⟨⟨k - 1, (pickR es0 s datL).2, _, ⟨⟨rfl, rfl⟩, rfl, by omega⟩, (pickR_ok hc g1 (by omega)).mono (by omega), by omega, ?_, ?_⟩, by omega⟩⟩, fun h => ?_⟩
          · simp; omega
          · rw [g4]
            obtain ⟨j, rfl⟩ : ∃ j, k = j + 1 := ⟨k - 1, by omega⟩
            rw [entD, if_pos hl]; rfl
          · have : mdEs es0 dd = (acc, s) := by
              rw [g4]
              cases k with
              | zero => rfl
              | succ j => rw [entD, if_neg (by have := h (by omega); omega)]
            rw [this]; exact ⟨rfl, rfl, rfl⟩
    · have hE : mdEs es0 dd = ([], f.2) := by rw [mdEs, hdd, if_neg hK]
      refine hW.vc [(1, [1, 8, 14, 23, 25, 27, 31], .take 0 <| .take 3 <| .take 4 <| .take 6 <| .take 9 <| .take 11 <| .take 13 <| .take 18 <| .take 19 <| .take 24 <| .take 26 <| .tak2 5 <| .tak2 7 <| .tak2 10 <| .tak2 12 <| .tak2 20 <| .tak2 21 <| .take 22 <| .alt 1 (.take 2 <| .alt 8 (.alt 14 (.take 15 <| .take 16 <| .tak2 17 <| .alt 23 (.alt 25 (.alt 27 (.alt 28 (.take 29 <| .alt 30 (.alt 31 (.done) .stop) .stop) (.alt 30 (.alt 28 (.take 29 <| .alt 31 (.done) .stop) .stop) .stop)) (.alt 28 (.alt 27 (.take 29 <| .alt 30 (.alt 31 (.done) .stop) .stop) (.alt 30 (.alt 27 (.take 29 <| .alt 31 (.done) .stop) .stop) .stop)) (.alt 30 (.alt 27 (.alt 28 (.take 29 <| .alt 31 (.done) .stop) .stop) (.alt 28 (.alt 27 (.take 29 <| .alt 31 (.done) .stop) .stop) .stop)) .stop))) (.alt 28 (.alt 25 (.alt 27 (.take 29 <| .alt 30 (.alt 31 (.done) .stop) .stop) (.alt 30 (.alt 27 (.take 29 <| .alt 31 (.done) .stop) .stop) .stop)) (.alt 30 (.alt 25 (.alt 27 (.take 29 <| .alt 31 (.done) .stop) .stop) .stop) .stop)) (.alt 30 (.alt 25 (.alt 27 (.alt 28 (.take 29 <| .alt 31 (.done) .stop) .stop) (.alt 28 (.alt 27 (.take 29 <| .alt 31 (.done) .stop) .stop) .stop)) (.alt 28 (.alt 25 (.alt 27 (.take 29 <| .alt 31 (.done) .stop) .stop) .stop) .stop)) .stop))) (.alt 28 (.alt 23 (.alt 25 (.alt 27 (.take 29 <| .alt 30 (.alt 31 (.done) .stop) .stop) (.alt 30 (.alt 27 (.take 29 <| .alt 31 (.done) .stop) .stop) .stop)) (.alt 30 (.alt 25 (.alt 27 (.take 29 <| .alt 31 (.done) .stop) .stop) .stop) .stop)) (.alt 30 (.alt 23 (.alt 25 (.alt 27 (.take 29 <| .alt 31 (.done) .stop) .stop) .stop) .stop) .stop)) (.alt 30 (.alt 23 (.alt 25 (.alt 27 (.alt 28 (.take 29 <| .alt 31 (.done) .stop) .stop) (.alt 28 (.alt 27 (.take 29 <| .alt 31 (.done) .stop) .stop) .stop)) (.alt 28 (.alt 25 (.alt 27 (.take 29 <| .alt 31 (.done) .stop) .stop) .stop) .stop)) (.alt 28 (.alt 23 (.alt 25 (.alt 27 (.take 29 <| .alt 31 (.done) .stop) .stop) .stop) .stop) .stop)) .stop))) (.alt 28 (.alt 14 (.take 15 <| .take 16 <| .tak2 17 <| .alt 23 (.alt 25 (.alt 27 (.take 29 <| .alt 30 (.alt 31 (.done) .stop) .stop) (.alt 30 (.alt 27 (.take 29 <| .alt 31 (.done) .stop) .stop) .stop)) (.alt 30 (.alt 25 (.alt 27 (.take 29 <| .alt 31 (.done) .stop) .stop) .stop) .stop)) (.alt 30 (.alt 23 (.alt 25 (.alt 27 (.take 29 <| .alt 31 (.done) .stop) .stop) .stop) .stop) .stop)) (.alt 30 (.alt 14 (.take 15 <| .take 16 <| .tak2 17 <| .alt 23 (.alt 25 (.alt 27 (.take 29 <| .alt 31 (.done) .stop) .stop) .stop) .stop) .stop) .stop)) (.alt 30 (.alt 14 (.take 15 <| .take 16 <| .tak2 17 <| .alt 23 (.alt 25 (.alt 27 (.alt 28 (.take 29 <| .alt 31 (.done) .stop) .stop) (.alt 28 (.alt 27 (.take 29 <| .alt 31 (.done) .stop) .stop) .stop)) (.alt 28 (.alt 25 (.alt 27 (.take 29 <| .alt 31 (.done) .stop) .stop) .stop) .stop)) (.alt 28 (.alt 23 (.alt 25 (.alt 27 (.take 29 <| .alt 31 (.done) .stop) .stop) .stop) .stop) .stop)) (.alt 28 (.alt 14 (.take 15 <| .take 16 <| .tak2 17 <| .alt 23 (.alt 25 (.alt 27 (.take 29 <| .alt 31 (.done) .stop) .stop) .stop) .stop) .stop) .stop)) .stop))) (.alt 28 (.alt 8 (.alt 14 (.take 15 <| .take 16 <| .tak2 17 <| .alt 23 (.alt 25 (.alt 27 (.take 29 <| .alt 30 (.alt 31 (.done) .stop) .stop) (.alt 30 (.alt 27 (.take 29 <| .alt 31 (.done) .stop) .stop) .stop)) (.alt 30 (.alt 25 (.alt 27 (.take 29 <| .alt 31 (.done) .stop) .stop) .stop) .stop)) (.alt 30 (.alt 23 (.alt 25 (.alt 27 (.take 29 <| .alt 31 (.done) .stop) .stop) .stop) .stop) .stop)) (.alt 30 (.alt 14 (.take 15 <| .take 16 <| .tak2 17 <| .alt 23 (.alt 25 (.alt 27 (.take 29 <| .alt 31 (.done) .stop) .stop) .stop) .stop) .stop) .stop)) (.alt 30 (.alt 8 (.alt 14 (.take 15 <| .take 16 <| .tak2 17 <| .alt 23 (.alt 25 (.alt 27 (.take 29 <| .alt 31 (.done) .stop) .stop) .stop) .stop) .stop) .stop) .stop)) (.alt 30 (.alt 8 (.alt 14 (.take 15 <| .take 16 <| .tak2 17 <| .alt 23 (.alt 25 (.alt 27 (.alt 28 (.take 29 <| .alt 31 (.done) .stop) .stop) (.alt 28 (.alt 27 (.take 29 <| .alt 31 (.done) .stop) .stop) .stop)) (.alt 28 (.alt 25 (.alt 27 (.take 29 <| .alt 31 (.done) .stop) .stop) .stop) .stop)) (.alt 28 (.alt 23 (.alt 25 (.alt 27 (.take 29 <| .alt 31 (.done) .stop) .stop) .stop) .stop) .stop)) (.alt 28 (.alt 14 (.take 15 <| .take 16 <| .tak2 17 <| .alt 23 (.alt 25 (.alt 27 (.take 29 <| .alt 31 (.done) .stop) .stop) .stop) .stop) .stop) .stop)) (.alt 28 (.alt 8 (.alt 14 (.take 15 <| .take 16 <| .tak2 17 <| .alt 23 (.alt 25 (.alt 27 (.take 29 <| .alt 31 (.done) .stop) .stop) .stop) .stop) .stop) .stop) .stop)) .stop))) (.alt 28 (.alt 1 (.take 2 <| .alt 8 (.alt 14 (.take 15 <| .take 16 <| .tak2 17 <| .alt 23 (.alt 25 (.alt 27 (.take 29 <| .alt 30 (.alt 31 (.done) .stop) .stop) (.alt 30 (.alt 27 (.take 29 <| .alt 31 (.done) .stop) .stop) .stop)) (.alt 30 (.alt 25 (.alt 27 (.take 29 <| .alt 31 (.done) .stop) .stop) .stop) .stop)) (.alt 30 (.alt 23 (.alt 25 (.alt 27 (.take 29 <| .alt 31 (.done) .stop) .stop) .stop) .stop) .stop)) (.alt 30 (.alt 14 (.take 15 <| .take 16 <| .tak2 17 <| .alt 23 (.alt 25 (.alt 27 (.take 29 <| .alt 31 (.done) .stop) .stop) .stop) .stop) .stop) .stop)) (.alt 30 (.alt 8 (.alt 14 (.take 15 <| .take 16 <| .tak2 17 <| .alt 23 (.alt 25 (.alt 27 (.take 29 <| .alt 31 (.done) .stop) .stop) .stop) .stop) .stop) .stop) .stop)) (.alt 30 (.alt 1 (.take 2 <| .alt 8 (.alt 14 (.take 15 <| .take 16 <| .tak2 17 <| .alt 23 (.alt 25 (.alt 27 (.take 29 <| .alt 31 (.done) .stop) .stop) .stop) .stop) .stop) .stop) .stop) .stop)) (.alt 30 (.alt 1 (.take 2 <| .alt 8 (.alt 14 (.take 15 <| .take 16 <| .tak2 17 <| .alt 23 (.alt 25 (.alt 27 (.alt 28 (.take 29 <| .alt 31 (.done) .stop) .stop) (.alt 28 (.alt 27 (.take 29 <| .alt 31 (.done) .stop) .stop) .stop)) (.alt 28 (.alt 25 (.alt 27 (.take 29 <| .alt 31 (.done) .stop) .stop) .stop) .stop)) (.alt 28 (.alt 23 (.alt 25 (.alt 27 (.take 29 <| .alt 31 (.done) .stop) .stop) .stop) .stop) .stop)) (.alt 28 (.alt 14 (.take 15 <| .take 16 <| .tak2 17 <| .alt 23 (.alt 25 (.alt 27 (.take 29 <| .alt 31 (.done) .stop) .stop) .stop) .stop) .stop) .stop)) (.alt 28 (.alt 8 (.alt 14 (.take 15 <| .take 16 <| .tak2 17 <| .alt 23 (.alt 25 (.alt 27 (.take 29 <| .alt 31 (.done) .stop) .stop) .stop) .stop) .stop) .stop) .stop)) (.alt 28 (.alt 1 (.take 2 <| .alt 8 (.alt 14 (.take 15 <| .take 16 <| .tak2 17 <| .alt 23 (.alt 25 (.alt 27 (.take 29 <| .alt 31 (.done) .stop) .stop) .stop) .stop) .stop) .stop) .stop) .stop)) .stop))), (4, [8], .take 0 <| .take 1 <| .take 2 <| .take 3 <| .take 4 <| .alt 5 (.take 6 <| .take 7 <| .alt 8 (.done) .stop) .stop), (11, [5, 7, 9], .take 0 <| .take 2 <| .take 3 <| .take 4 <| .alt 1 (.alt 5 (.alt 6 (.alt 7 (.take 8 <| .alt 9 (.done) .stop) .stop) .stop) .stop) (.alt 5 (.take 1 <| .alt 6 (.alt 7 (.take 8 <| .alt 9 (.done) .stop) .stop) .stop) .stop))] _ _ ?_
      simp [-List.getD_eq_getElem?_getD, c_drawMessage, c_srcNext, c_peer, c_chance, c_l08Term, c_drawEntry, ← hix, ← htt, hK, hno, hm, MG.pv, hE]
      refine fun _ => ⟨fun h0 hL => ⟨by decide +kernel, ⟨ix0, hL⟩, ?_⟩, fun h => ?_⟩
      · exact (hlt.trans (if_pos ⟨h0, hL⟩)).symm
      · exact (hlt.trans ((if_neg (fun q => by have := h q.1; omega)).trans (if_neg (fun q => hK q.1)))).symm
def c_drawNode : FSpec := ⟨[(.bs, .box [.list (.int .u8), .int .i64, .int .i64])], [.agg [.int .i64, .int .i64, .int .i64, .int .i64, .int .i64, .bool, .list (.agg [.int .i64, .str]), .int .i64, .int .i64, .int .i64, .list (.int .i64), .list (.int .i64), .list (.int .i64)]], true, fun ps => srcOk (nth (nth ps 0).A 1).I (nth (nth ps 0).A 2).I 1000, fun ps => [(drwR (nth (nth ps 0).A 0).L ⟨(nth (nth ps 0).A 1).I, (nth (nth ps 0).A 2).I⟩).1.pv], fun ps => [.agg [.list [], .int .i64 (drwR (nth (nth ps 0).A 0).L ⟨(nth (nth ps 0).A 1).I, (nth (nth ps 0).A 2).I⟩).2.p, .int .i64 (drwR (nth (nth ps 0).A 0).L ⟨(nth (nth ps 0).A 1).I, (nth (nth ps 0).A 2).I⟩).2.q]]⟩
set_option maxHeartbeats 4000000 in
theorem k_drawNode : FnOk Try.prog 27 c_drawNode := by
  refine fn_mk [0, 2, 3, 4, 5, 6, 26] [.cell 2 26] (env_cons (cs := []) k_l08Own (env_cons (cs := []) k_l08Tick (env_cons (cs := []) k_peer (env_cons (cs := []) k_sNodeOK (env_cons (cs := []) k_l08Take (env_cons (cs := []) k_drawMessage (env_cons (cs := []) k_l08ProposeW (env_cons (cs := []) k_l08New (env_cons (cs := []) k_srcNext (env_nil (tyTab_ok []))))))))))) mixed Try.func27 rfl (by decide) rfl (by decide) rfl ?_
  intro ps hT hpre W hW
  simp only [c_drawNode, TyA, Ty, Tys] at hT hpre
  obtain ⟨_, _, rfl, ⟨_, rfl, _, _, rfl, ⟨es0, rfl, hes0, tes0⟩, _, _, rfl, ⟨p, rfl, hp⟩, _, _, rfl, ⟨q, rfl, hq⟩, rfl⟩, rfl⟩ := hT
  simp only [nth_zero, nth_succ, pv_A, pv_I, pv_L, pv_B, ndOf] at hpre
  have hc := codeOk_ty tes0
  have hx : ∀ j : Int, (nth [PV.int .i64 3, PV.int .i64 3, PV.int .i64 5, PV.int .i64 1] j.toNat).I = dNs j := fun _ => rfl
  obtain ⟨a, ha⟩ : ∃ a, a = srcN es0 ⟨p, q⟩ 4 := ⟨_, rfl⟩
  obtain ⟨N0, hN⟩ : ∃ N0, N0 = dNs a.1 := ⟨_, rfl⟩
  obtain ⟨b, hb⟩ : ∃ b, b = srcN es0 a.2 N0 := ⟨_, rfl⟩
  obtain ⟨c, hcc⟩ : ∃ c, c = srcN es0 b.2 20 := ⟨_, rfl⟩
  have ka := srcN_ok (s := ⟨p, q⟩) (n := 4) hc hpre (by omega)
  rw [← ha] at ka
  have ka2 := ka.2.2 (by omega)
  have kn := dNs_in ka.2.1 ka2
  rw [← hN] at kn
  have kb := srcN_ok (n := N0) hc ka.1 (by omega)
  rw [← hb] at kb
  have kb2 := kb.2.2 kn.1
  have kc := srcN_ok (n := 20) hc kb.1 (by omega)
  rw [← hcc] at kc
  have kc2 := kc.2.2 (by omega)
  have hR : drwR es0 ⟨p, q⟩ = drwL es0 N0 c.1.toNat c.2 (newND b.1 N0 0 (-1) []) := by rw [drwR, ← ha, ← hN, ← hb, ← hcc]
  refine hW.vc [(12, [3, 9], .take 1 <| .take 2 <| .tak2 0 <| .alt 3 (.alt 4 (.take 5 <| .take 6 <| .alt 7 (.alt 8 (.alt 9 (.alt 10 (.done) .stop) .stop) .stop) (.alt 8 (.alt 7 (.alt 9 (.alt 10 (.done) .stop) .stop) (.alt 9 (.take 7 <| .alt 10 (.done) .stop) .stop)) .stop)) (.alt 8 (.alt 4 (.take 5 <| .take 6 <| .alt 7 (.alt 9 (.alt 10 (.done) .stop) .stop) (.alt 9 (.take 7 <| .alt 10 (.done) .stop) .stop)) .stop) .stop)) (.alt 8 (.alt 3 (.alt 4 (.take 5 <| .take 6 <| .alt 7 (.alt 9 (.alt 10 (.done) .stop) .stop) (.alt 9 (.take 7 <| .alt 10 (.done) .stop) .stop)) .stop) .stop) .stop)), (17, [5, 15], .take 1 <| .take 2 <| .take 3 <| .take 4 <| .take 6 <| .take 8 <| .alt 0 (.alt 5 (.take 7 <| .take 9 <| .take 10 <| .alt 11 (.take 12 <| .take 13 <| .alt 14 (.alt 15 (.done) .stop) (.alt 15 (.take 14 <| .done) .stop)) .stop) (.alt 7 (.alt 5 (.take 9 <| .take 10 <| .alt 11 (.take 12 <| .take 13 <| .alt 14 (.alt 15 (.done) .stop) (.alt 15 (.take 14 <| .done) .stop)) .stop) (.alt 9 (.alt 5 (.take 10 <| .alt 11 (.take 12 <| .take 13 <| .alt 14 (.alt 15 (.done) .stop) (.alt 15 (.take 14 <| .done) .stop)) .stop) .stop) .stop)) (.alt 9 (.alt 5 (.take 7 <| .take 10 <| .alt 11 (.take 12 <| .take 13 <| .alt 14 (.alt 15 (.done) .stop) (.alt 15 (.take 14 <| .done) .stop)) .stop) (.alt 7 (.alt 5 (.take 10 <| .alt 11 (.take 12 <| .take 13 <| .alt 14 (.alt 15 (.done) .stop) (.alt 15 (.take 14 <| .done) .stop)) .stop) .stop) .stop)) .stop))) (.alt 5 (.take 0 <| .take 7 <| .take 9 <| .take 10 <| .alt 11 (.take 12 <| .take 13 <| .alt 14 (.alt 15 (.done) .stop) (.alt 15 (.take 14 <| .done) .stop)) .stop) (.alt 7 (.alt 0 (.alt 5 (.take 9 <| .take 10 <| .alt 11 (.take 12 <| .take 13 <| .alt 14 (.alt 15 (.done) .stop) (.alt 15 (.take 14 <| .done) .stop)) .stop) (.alt 9 (.alt 5 (.take 10 <| .alt 11 (.take 12 <| .take 13 <| .alt 14 (.alt 15 (.done) .stop) (.alt 15 (.take 14 <| .done) .stop)) .stop) .stop) .stop)) (.alt 5 (.take 0 <| .take 9 <| .take 10 <| .alt 11 (.take 12 <| .take 13 <| .alt 14 (.alt 15 (.done) .stop) (.alt 15 (.take 14 <| .done) .stop)) .stop) (.alt 9 (.alt 0 (.alt 5 (.take 10 <| .alt 11 (.take 12 <| .take 13 <| .alt 14 (.alt 15 (.done) .stop) (.alt 15 (.take 14 <| .done) .stop)) .stop) .stop) (.alt 5 (.take 0 <| .take 10 <| .alt 11 (.take 12 <| .take 13 <| .alt 14 (.alt 15 (.done) .stop) (.alt 15 (.take 14 <| .done) .stop)) .stop) .stop)) .stop))) (.alt 9 (.alt 0 (.alt 5 (.take 7 <| .take 10 <| .alt 11 (.take 12 <| .take 13 <| .alt 14 (.alt 15 (.done) .stop) (.alt 15 (.take 14 <| .done) .stop)) .stop) (.alt 7 (.alt 5 (.take 10 <| .alt 11 (.take 12 <| .take 13 <| .alt 14 (.alt 15 (.done) .stop) (.alt 15 (.take 14 <| .done) .stop)) .stop) .stop) .stop)) (.alt 5 (.take 0 <| .take 7 <| .take 10 <| .alt 11 (.take 12 <| .take 13 <| .alt 14 (.alt 15 (.done) .stop) (.alt 15 (.take 14 <| .done) .stop)) .stop) (.alt 7 (.alt 0 (.alt 5 (.take 10 <| .alt 11 (.take 12 <| .take 13 <| .alt 14 (.alt 15 (.done) .stop) (.alt 15 (.take 14 <| .done) .stop)) .stop) .stop) (.alt 5 (.take 0 <| .take 10 <| .alt 11 (.take 12 <| .take 13 <| .alt 14 (.alt 15 (.done) .stop) (.alt 15 (.take 14 <| .done) .stop)) .stop) .stop)) .stop))) .stop)))), (7, [2, 7], .take 1 <| .alt 0 (.alt 2 (.alt 3 (.take 4 <| .take 5 <| .alt 6 (.alt 7 (.done) .stop) (.alt 7 (.take 6 <| .done) .stop)) .stop) .stop) (.alt 2 (.take 0 <| .alt 3 (.take 4 <| .take 5 <| .alt 6 (.alt 7 (.done) .stop) (.alt 7 (.take 6 <| .done) .stop)) .stop) .stop))] _ _ ?_
  simp [-List.getD_eq_getElem?_getD, c_drawNode, c_srcNext, c_l08New, c_l08ProposeW, c_drawMessage, c_l08Take, c_sNodeOK, c_peer, c_l08Tick, c_l08Own, c_isNode, c_toNode, newND, ND.pv, c_isNode, c_toNode, hx, ← ha, ← hN, ← hb, ← hcc, hR]
  refine ⟨rfl, hpre.mono (by omega), ⟨ka.2.1, ka2⟩, ka2, fun _ => ⟨ka.1.mono (by omega), ⟨kb.2.1, by omega, kn⟩, kb.1.mono (by omega), ?_⟩⟩
  refine hW.loopS _ _ _ [.bs 0 [.list (.int .u8), .int .i64, .int .i64], .bx 4 [.int .i64, .int .i64, .int .i64, .int .i64, .int .i64, .bool, .list (.agg [.int .i64, .str]), .int .i64, .int .i64, .int .i64, .list (.int .i64), .list (.int .i64), .list (.int .i64)], .sl 5 .dp (.int .i64)] (fun ys => ∃ (k : Nat) (s : Src) (n : ND), ys = [.agg [.list es0, .int .i64 s.p, .int .i64 s.q], n.pv, .int .i64 k] ∧ srcOk s.p s.q (40 * k) ∧ Gd n (20 - k) ∧ n.nodes = N0 ∧ k ≤ 20 ∧ drwR es0 ⟨p, q⟩ = drwL es0 N0 k s n) (fun ys => (nth ys 2).I.toNat) ?_ ?_
  · simp [-List.getD_eq_getElem?_getD, c_drawNode, c_srcNext, c_l08New, c_l08ProposeW, c_drawMessage, c_l08Take, c_sNodeOK, c_peer, c_l08Tick, c_l08Own, c_isNode, c_toNode]
    exact ⟨c.1.toNat, c.2, newND b.1 N0 0 (-1) [], ⟨⟨rfl, rfl⟩, rfl, by omega⟩, kc.1.mono (by omega), (new_G kb.2.1 kb2 kn.2).mono (by omega), rfl, by omega, hR⟩
  · rintro ys ⟨k, s, n, rfl, g1, g2, g3, g4, g5⟩
    have eta : (⟨n.id, n.nodes, n.term, n.vote, n.role, n.up, n.log, n.com, n.ela, n.wt, n.vs, n.nx, n.ms⟩ : ND) = n := rfl
    have eta2 : ∀ m : MG, (⟨m.kind, m.frm, m.to, m.term, m.idx, m.lt, m.com, m.ok, m.es⟩ : MG) = m := fun _ => rfl
    obtain ⟨x, hx4⟩ : ∃ x, x = srcN es0 s 4 := ⟨_, rfl⟩
    have K : ∀ (s' : Src) (n' : ND), 0 < k → drwN es0 N0 s n = (n', s') → srcOk s'.p s'.q (40 * ((k - 1 : Nat) : Int)) ∧ Gd n' (20 - ((k - 1 : Nat) : Int)) ∧ n'.nodes = N0 ∧ drwR es0 ⟨p, q⟩ = drwL es0 N0 (k - 1) s' n' := by
      intro s' n' hk he
      have h := drwN_ok (t := 20 - k) hc g1 (by omega) g2 g3 (by omega)
      rw [he] at h
      obtain ⟨j, rfl⟩ : ∃ j, k = j + 1 := ⟨k - 1, by omega⟩
      refine ⟨h.1.mono (by omega), h.2.1.mono (by omega), h.2.2, ?_⟩
      rw [g5, drwL, he]; rfl
    have w6 : IntKind.i64.wrap ((k : Int) - 1) = k - 1 := wrap64 (by omega)
    have hF := g2.F
    have f5 := hF.n5; have f1 := hF.n1
    have hvs := vo_len' hF.vo (by omega)
    have hnx := hF.nx; have hms := hF.ms; have hl6 := hF.l6
    have gt := g2.t
    refine hW.vc [] _ _ ?_
    simp (maxSteps := 20000000) [-List.getD_eq_getElem?_getD, c_drawNode, c_srcNext, c_l08New, c_l08ProposeW, c_drawMessage, c_l08Take, c_sNodeOK, c_peer, c_l08Tick, c_l08Own, c_isNode, c_toNode, ND.pv, ndOf, c_isNode, c_toNode, eta, ← hx4, w6]
    refine ⟨fun hk => ⟨g1.mono (by omega), fun c0 => ?_, fun c0 => ⟨fun c1 => ⟨fun d1 => ?_, fun d1 => ?_⟩, fun c1 => ⟨fun c2 => ⟨?_, ?_⟩, fun c2 => ?_⟩⟩⟩, fun hk => ?_⟩
    · have hd : drwN es0 N0 s n = ((propR n dataW).1, x.2) := by rw [drwN, ← hx4, if_pos c0]
      obtain ⟨q1, q2, q3, q4⟩ := K _ _ hk hd
      exact ⟨⟨hF, by omega⟩, ⟨k - 1, x.2, (propR n dataW).1, ⟨⟨rfl, rfl⟩, by and_intros <;> rfl, by omega⟩, q1, q2, q3, by omega, q4⟩, by omega⟩
    · have km := msg_ok (n := n) hc (s := x.2) (k := 30) (by have := (srcN_ok (n := 4) hc g1 (by omega)).1; rw [← hx4] at this; exact this.mono (by omega)) (by omega) (by omega) hF (by omega)
      obtain ⟨m, hm⟩ : ∃ m, m = msgR es0 x.2 n := ⟨_, rfl⟩
      rw [← hm] at km
      obtain ⟨m1, m2, m3, m4, m5, m6, m7⟩ := km
      have hMF := mgB_F (n := n) m2 m5
      have sx : srcOk x.2.p x.2.q 30 := by have := (srcN_ok (n := 4) hc g1 (by omega)).1; rw [← hx4] at this; exact this.mono (by omega)
      obtain ⟨y, hy⟩ : ∃ y, y = (handR (newT n m.1.term) m.1).1 := ⟨_, rfl⟩
      refine hW.cutS [_] _ _ [.bs 0 [.list (.int .u8), .int .i64, .int .i64], .nb 6 26 [.int .i64, .int .i64, .int .i64, .int .i64, .int .i64, .bool, .list (.agg [.int .i64, .str]), .int .i64, .int .i64, .int .i64, .list (.int .i64), .list (.int .i64), .list (.int .i64)]] (fun ys => ys = [.agg [.list es0, .int .i64 m.2.p, .int .i64 m.2.q], y.pv]) ?_ ?_
      · refine hW.vc [(12, [3, 9], .take 1 <| .take 2 <| .tak2 0 <| .alt 3 (.alt 4 (.take 5 <| .take 6 <| .alt 7 (.alt 8 (.alt 9 (.alt 10 (.done) .stop) .stop) .stop) (.alt 8 (.alt 7 (.alt 9 (.alt 10 (.done) .stop) .stop) (.alt 9 (.take 7 <| .alt 10 (.done) .stop) .stop)) .stop)) (.alt 8 (.alt 4 (.take 5 <| .take 6 <| .alt 7 (.alt 9 (.alt 10 (.done) .stop) .stop) (.alt 9 (.take 7 <| .alt 10 (.done) .stop) .stop)) .stop) .stop)) (.alt 8 (.alt 3 (.alt 4 (.take 5 <| .take 6 <| .alt 7 (.alt 9 (.alt 10 (.done) .stop) .stop) (.alt 9 (.take 7 <| .alt 10 (.done) .stop) .stop)) .stop) .stop) .stop))] _ _ ?_
        simp (maxSteps := 20000000) [-List.getD_eq_getElem?_getD, c_drawNode, c_srcNext, c_l08New, c_l08ProposeW, c_drawMessage, c_l08Take, c_sNodeOK, c_peer, c_l08Tick, c_l08Own, c_isNode, c_toNode, ND.pv, MG.pv, ndOf, mgOf, eta, eta2, ← hm, ← hy]
        exact ⟨by decide +kernel, ⟨sx, hF, by omega, by omega⟩, hF, hMF, by omega⟩
      · rintro ys rfl
        refine hW.vc [] _ _ ?_
        simp (maxSteps := 20000000) [-List.getD_eq_getElem?_getD, c_drawNode, c_srcNext, c_l08New, c_l08ProposeW, c_drawMessage, c_l08Take, c_sNodeOK, c_peer, c_l08Tick, c_l08Own, c_isNode, c_toNode, ND.pv, ndOf, c_isNode, w6]
        refine ⟨fun hb => ?_, fun hb => ?_⟩
        · have hd : drwN es0 N0 s n = (y, m.2) := by
            rw [drwN, ← hx4, if_neg c0, if_pos c1, if_pos d1, ← hm, ← hy, if_pos (show nodeB y = true from hb)]
          obtain ⟨q1, q2, q3, q4⟩ := K _ _ hk hd
          exact ⟨⟨k - 1, m.2, y, ⟨⟨rfl, rfl⟩, by and_intros <;> rfl, by omega⟩, q1, q2, q3, by omega, q4⟩, by omega⟩
        · have hd : drwN es0 N0 s n = (n, m.2) := by
            rw [drwN, ← hx4, if_neg c0, if_pos c1, if_pos d1, ← hm, ← hy, if_neg (by rw [show nodeB y = false from hb]; simp)]
          obtain ⟨q1, q2, q3, q4⟩ := K _ _ hk hd
          exact ⟨⟨k - 1, m.2, n, ⟨⟨rfl, rfl⟩, by and_intros <;> rfl, by omega⟩, q1, q2, q3, by omega, q4⟩, by omega⟩
    · have hd : drwN es0 N0 s n = (n, x.2) := by rw [drwN, ← hx4, if_neg c0, if_pos c1, if_neg (by omega)]
      obtain ⟨q1, q2, q3, q4⟩ := K _ _ hk hd
      exact ⟨⟨k - 1, x.2, n, ⟨⟨rfl, rfl⟩, by and_intros <;> rfl, by omega⟩, q1, q2, q3, by omega, q4⟩, by omega⟩
    · refine fun d1 d2 => ?_
      have sx : srcOk x.2.p x.2.q 3 := by have := (srcN_ok (n := 4) hc g1 (by omega)).1; rw [← hx4] at this; exact this.mono (by omega)
      obtain ⟨z, hz⟩ : ∃ z, z = peerR es0 x.2 N0 n.id := ⟨_, rfl⟩
      have kz := peerR_ok (n := N0) (no := n.id) hc sx (by omega) (by omega)
      rw [← hz] at kz
      obtain ⟨z1, z2, z3, z4⟩ := kz
      have ft1 := hF.t1
      have hMF : MgF n ⟨2, z.1, n.id, n.term, 0, 0, 0, true, []⟩ := ⟨show (1 : Int) ≤ 2 by decide, show (2 : Int) ≤ 4 by decide, z2, by show z.1 < n.nodes; omega, by show 1 ≤ n.term; omega, ft1, show (0 : Int) ≤ 0 by decide, show (0 : Int) ≤ 60 by decide, show (0 : Int) ≤ 0 by decide, show (0 : Int) ≤ 60 by decide, show (0 : Nat) ≤ 60 by decide⟩
      obtain ⟨y, hy⟩ : ∃ y, y = (handR (newT n n.term) ⟨2, z.1, n.id, n.term, 0, 0, 0, true, []⟩).1 := ⟨_, rfl⟩
      refine hW.cutS [_] _ _ [.bs 0 [.list (.int .u8), .int .i64, .int .i64], .bx 4 [.int .i64, .int .i64, .int .i64, .int .i64, .int .i64, .bool, .list (.agg [.int .i64, .str]), .int .i64, .int .i64, .int .i64, .list (.int .i64), .list (.int .i64), .list (.int .i64)]] (fun ys => ys = [.agg [.list es0, .int .i64 z.2.p, .int .i64 z.2.q], y.pv]) ?_ ?_
      · refine hW.vc [(17, [5, 15], .take 1 <| .take 2 <| .take 3 <| .take 4 <| .take 6 <| .take 8 <| .alt 0 (.alt 5 (.take 7 <| .take 9 <| .take 10 <| .alt 11 (.take 12 <| .take 13 <| .alt 14 (.alt 15 (.done) .stop) (.alt 15 (.take 14 <| .done) .stop)) .stop) (.alt 7 (.alt 5 (.take 9 <| .take 10 <| .alt 11 (.take 12 <| .take 13 <| .alt 14 (.alt 15 (.done) .stop) (.alt 15 (.take 14 <| .done) .stop)) .stop) (.alt 9 (.alt 5 (.take 10 <| .alt 11 (.take 12 <| .take 13 <| .alt 14 (.alt 15 (.done) .stop) (.alt 15 (.take 14 <| .done) .stop)) .stop) .stop) .stop)) (.alt 9 (.alt 5 (.take 7 <| .take 10 <| .alt 11 (.take 12 <| .take 13 <| .alt 14 (.alt 15 (.done) .stop) (.alt 15 (.take 14 <| .done) .stop)) .stop) (.alt 7 (.alt 5 (.take 10 <| .alt 11 (.take 12 <| .take 13 <| .alt 14 (.alt 15 (.done) .stop) (.alt 15 (.take 14 <| .done) .stop)) .stop) .stop) .stop)) .stop))) (.alt 5 (.take 0 <| .take 7 <| .take 9 <| .take 10 <| .alt 11 (.take 12 <| .take 13 <| .alt 14 (.alt 15 (.done) .stop) (.alt 15 (.take 14 <| .done) .stop)) .stop) (.alt 7 (.alt 0 (.alt 5 (.take 9 <| .take 10 <| .alt 11 (.take 12 <| .take 13 <| .alt 14 (.alt 15 (.done) .stop) (.alt 15 (.take 14 <| .done) .stop)) .stop) (.alt 9 (.alt 5 (.take 10 <| .alt 11 (.take 12 <| .take 13 <| .alt 14 (.alt 15 (.done) .stop) (.alt 15 (.take 14 <| .done) .stop)) .stop) .stop) .stop)) (.alt 5 (.take 0 <| .take 9 <| .take 10 <| .alt 11 (.take 12 <| .take 13 <| .alt 14 (.alt 15 (.done) .stop) (.alt 15 (.take 14 <| .done) .stop)) .stop) (.alt 9 (.alt 0 (.alt 5 (.take 10 <| .alt 11 (.take 12 <| .take 13 <| .alt 14 (.alt 15 (.done) .stop) (.alt 15 (.take 14 <| .done) .stop)) .stop) .stop) (.alt 5 (.take 0 <| .take 10 <| .alt 11 (.take 12 <| .take 13 <| .alt 14 (.alt 15 (.done) .stop) (.alt 15 (.take 14 <| .done) .stop)) .stop) .stop)) .stop))) (.alt 9 (.alt 0 (.alt 5 (.take 7 <| .take 10 <| .alt 11 (.take 12 <| .take 13 <| .alt 14 (.alt 15 (.done) .stop) (.alt 15 (.take 14 <| .done) .stop)) .stop) (.alt 7 (.alt 5 (.take 10 <| .alt 11 (.take 12 <| .take 13 <| .alt 14 (.alt 15 (.done) .stop) (.alt 15 (.take 14 <| .done) .stop)) .stop) .stop) .stop)) (.alt 5 (.take 0 <| .take 7 <| .take 10 <| .alt 11 (.take 12 <| .take 13 <| .alt 14 (.alt 15 (.done) .stop) (.alt 15 (.take 14 <| .done) .stop)) .stop) (.alt 7 (.alt 0 (.alt 5 (.take 10 <| .alt 11 (.take 12 <| .take 13 <| .alt 14 (.alt 15 (.done) .stop) (.alt 15 (.take 14 <| .done) .stop)) .stop) .stop) (.alt 5 (.take 0 <| .take 10 <| .alt 11 (.take 12 <| .take 13 <| .alt 14 (.alt 15 (.done) .stop) (.alt 15 (.take 14 <| .done) .stop)) .stop) .stop)) .stop))) .stop))))] _ _ ?_
        simp (maxSteps := 20000000) [-List.getD_eq_getElem?_getD, c_drawNode, c_srcNext, c_l08New, c_l08ProposeW, c_drawMessage, c_l08Take, c_sNodeOK, c_peer, c_l08Tick, c_l08Own, c_isNode, c_toNode, ND.pv, ndOf, mgOf, eta, ← hz, ← hy]
        exact ⟨by decide +kernel, ⟨sx, by omega, by omega⟩, hF, hMF, by omega⟩
      · rintro ys rfl
        refine hW.vc [] _ _ ?_
        simp (maxSteps := 20000000) [-List.getD_eq_getElem?_getD, c_drawNode, c_srcNext, c_l08New, c_l08ProposeW, c_drawMessage, c_l08Take, c_sNodeOK, c_peer, c_l08Tick, c_l08Own, c_isNode, c_toNode, ND.pv, w6]
        have hd : drwN es0 N0 s n = (y, z.2) := by
          rw [drwN, ← hx4, if_neg c0, if_neg c1, if_pos c2, if_pos ⟨d1, d2⟩, ← hz, hy]; rfl
        obtain ⟨q1, q2, q3, q4⟩ := K _ _ hk hd
        exact ⟨⟨k - 1, z.2, y, ⟨⟨rfl, rfl⟩, by and_intros <;> rfl, by omega⟩, q1, q2, q3, by omega, q4⟩, by omega⟩
    · refine fun d1 => ?_
      have hd : drwN es0 N0 s n = (n, x.2) := by
        rw [drwN, ← hx4, if_neg c0, if_neg c1, if_pos c2, if_neg (fun q => by have := d1 q.1; omega)]
      obtain ⟨q1, q2, q3, q4⟩ := K _ _ hk hd
      exact ⟨⟨k - 1, x.2, n, ⟨⟨rfl, rfl⟩, by and_intros <;> rfl, by omega⟩, q1, q2, q3, by omega, q4⟩, by omega⟩
    · obtain ⟨z, hz⟩ : ∃ z, z = srcN es0 x.2 9 := ⟨_, rfl⟩
      have sx : srcOk x.2.p x.2.q 3 := by have := (srcN_ok (n := 4) hc g1 (by omega)).1; rw [← hx4] at this; exact this.mono (by omega)
      have kz := srcN_ok (n := 9) hc sx (by omega)
      rw [← hz] at kz
      have kz2 := kz.2.2 (by omega)
      obtain ⟨y, hy⟩ : ∃ y, y = (tickN n z.1).1 := ⟨_, rfl⟩
      refine hW.cutS [_] _ _ [.bs 0 [.list (.int .u8), .int .i64, .int .i64], .bx 4 [.int .i64, .int .i64, .int .i64, .int .i64, .int .i64, .bool, .list (.agg [.int .i64, .str]), .int .i64, .int .i64, .int .i64, .list (.int .i64), .list (.int .i64), .list (.int .i64)]] (fun ys => ys = [.agg [.list es0, .int .i64 z.2.p, .int .i64 z.2.q], y.pv]) ?_ ?_
      · refine hW.vc [(7, [2, 7], .take 1 <| .alt 0 (.alt 2 (.alt 3 (.take 4 <| .take 5 <| .alt 6 (.alt 7 (.done) .stop) (.alt 7 (.take 6 <| .done) .stop)) .stop) .stop) (.alt 2 (.take 0 <| .alt 3 (.take 4 <| .take 5 <| .alt 6 (.alt 7 (.done) .stop) (.alt 7 (.take 6 <| .done) .stop)) .stop) .stop))] _ _ ?_
        simp (maxSteps := 20000000) [-List.getD_eq_getElem?_getD, c_drawNode, c_srcNext, c_l08New, c_l08ProposeW, c_drawMessage, c_l08Take, c_sNodeOK, c_peer, c_l08Tick, c_l08Own, c_isNode, c_toNode, ND.pv, ndOf, eta, ← hz, ← hy]
        exact ⟨by decide +kernel, sx, hF, by omega, by omega, by omega⟩
      · rintro ys rfl
        refine hW.vc [] _ _ ?_
        simp (maxSteps := 20000000) [-List.getD_eq_getElem?_getD, c_drawNode, c_srcNext, c_l08New, c_l08ProposeW, c_drawMessage, c_l08Take, c_sNodeOK, c_peer, c_l08Tick, c_l08Own, c_isNode, c_toNode, ND.pv, w6]
        have hd : drwN es0 N0 s n = (y, z.2) := by
          rw [drwN, ← hx4, if_neg c0, if_neg c1, if_neg c2, ← hz, hy]
        obtain ⟨q1, q2, q3, q4⟩ := K _ _ hk hd
        exact ⟨⟨k - 1, z.2, y, ⟨⟨rfl, rfl⟩, by and_intros <;> rfl, by omega⟩, q1, q2, q3, by omega, q4⟩, by omega⟩
    · have hd : drwR es0 ⟨p, q⟩ = (n, s) := by rw [g5, hk]; rfl
      rw [hd]
      exact ⟨⟨by omega, by omega, by omega, by omega⟩, by and_intros <;> rfl, rfl, rfl⟩
def c_NodeOf : FSpec := ⟨[(.rd, .list (.int .u8))], [.agg [.int .i64, .int .i64, .int .i64, .int .i64, .int .i64, .bool, .list (.agg [.int .i64, .str]), .int .i64, .int .i64, .int .i64, .list (.int .i64), .list (.int .i64), .list (.int .i64)]], true, fun _ => True, fun ps => [(drwR (nth ps 0).L ⟨0, seed0 (nth ps 0).L⟩).1.pv], fun _ => []⟩
theorem k_NodeOf : FnOk Try.prog 5 c_NodeOf := by
  refine fn_mkG [0, 2] [.cell 2 26] _ sG (env_cons (cs := []) k_drawNode (env_nil (tyTab_ok []))) mixed Try.func5 rfl (by decide) rfl (by decide) rfl ?_
  intro ps hT hpre W hW hB
  simp only [c_NodeOf, TyA, Ty, Tys] at hT hpre
  obtain ⟨_, _, rfl, ⟨es, rfl, hes, tes⟩, rfl⟩ := hT
  refine hW.vc [] _ _ ?_
  simp [-List.getD_eq_getElem?_getD, c_NodeOf, c_drawNode]
  refine hB.src _ _ _ _ _ ?_
  simp [sRes, -List.getD_eq_getElem?_getD, c_NodeOf, c_drawNode]
  refine hW.vc [] _ _ ?_
  simp [-List.getD_eq_getElem?_getD, c_NodeOf, c_drawNode, ND.pv]
  have h := tm_ok (es.length : Int) 1000 (by omega) (by omega)
  exact ⟨by omega, by omega, h.1, Int.lt_trans h.2 (by omega)⟩
def c_MessageTo : FSpec := ⟨[(.rd, .list (.int .u8)), (.rd, .agg [.int .i64, .int .i64, .int .i64, .int .i64, .int .i64, .bool, .list (.agg [.int .i64, .str]), .int .i64, .int .i64, .int .i64, .list (.int .i64), .list (.int .i64), .list (.int .i64)])], [.agg [.int .i64, .int .i64, .int .i64, .int .i64, .int .i64, .int .i64, .int .i64, .bool, .list (.agg [.int .i64, .str])]], true, fun ps => NdF (ndOf (nth ps 1).A) ∧ 2 ≤ (nth (nth ps 1).A 1).I ∧ (nth (nth ps 1).A 2).I ≤ 999, fun ps => [(msgR (nth ps 0).L ⟨0, seed0 (nth ps 0).L⟩ (ndOf (nth ps 1).A)).1.pv], fun _ => []⟩
theorem k_MessageTo : FnOk Try.prog 7 c_MessageTo := by
  refine fn_mkG [0, 1, 3, 4] [.cell 4 30] _ sG (env_cons (cs := []) k_drawMessage (env_nil (tyTab_ok []))) mixed Try.func7 rfl (by decide) rfl (by decide) rfl ?_
  intro ps hT hpre W hW hB
  simp only [c_MessageTo, TyA, Ty, Tys] at hT hpre
  obtain ⟨_, _, rfl, ⟨es0, rfl, hes0, tes0⟩, _, _, rfl, ⟨_, rfl, _, _, rfl, ⟨n0, rfl, hn0⟩, _, _, rfl, ⟨n1, rfl, hn1⟩, _, _, rfl, ⟨n2, rfl, hn2⟩, _, _, rfl, ⟨n3, rfl, hn3⟩, _, _, rfl, ⟨n4, rfl, hn4⟩, _, _, rfl, ⟨u, rfl⟩, _, _, rfl, ⟨es, rfl, hes, tes⟩, _, _, rfl, ⟨n5, rfl, hn5⟩, _, _, rfl, ⟨n6, rfl, hn6⟩, _, _, rfl, ⟨n7, rfl, hn7⟩, _, _, rfl, ⟨vs, rfl, hvs, tvs⟩, _, _, rfl, ⟨xs, rfl, hxs, txs⟩, _, _, rfl, ⟨ms, rfl, hms, tms⟩, rfl⟩, rfl⟩ := hT
  simp only [nth_zero, nth_succ, pv_A, pv_I, pv_L, pv_B, ndOf] at hpre
  have h := tm_ok (es0.length : Int) 1000 (by omega) (by omega)
  have hs : srcOk 0 (seed0 es0) 30 := ⟨by omega, by omega, h.1, Int.lt_trans h.2 (by omega)⟩
  refine hW.vc [] _ _ ?_
  simp [-List.getD_eq_getElem?_getD, c_MessageTo, c_drawMessage]
  refine hW.draw _ _ _ _ fun l hl => ?_
  replace hl : l ∈ ([[0, 1, 2, 3, 4], [0, 2, 1, 3, 4], [2, 0, 1, 3, 4]] : List (List Nat)) := hl
  simp only [List.mem_cons, List.not_mem_nil, or_false] at hl
  rcases hl with rfl | rfl | rfl
  all_goals
    simp only [pickOps]
    refine hW.vc [] _ _ ?_
    simp [-List.getD_eq_getElem?_getD, c_MessageTo, c_drawMessage]
    refine hB.src _ _ _ _ _ ?_
    simp [sRes, -List.getD_eq_getElem?_getD, c_MessageTo, c_drawMessage]
    refine hW.vc [] _ _ ?_
    simp [-List.getD_eq_getElem?_getD, c_MessageTo, c_drawMessage, MG.pv, ndOf]
    exact ⟨hs, hpre⟩

end Go.Proofs.Ytkofjkjcbljkdaa
end

section
namespace Go.Proofs.Ytkofjkjcbljkdaa
variable [LaidG]
set_option maxRecDepth 100000
set_option linter.unusedSimpArgs false

def c_sNodeTake : FSpec := c_iNodeTake
theorem k_sNodeTake : FnOk Try.prog 9 c_sNodeTake := by
  refine fn_mk [0, 1, 2, 3, 4, 5, 6, 7, 8] [.cell 4 26, .tmp 5, .tmp 6] (env_cons (cs := []) k_l08Take (env_cons (cs := []) k_l08Own (env_cons (cs := []) k_sMessageOK (env_cons (cs := []) k_sNodeOK (env_nil (tyTab_ok [])))))) mixed Try.func9 rfl (by decide) rfl (by decide) rfl ?_
  intro ps hT hpre W hW
  simp only [c_sNodeTake, TyA, Ty, Tys] at hT hpre
  simp only [c_iNodeTake, TyA, Ty, Tys] at hT hpre
  obtain ⟨_, _, rfl, ⟨_, rfl, _, _, rfl, ⟨n0, rfl, hn0⟩, _, _, rfl, ⟨n1, rfl, hn1⟩, _, _, rfl, ⟨n2, rfl, hn2⟩, _, _, rfl, ⟨n3, rfl, hn3⟩, _, _, rfl, ⟨n4, rfl, hn4⟩, _, _, rfl, ⟨u, rfl⟩, _, _, rfl, ⟨es, rfl, hes, tes⟩, _, _, rfl, ⟨n5, rfl, hn5⟩, _, _, rfl, ⟨n6, rfl, hn6⟩, _, _, rfl, ⟨n7, rfl, hn7⟩, _, _, rfl, ⟨vs, rfl, hvs, tvs⟩, _, _, rfl, ⟨xs, rfl, hxs, txs⟩, _, _, rfl, ⟨ms, rfl, hms, tms⟩, rfl⟩, _, _, rfl, ⟨_, rfl, _, _, rfl, ⟨m0, rfl, hm0⟩, _, _, rfl, ⟨m1, rfl, hm1⟩, _, _, rfl, ⟨m2, rfl, hm2⟩, _, _, rfl, ⟨m3, rfl, hm3⟩, _, _, rfl, ⟨m4, rfl, hm4⟩, _, _, rfl, ⟨m5, rfl, hm5⟩, _, _, rfl, ⟨m6, rfl, hm6⟩, _, _, rfl, ⟨m7, rfl⟩, _, _, rfl, ⟨m8, rfl, hm8, tm8⟩, rfl⟩, rfl⟩ := hT
  simp only [nth_zero, nth_succ, pv_I, pv_L, pv_A] at hpre
  refine hW.vc [] _ _ ?_
  simp [-List.getD_eq_getElem?_getD, c_sNodeTake, c_sNodeOK, c_sMessageOK, c_l08Own, c_l08Take, c_iNodeTake, c_isNode, c_isMessage, c_toNode, c_isNode, c_isMessage, c_toNode, c_iNodeTake, ndOf, mgOf, ND.pv]
  obtain ⟨nd, hnd⟩ : ∃ nd : ND, nd = ⟨n0, n1, n2, n3, n4, u, es, n5, n6, n7, vs, xs, ms⟩ := ⟨_, rfl⟩
  obtain ⟨mg, hmg⟩ : ∃ mg : MG, mg = ⟨m0, m1, m2, m3, m4, m5, m6, m7, m8⟩ := ⟨_, rfl⟩
  rw [← hnd, ← hmg]
  refine ⟨fun h => ?_, fun h1 h2 => ⟨fun h3 => ?_, fun h3 h4 => ?_⟩⟩
  · have e : tkOf nd mg = (ND.no, [], 1) := by rcases h with h | h <;> simp [tkOf, h]
    rw [e]
    simp [ND.no]
  · have e : tkOf nd mg = (ND.no, [], 4) := by
      have : (decide (mg.to = nd.id) && decide (mg.frm < nd.nodes)) = false := by
        rw [hmg, hnd]
        simp only [Bool.and_eq_false_iff, decide_eq_false_iff_not]
        exact h3.imp id fun h => Int.not_lt.2 h
      simp [tkOf, h1, h2, this]
    rw [e]
    simp [ND.no]
  · have hF := nodeB_F h1
    have hM := mgB_F (n := nd) h2 (by rw [hmg, hnd]; exact h4)
    have f1 : es.length ≤ 60 ∧ (xs.length : Int) ≤ 5 ∧ (ms.length : Int) ≤ 5 := by
      have a1 := hF.l6; have a2 := hF.nx; have a3 := hF.ms; have a4 := hF.n5
      rw [hnd] at a1 a2 a3 a4
      simp only at a1 a2 a3 a4
      exact ⟨a1, by omega, by omega⟩
    have e0 : (decide (mg.to = nd.id) && decide (mg.frm < nd.nodes)) = true := by
      rw [hmg, hnd]
      simp only [Bool.and_eq_true, decide_eq_true_eq]
      exact ⟨h3, h4⟩
    have et : mg.term = m3 := by rw [hmg]
    refine ⟨fun hu => ⟨⟨by omega, hpre, by omega, by omega⟩, ?_⟩, fun hu => ⟨⟨hF, hM, hpre⟩, fun h5 => ⟨⟨by omega, hpre, by omega, by omega⟩, ?_⟩, fun h5 => ?_⟩⟩
    · have e : tkOf nd mg = (nd, [], 13) := by rw [tkOf, h1, h2, e0, show nd.up = false by rw [hnd]; exact hu]; rfl
      rw [e, hnd]; and_intros <;> rfl
    · have e : tkOf nd mg = (nd, [], 3) := by rw [tkOf, h1, h2, e0, show nd.up = true by rw [hnd]; exact hu, et, show nodeB (handR (newT nd m3) mg).1 = false from h5]; rfl
      rw [e, hnd]; and_intros <;> rfl
    · have e : tkOf nd mg = ((handR (newT nd m3) mg).1, (handR (newT nd m3) mg).2, 0) := by rw [tkOf, h1, h2, e0, show nd.up = true by rw [hnd]; exact hu, et, show nodeB (handR (newT nd m3) mg).1 = true from h5]; rfl
      rw [e]; and_intros <;> rfl

end Go.Proofs.Ytkofjkjcbljkdaa
end

section
namespace Go.Proofs.Ytkofjkjcbljkdaa
variable [LaidG]
set_option maxRecDepth 100000
set_option linter.unusedSimpArgs false

def c_sameInts : FSpec := c_eqIntS
theorem k_sameInts : FnOk Try.prog 38 c_sameInts := by
  refine fn_mk [0, 1, 4, 5] [.tmp 4] (env_nil (tyTab_ok [])) mixed Try.func38 rfl (by decide) rfl (by decide) rfl ?_
  intro ps hT hpre W hW
  simp only [c_sameInts, TyA, Ty, Tys] at hT hpre
  simp only [c_eqIntS, TyA, Ty, Tys] at hT
  obtain ⟨_, _, rfl, ⟨es, rfl, hes, tes⟩, _, _, rfl, ⟨es2, rfl, hes2, tes2⟩, rfl⟩ := hT
  refine hW.vc [(6, [], .take 0 <| .take 1 <| .take 2 <| .take 3 <| .take 4 <| .take 5 <| .take 6 <| .take 7 <| .take 8 <| .done)] _ _ ?_
  simp [-List.getD_eq_getElem?_getD, c_sameInts, c_eqIntS]
  refine fun h1 h2 => ⟨fun h3 => eqL_len (by omega), fun h3 => ?_⟩
  refine hW.loopS _ _ _ [.sl 5 .dp (.int .i64)] (fun ys => ∃ i : Nat, ys = [.int .i64 i] ∧ i ≤ es.length ∧ eqL eqB es es2 = eqL eqB (es.drop i) (es2.drop i)) (fun ys => es.length - (nth ys 0).I.toNat) ?_ ?_
  · simp [-List.getD_eq_getElem?_getD, c_sameInts, c_eqIntS]
    exact ⟨0, rfl, by simp, by simp⟩
  · rintro ys ⟨i, rfl, h4, h5⟩
    refine hW.vc [(6, [], .take 0 <| .take 1 <| .take 2 <| .take 3 <| .take 4 <| .take 5 <| .take 6 <| .take 7 <| .take 8 <| .done)] _ _ ?_
    simp [-List.getD_eq_getElem?_getD, c_sameInts, c_eqIntS]
    refine fun _ => ⟨fun h6 => ⟨by decide +kernel, h6, fun _ => ⟨by omega, fun _ => ?_⟩⟩, fun h6 => ?_⟩
    · rw [drop_nth h6, drop_nth (by omega : i < es2.length), eqL] at h5
      rw [wrap64 (by omega)]
      refine ⟨fun h7 => by rw [h5]; simp [eqB, h7], fun h7 => ⟨⟨i + 1, by omega, by omega, by rw [h5]; simp [eqB, h7]⟩, by omega⟩⟩
    · rw [h5, List.drop_eq_nil_of_le h6, List.drop_eq_nil_of_le (by omega)]; rfl
def c_sameLog : FSpec := c_eqEntryS
theorem k_sameLog : FnOk Try.prog 37 c_sameLog := by
  refine fn_mk [0, 1, 4, 5] [.tmp 4] (env_nil (tyTab_ok [])) mixed Try.func37 rfl (by decide) rfl (by decide) rfl ?_
  intro ps hT hpre W hW
  simp only [c_sameLog, TyA, Ty, Tys] at hT hpre
  simp only [c_eqEntryS, TyA, Ty, Tys] at hT
  obtain ⟨_, _, rfl, ⟨es, rfl, hes, tes⟩, _, _, rfl, ⟨es2, rfl, hes2, tes2⟩, rfl⟩ := hT
  refine hW.vc [(6, [], .take 0 <| .take 1 <| .take 2 <| .take 3 <| .take 4 <| .take 5 <| .take 6 <| .take 7 <| .take 8 <| .done)] _ _ ?_
  simp [-List.getD_eq_getElem?_getD, c_sameLog, c_eqEntryS]
  refine fun h1 h2 => ⟨fun h3 => eqL_len (by omega), fun h3 => ?_⟩
  refine hW.loopS _ _ _ [.sl 5 .dp (.int .i64)] (fun ys => ∃ i : Nat, ys = [.int .i64 i] ∧ i ≤ es.length ∧ eqL eqRow2 es es2 = eqL eqRow2 (es.drop i) (es2.drop i)) (fun ys => es.length - (nth ys 0).I.toNat) ?_ ?_
  · simp [-List.getD_eq_getElem?_getD, c_sameLog, c_eqEntryS]
    exact ⟨0, rfl, by simp, by simp⟩
  · rintro ys ⟨i, rfl, h4, h5⟩
    refine hW.vc [(6, [], .take 0 <| .take 1 <| .take 2 <| .take 3 <| .take 4 <| .take 5 <| .take 6 <| .take 7 <| .take 8 <| .done)] _ _ ?_
    simp [-List.getD_eq_getElem?_getD, c_sameLog, c_eqEntryS]
    refine fun _ => ⟨fun h6 => ⟨by decide +kernel, h6, fun _ _ _ => ⟨by omega, fun _ _ _ => ?_⟩⟩, fun h6 => ?_⟩
    · rw [drop_nth h6, drop_nth (by omega : i < es2.length), eqL] at h5
      rw [wrap64 (by omega)]
      refine ⟨by decide +kernel, fun h => ?_, fun h h2 => ⟨⟨i + 1, by omega, by omega, ?_⟩, by omega⟩⟩
      · have e : eqRow2 (nth es i) (nth es2 i) = false := by rcases h with h | h <;> simp [eqRow2, eqRow1, h]
        rw [h5, e]; rfl
      · have e : eqRow2 (nth es i) (nth es2 i) = true := by simp [eqRow2, eqRow1, h, h2]
        rw [h5, e, Bool.true_and]
    · rw [h5, List.drop_eq_nil_of_le h6, List.drop_eq_nil_of_le (by omega)]; rfl
def c_sameNode : FSpec := c_eqNode
theorem k_sameNode : FnOk Try.prog 10 c_sameNode := by
  refine fn_mk [0, 1, 2, 3, 4] [.tmp 4] (env_cons (cs := []) k_sameInts (env_cons (cs := []) k_sameLog (env_nil (tyTab_ok [])))) mixed Try.func10 rfl (by decide) rfl (by decide) rfl ?_
  intro ps hT hpre W hW
  simp only [c_sameNode, TyA, Ty, Tys] at hT hpre
  simp only [c_eqNode, TyA, Ty, Tys] at hT
  obtain ⟨_, _, rfl, ⟨_, rfl, _, _, rfl, ⟨n0, rfl, hn0⟩, _, _, rfl, ⟨n1, rfl, hn1⟩, _, _, rfl, ⟨n2, rfl, hn2⟩, _, _, rfl, ⟨n3, rfl, hn3⟩, _, _, rfl, ⟨n4, rfl, hn4⟩, _, _, rfl, ⟨u, rfl⟩, _, _, rfl, ⟨es, rfl, hes, tes⟩, _, _, rfl, ⟨n5, rfl, hn5⟩, _, _, rfl, ⟨n6, rfl, hn6⟩, _, _, rfl, ⟨n7, rfl, hn7⟩, _, _, rfl, ⟨vs, rfl, hvs, tvs⟩, _, _, rfl, ⟨xs, rfl, hxs, txs⟩, _, _, rfl, ⟨ms, rfl, hms, tms⟩, rfl⟩, _, _, rfl, ⟨_, rfl, _, _, rfl, ⟨n0', rfl, hn0'⟩, _, _, rfl, ⟨n1', rfl, hn1'⟩, _, _, rfl, ⟨n2', rfl, hn2'⟩, _, _, rfl, ⟨n3', rfl, hn3'⟩, _, _, rfl, ⟨n4', rfl, hn4'⟩, _, _, rfl, ⟨u', rfl⟩, _, _, rfl, ⟨es', rfl, hes', tes'⟩, _, _, rfl, ⟨n5', rfl, hn5'⟩, _, _, rfl, ⟨n6', rfl, hn6'⟩, _, _, rfl, ⟨n7', rfl, hn7'⟩, _, _, rfl, ⟨vs', rfl, hvs', tvs'⟩, _, _, rfl, ⟨xs', rfl, hxs', txs'⟩, _, _, rfl, ⟨ms', rfl, hms', tms'⟩, rfl⟩, rfl⟩ := hT
  refine hW.vc [] _ _ ?_
  simp [-List.getD_eq_getElem?_getD, c_sameNode, c_sameLog, c_sameInts, c_eqNode, c_eqEntryS, c_eqIntS, c_eqIntS, c_eqEntryS]
  simp only [eqNd, nth_zero, nth_succ, pv_I, pv_B, pv_L]
  cases u <;> cases u' <;> rfl
def c_sameMessages : FSpec := c_eqMessageS
theorem k_sameMessages : FnOk Try.prog 11 c_sameMessages := by
  refine fn_mk [0, 1, 4, 5, 6, 7] [.tmp 4] (env_cons (cs := []) k_sameLog (env_nil (tyTab_ok []))) mixed Try.func11 rfl (by decide) rfl (by decide) rfl ?_
  intro ps hT hpre W hW
  simp only [c_sameMessages, TyA, Ty, Tys] at hT hpre
  simp only [c_eqMessageS, TyA, Ty, Tys] at hT
  obtain ⟨_, _, rfl, ⟨es, rfl, hes, tes⟩, _, _, rfl, ⟨es2, rfl, hes2, tes2⟩, rfl⟩ := hT
  refine hW.vc [] _ _ ?_
  simp [-List.getD_eq_getElem?_getD, c_sameMessages, c_sameLog, c_eqMessageS, c_eqEntryS, c_eqEntryS]
  refine fun h1 h2 => ⟨fun h3 => eqL_len (by omega), fun h3 => ?_⟩
  refine hW.loopS _ _ _ [.sl 5 .dp (.int .i64)] (fun ys => ∃ i : Nat, ys = [.int .i64 i] ∧ i ≤ es.length ∧ eqL eqMg2 es es2 = eqL eqMg2 (es.drop i) (es2.drop i)) (fun ys => es.length - (nth ys 0).I.toNat) ?_ ?_
  · simp [-List.getD_eq_getElem?_getD, c_sameMessages, c_sameLog, c_eqMessageS, c_eqEntryS]
    exact ⟨0, rfl, by simp, by simp⟩
  · rintro ys ⟨i, rfl, h4, h5⟩
    refine hW.vc [] _ _ ?_
    simp [-List.getD_eq_getElem?_getD, c_sameMessages, c_sameLog, c_eqMessageS, c_eqEntryS, c_eqEntryS]
    refine fun _ => ⟨fun h6 => ⟨h6, ?_⟩, fun h6 => ?_⟩
    · intros
      refine ⟨by omega, ?_⟩
      intros
      rw [drop_nth h6, drop_nth (by omega : i < es2.length), eqL] at h5
      rw [wrap64 (n := (i : Int) + 1) (by omega)]
      refine ⟨fun h => ?_, fun a0 a1 a2 a3 a4 a5 a6 a7 a8 => ⟨⟨i + 1, by omega, by omega, ?_⟩, by omega⟩⟩
      · have e : eqMg2 (nth es i) (nth es2 i) = false := by rcases h with (((((((h | h) | h) | h) | h) | h) | h) | h) | h <;> simp [eqMg2, eqMg, h]
        rw [h5, e]; rfl
      · have e : eqMg2 (nth es i) (nth es2 i) = true := by simp [eqMg2, eqMg, a0, a1, a2, a3, a4, a5, a6, a7, a8]
        rw [h5, e, Bool.true_and]
    · rw [h5, List.drop_eq_nil_of_le h6, List.drop_eq_nil_of_le (by omega)]; rfl
/-- The data of the first entries. -/
def comL (log : List PV) : Nat → List PV
  | 0 => []
  | k + 1 => comL log k ++ [.str (nth (nth log k).A 1).S]
theorem comL_len (log : List PV) : ∀ k, (comL log k).length = k
  | 0 => rfl
  | k + 1 => by simp [comL, comL_len log k]
def c_committed : FSpec := ⟨[(.rd, .agg [.int .i64, .int .i64, .int .i64, .int .i64, .int .i64, .bool, .list (.agg [.int .i64, .str]), .int .i64, .int .i64, .int .i64, .list (.int .i64), .list (.int .i64), .list (.int .i64)])], [.list .str], true, fun ps => 0 ≤ (nth (nth ps 0).A 7).I ∧ (nth (nth ps 0).A 7).I ≤ (nth (nth ps 0).A 6).L.length ∧ (nth (nth ps 0).A 6).L.length ≤ 1024, fun ps => [.list (comL (nth (nth ps 0).A 6).L (nth (nth ps 0).A 7).I.toNat)], fun _ => []⟩
theorem k_committed : FnOk Try.prog 43 c_committed := by
  refine fn_mk [0, 1, 2, 3, 5, 10, 11, 12] [.tmp 2] (env_nil (tyTab_ok [])) mixed Try.func43 rfl (by decide) rfl (by decide) rfl ?_
  intro ps hT hpre W hW
  simp only [c_committed, TyA, Ty, Tys] at hT hpre
  obtain ⟨_, _, rfl, ⟨_, rfl, _, _, rfl, ⟨n0, rfl, hn0⟩, _, _, rfl, ⟨n1, rfl, hn1⟩, _, _, rfl, ⟨n2, rfl, hn2⟩, _, _, rfl, ⟨n3, rfl, hn3⟩, _, _, rfl, ⟨n4, rfl, hn4⟩, _, _, rfl, ⟨u, rfl⟩, _, _, rfl, ⟨es, rfl, hes, tes⟩, _, _, rfl, ⟨n5, rfl, hn5⟩, _, _, rfl, ⟨n6, rfl, hn6⟩, _, _, rfl, ⟨n7, rfl, hn7⟩, _, _, rfl, ⟨vs, rfl, hvs, tvs⟩, _, _, rfl, ⟨xs, rfl, hxs, txs⟩, _, _, rfl, ⟨ms, rfl, hms, tms⟩, rfl⟩, rfl⟩ := hT
  simp only [nth_zero, nth_succ, pv_I, pv_L, pv_A] at hpre
  refine hW.vc [] _ _ ?_
  simp [-List.getD_eq_getElem?_getD, c_committed]
  refine ⟨⟨hpre.1, hpre.2.1⟩, fun _ _ => ?_⟩
  have hmn : min n5.toNat es.length = n5.toNat := by omega
  rw [hmn]
  refine hW.loopS _ _ _ [.sl 3 .dp (.list .str), .sl 12 .dp (.int .i64)] (fun ys => ∃ i : Nat, ys = [.list (comL es i), .int .i64 i] ∧ i ≤ n5.toNat) (fun ys => n5.toNat - (nth ys 1).I.toNat) ?_ ?_
  · simp [-List.getD_eq_getElem?_getD, c_committed]
    exact ⟨0, ⟨rfl, rfl⟩, by omega⟩
  · rintro ys ⟨i, rfl, g1⟩
    refine hW.vc [] _ _ ?_
    simp [-List.getD_eq_getElem?_getD, c_committed]
    rw [wrap64 (n := (i : Int) + 1) (by omega)]
    refine ⟨fun h => ⟨by omega, fun _ _ _ => ⟨by rw [comL_len]; omega, fun _ => ⟨⟨i + 1, ⟨?_, rfl⟩, by omega⟩, by omega⟩⟩⟩, fun h => ?_⟩
    · have e : nth (List.take n5.toNat es) i = nth es i := by simp [nth, List.getElem?_take, show i < n5.toNat by omega]
      rw [comL, e]
    · have : i = n5.toNat := by omega
      rw [this]
def comR (n : ND) : List PV × Int := cond (nodeB n) (comL n.log n.com.toNat, 0) ([], 1)
def c_Committed : FSpec := ⟨[(.rd, .agg [.int .i64, .int .i64, .int .i64, .int .i64, .int .i64, .bool, .list (.agg [.int .i64, .str]), .int .i64, .int .i64, .int .i64, .list (.int .i64), .list (.int .i64), .list (.int .i64)])], [.list .str, .int .i64], true, fun _ => True, fun ps => [.list (comR (ndOf (nth ps 0).A)).1, .int .i64 (comR (ndOf (nth ps 0).A)).2], fun _ => []⟩
theorem k_Committed : FnOk Try.prog 16 c_Committed := by
  refine fn_mk [0, 1, 2, 3] [.tmp 2, .tmp 3] (env_cons (cs := []) k_committed (env_cons (cs := []) k_isNode (env_nil (tyTab_ok [])))) mixed Try.func16 rfl (by decide) rfl (by decide) rfl ?_
  intro ps hT hpre W hW
  simp only [c_Committed, TyA, Ty, Tys] at hT hpre
  obtain ⟨_, _, rfl, ⟨_, rfl, _, _, rfl, ⟨n0, rfl, hn0⟩, _, _, rfl, ⟨n1, rfl, hn1⟩, _, _, rfl, ⟨n2, rfl, hn2⟩, _, _, rfl, ⟨n3, rfl, hn3⟩, _, _, rfl, ⟨n4, rfl, hn4⟩, _, _, rfl, ⟨u, rfl⟩, _, _, rfl, ⟨es, rfl, hes, tes⟩, _, _, rfl, ⟨n5, rfl, hn5⟩, _, _, rfl, ⟨n6, rfl, hn6⟩, _, _, rfl, ⟨n7, rfl, hn7⟩, _, _, rfl, ⟨vs, rfl, hvs, tvs⟩, _, _, rfl, ⟨xs, rfl, hxs, txs⟩, _, _, rfl, ⟨ms, rfl, hms, tms⟩, rfl⟩, rfl⟩ := hT
  refine hW.vc [] _ _ ?_
  simp [-List.getD_eq_getElem?_getD, c_Committed, c_isNode, c_committed, ndOf]
  refine ⟨fun h => by rw [comR, h]; exact ⟨rfl, rfl⟩, fun h => ?_⟩
  have hF := nodeB_F h
  have c0 : 0 ≤ n5 := hF.c0
  have c1 : n5 ≤ es.length := hF.c1
  have l6 : es.length ≤ 60 := hF.l6
  exact ⟨⟨c0, c1, by omega⟩, by rw [comR, h]; exact ⟨rfl, rfl⟩⟩
def upR (n : ND) (i t : Int) : Bool × Int := cond (nodeB n) (upB1 n.log i t, 0) (false, 1)
def c_UpToDate : FSpec := ⟨[(.rd, .agg [.int .i64, .int .i64, .int .i64, .int .i64, .int .i64, .bool, .list (.agg [.int .i64, .str]), .int .i64, .int .i64, .int .i64, .list (.int .i64), .list (.int .i64), .list (.int .i64)]), (.rd, .int .i64), (.rd, .int .i64)], [.bool, .int .i64], true, fun _ => True, fun ps => [.bool (upR (ndOf (nth ps 0).A) (nth ps 1).I (nth ps 2).I).1, .int .i64 (upR (ndOf (nth ps 0).A) (nth ps 1).I (nth ps 2).I).2], fun _ => []⟩
theorem k_UpToDate : FnOk Try.prog 17 c_UpToDate := by
  refine fn_mk [0, 1, 2, 3, 6, 7] [.tmp 6, .tmp 7] (env_cons (cs := []) k_isUpToDate (env_cons (cs := []) k_isNode (env_nil (tyTab_ok [])))) mixed Try.func17 rfl (by decide) rfl (by decide) rfl ?_
  intro ps hT hpre W hW
  simp only [c_UpToDate, TyA, Ty, Tys] at hT hpre
  obtain ⟨_, _, rfl, ⟨_, rfl, _, _, rfl, ⟨n0, rfl, hn0⟩, _, _, rfl, ⟨n1, rfl, hn1⟩, _, _, rfl, ⟨n2, rfl, hn2⟩, _, _, rfl, ⟨n3, rfl, hn3⟩, _, _, rfl, ⟨n4, rfl, hn4⟩, _, _, rfl, ⟨u, rfl⟩, _, _, rfl, ⟨es, rfl, hes, tes⟩, _, _, rfl, ⟨n5, rfl, hn5⟩, _, _, rfl, ⟨n6, rfl, hn6⟩, _, _, rfl, ⟨n7, rfl, hn7⟩, _, _, rfl, ⟨vs, rfl, hvs, tvs⟩, _, _, rfl, ⟨xs, rfl, hxs, txs⟩, _, _, rfl, ⟨ms, rfl, hms, tms⟩, rfl⟩, _, _, rfl, ⟨i, rfl, hi⟩, _, _, rfl, ⟨t, rfl, ht⟩, rfl⟩ := hT
  refine hW.vc [] _ _ ?_
  simp [-List.getD_eq_getElem?_getD, c_UpToDate, c_isNode, c_isUpToDate, ndOf]
  refine ⟨fun h => by rw [upR, h]; exact ⟨rfl, rfl⟩, fun h => ?_⟩
  have hF := nodeB_F h
  have l6 : es.length ≤ 60 := hF.l6
  exact ⟨by omega, by rw [upR, h]; exact ⟨rfl, rfl⟩⟩
def c_iNodeOK : FSpec := c_isNode
theorem k_iNodeOK : FnOk Try.prog 15 c_iNodeOK := by
  refine fn_mk [0, 1, 2] [.tmp 2] (env_cons (cs := []) k_isNode (env_nil (tyTab_ok []))) mixed Try.func15 rfl (by decide) rfl (by decide) rfl ?_
  intro ps hT hpre W hW
  simp only [c_iNodeOK, TyA, Ty, Tys] at hT hpre
  simp only [c_isNode, TyA, Ty, Tys] at hT
  obtain ⟨_, _, rfl, ⟨_, rfl, _, _, rfl, ⟨n0, rfl, hn0⟩, _, _, rfl, ⟨n1, rfl, hn1⟩, _, _, rfl, ⟨n2, rfl, hn2⟩, _, _, rfl, ⟨n3, rfl, hn3⟩, _, _, rfl, ⟨n4, rfl, hn4⟩, _, _, rfl, ⟨u, rfl⟩, _, _, rfl, ⟨es, rfl, hes, tes⟩, _, _, rfl, ⟨n5, rfl, hn5⟩, _, _, rfl, ⟨n6, rfl, hn6⟩, _, _, rfl, ⟨n7, rfl, hn7⟩, _, _, rfl, ⟨vs, rfl, hvs, tvs⟩, _, _, rfl, ⟨xs, rfl, hxs, txs⟩, _, _, rfl, ⟨ms, rfl, hms, tms⟩, rfl⟩, rfl⟩ := hT
  refine hW.vc [] _ _ ?_
  simp [-List.getD_eq_getElem?_getD, c_iNodeOK, c_isNode, c_isNode, ndOf]
def c_iMessageOK : FSpec := c_isMessage
theorem k_iMessageOK : FnOk Try.prog 12 c_iMessageOK := by
  refine fn_mk [0, 1, 2] [.tmp 2] (env_cons (cs := []) k_isMessage (env_nil (tyTab_ok []))) mixed Try.func12 rfl (by decide) rfl (by decide) rfl ?_
  intro ps hT hpre W hW
  simp only [c_iMessageOK, TyA, Ty, Tys] at hT hpre
  simp only [c_isMessage, TyA, Ty, Tys] at hT
  obtain ⟨_, _, rfl, ⟨_, rfl, _, _, rfl, ⟨m0, rfl, hm0⟩, _, _, rfl, ⟨m1, rfl, hm1⟩, _, _, rfl, ⟨m2, rfl, hm2⟩, _, _, rfl, ⟨m3, rfl, hm3⟩, _, _, rfl, ⟨m4, rfl, hm4⟩, _, _, rfl, ⟨m5, rfl, hm5⟩, _, _, rfl, ⟨m6, rfl, hm6⟩, _, _, rfl, ⟨m7, rfl⟩, _, _, rfl, ⟨m8, rfl, hm8, tm8⟩, rfl⟩, rfl⟩ := hT
  refine hW.vc [] _ _ ?_
  simp [-List.getD_eq_getElem?_getD, c_iMessageOK, c_isMessage, c_isMessage, mgOf]

end Go.Proofs.Ytkofjkjcbljkdaa
end

section
namespace Go.Proofs.Ytkofjkjcbljkdaa
variable [LaidG]
set_option maxRecDepth 100000
set_option linter.unusedSimpArgs false

/-- One of 0 to n - 1, out of some bytes. -/
def atN (es : List PV) (i n : Int) : Int :=
  if n ≤ 1 then 0 else if es.length = 0 then (i * 7).tmod n else ((nth es (i.tmod es.length).toNat).I * 31 + (nth es ((i + 1).tmod es.length).toNat).I + i.tdiv es.length).tmod n
theorem atN_ok {es : List PV} {i n : Int} (hc : codeOk es) (hi : 0 ≤ i) (hn : 1 ≤ n) : 0 ≤ atN es i n ∧ atN es i n < n := by
  unfold atN
  split
  · omega
  · split
    · exact tm_ok _ _ (by omega) (by omega)
    · have h1 := tm_ok i es.length hi (by omega)
      have h2 := tm_ok (i + 1) es.length (by omega) (by omega)
      have h3 := hc _ (nth_mem (show (i.tmod es.length).toNat < es.length by omega))
      have h4 := hc _ (nth_mem (show ((i + 1).tmod es.length).toNat < es.length by omega))
      have h5 := Int.tdiv_nonneg hi (show (0 : Int) ≤ es.length by omega)
      exact tm_ok _ _ (by omega) (by omega)
def c_at : FSpec := ⟨[(.rd, .list (.int .u8)), (.rd, .int .i64), (.rd, .int .i64)], [.int .i64], true, fun ps => 0 ≤ (nth ps 1).I ∧ (nth ps 1).I ≤ 1000000, fun ps => [.int .i64 (atN (nth ps 0).L (nth ps 1).I (nth ps 2).I)], fun _ => []⟩
theorem k_at : FnOk Try.prog 6 c_at := by
  refine fn_mk [0, 1, 2, 6] [.tmp 6] (env_nil (tyTab_ok [])) mixed Try.func6 rfl (by decide) rfl (by decide) rfl ?_
  intro ps hT hpre W hW
  simp only [c_at, TyA, Ty, Tys] at hT hpre
  obtain ⟨_, _, rfl, ⟨es, rfl, hes, tes⟩, _, _, rfl, ⟨i, rfl, hi⟩, _, _, rfl, ⟨n, rfl, hn⟩, rfl⟩ := hT
  simp only [nth_zero, nth_succ, pv_I] at hpre
  refine hW.vc [(5, [], .take 0 <| .take 1 <| .take 2 <| .take 3 <| .take 4 <| .take 5 <| .take 6 <| .take 7 <| .take 8 <| .take 9 <| .take 10 <| .take 11 <| .take 12 <| .take 13 <| .take 14 <| .take 15 <| .take 16 <| .take 17 <| .take 18 <| .take 19 <| .take 20 <| .take 21 <| .take 22 <| .take 23 <| .take 24 <| .take 25 <| .alt 26 (.done) .stop)] _ _ ?_
  simp [-List.getD_eq_getElem?_getD, c_at]
  have hc := codeOk_ty ‹_›
  rw [wrap64 (n := i * 7) (by omega), wrap64 (n := i + 1) (by omega)]
  refine ⟨fun h => by simp [atN, h], fun h _ => ⟨fun h2 => ⟨by omega, by subst h2; simp [atN, show ¬ n ≤ 1 by omega]⟩, fun h2 => ?_⟩⟩
  have hl : 0 < es.length := List.length_pos_iff.2 h2
  have h1 := tm_ok i es.length hpre.1 (by omega)
  have h3 := tm_ok (i + 1) es.length (by omega) (by omega)
  have h4 := hc _ (nth_mem (show (i.tmod es.length).toNat < es.length by omega))
  have h5 := hc _ (nth_mem (show ((i + 1).tmod es.length).toNat < es.length by omega))
  have h6 := Int.tdiv_nonneg hpre.1 (show (0 : Int) ≤ es.length by omega)
  have h7 := Int.tdiv_le_self (es.length : Int) hpre.1
  refine ⟨by decide +kernel, fun _ => ⟨h2, ⟨h1.1, h1.2⟩, by omega, fun _ _ => ⟨h2, ⟨h3.1, h3.2⟩, by omega, fun _ _ => ⟨h2, by omega, ?_⟩⟩⟩⟩
  rw [wrap64 (n := (nth es (i.tmod es.length).toNat).I) (by omega), wrap64 (n := (nth es (i.tmod es.length).toNat).I * 31) (by omega), wrap64 (n := (nth es ((i + 1).tmod es.length).toNat).I) (by omega), wrap64 (n := i.tdiv es.length) (by omega),
    wrap64 (n := (nth es (i.tmod es.length).toNat).I * 31 + (nth es ((i + 1).tmod es.length).toNat).I) (by omega), wrap64 (n := (nth es (i.tmod es.length).toNat).I * 31 + (nth es ((i + 1).tmod es.length).toNat).I + i.tdiv es.length) (by omega)]
  simp [atN, show ¬ n ≤ 1 by omega, h2]

end Go.Proofs.Ytkofjkjcbljkdaa
end

section
namespace Go.Proofs.Ytkofjkjcbljkdaa
variable [LaidG]
set_option maxRecDepth 100000
set_option linter.unusedSimpArgs false

def c_lawNode : FSpec := ⟨[(.rd, .list (.int .u8)), (.rd, .list (.int .u8))], [.bool], true, fun _ => True, fun _ => [.bool true], fun _ => []⟩
set_option maxHeartbeats 0 in
theorem k_lawNode : FnOk Try.prog 3 c_lawNode := by
  refine fn_mk [0, 1, 4, 5, 6, 7, 8, 9, 10, 11, 12, 13, 14, 15, 16, 17, 18, 19, 20, 21, 22, 23, 24, 26] [.tmp 4] (env_cons (cs := []) k_UpToDate (env_cons (cs := []) k_Committed (env_cons (cs := []) k_iNodeOK (env_cons (cs := []) k_sNodeTick (env_cons (cs := []) k_iNodeTick (env_cons (cs := []) k_iMessageOK (env_cons (cs := []) k_sameMessages (env_cons (cs := []) k_sameNode (env_cons (cs := []) k_sNodeTake (env_cons (cs := []) k_iNodeTake (env_cons (cs := []) k_MessageTo (env_cons (cs := []) k_at (env_cons (cs := []) k_NodeOf (env_nil (tyTab_ok []))))))))))))))) mixed Try.func3 rfl (by decide) rfl (by decide) rfl ?_
  intro ps hT hpre W hW
  simp only [c_lawNode, TyA, Ty, Tys] at hT hpre
  obtain ⟨_, _, rfl, ⟨es, rfl, hes, tes⟩, _, _, rfl, ⟨ms, rfl, hms, tms⟩, rfl⟩ := hT
  have hce := codeOk_ty tes
  have hcm := codeOk_ty tms
  have hs := tm_ok (es.length : Int) 1000 (by omega) (by omega)
  have hR := drwR_ok (es := es) (s := ⟨0, seed0 es⟩) (k := 1000) hce ⟨by simp, by simp, hs.1, Int.lt_trans hs.2 (by omega)⟩ (by omega)
  obtain ⟨N0, hN⟩ : ∃ N0, N0 = (drwR es ⟨0, seed0 es⟩).1 := ⟨_, rfl⟩
  rw [← hN] at hR
  refine hW.vc [(9, [4, 8], .take 0 <| .take 1 <| .take 3 <| .tak2 5 <| .alt 2 (.alt 4 (.alt 6 (.alt 7 (.alt 8 (.done) .stop) .stop) (.alt 7 (.alt 6 (.alt 8 (.done) .stop) .stop) .stop)) (.alt 7 (.alt 4 (.alt 6 (.alt 8 (.done) .stop) .stop) .stop) .stop)) (.alt 7 (.alt 2 (.alt 4 (.alt 6 (.alt 8 (.done) .stop) .stop) .stop) .stop) .stop)), (15, [10], .take 0 <| .take 1 <| .take 2 <| .alt 3 (.alt 4 (.take 5 <| .take 6 <| .alt 7 (.alt 8 (.alt 9 (.alt 10 (.alt 11 (.alt 12 (.done) .stop) .stop) .stop) .stop) (.alt 9 (.alt 8 (.alt 10 (.alt 11 (.alt 12 (.done) .stop) .stop) .stop) (.alt 10 (.take 8 <| .alt 11 (.alt 12 (.done) .stop) .stop) .stop)) .stop)) (.alt 8 (.alt 7 (.alt 9 (.alt 10 (.alt 11 (.alt 12 (.done) .stop) .stop) .stop) .stop) (.alt 9 (.alt 7 (.alt 10 (.alt 11 (.alt 12 (.done) .stop) .stop) .stop) (.alt 10 (.take 7 <| .alt 11 (.alt 12 (.done) .stop) .stop) .stop)) .stop)) (.alt 9 (.alt 7 (.alt 8 (.alt 10 (.alt 11 (.alt 12 (.done) .stop) .stop) .stop) (.alt 10 (.take 8 <| .alt 11 (.alt 12 (.done) .stop) .stop) .stop)) (.alt 8 (.alt 7 (.alt 10 (.alt 11 (.alt 12 (.done) .stop) .stop) .stop) (.alt 10 (.take 7 <| .alt 11 (.alt 12 (.done) .stop) .stop) .stop)) (.alt 10 (.take 7 <| .take 8 <| .alt 11 (.alt 12 (.done) .stop) .stop) .stop))) .stop))) (.alt 9 (.alt 4 (.take 5 <| .take 6 <| .alt 7 (.alt 8 (.alt 10 (.alt 11 (.alt 12 (.done) .stop) .stop) .stop) (.alt 10 (.take 8 <| .alt 11 (.alt 12 (.done) .stop) .stop) .stop)) (.alt 8 (.alt 7 (.alt 10 (.alt 11 (.alt 12 (.done) .stop) .stop) .stop) (.alt 10 (.take 7 <| .alt 11 (.alt 12 (.done) .stop) .stop) .stop)) (.alt 10 (.take 7 <| .take 8 <| .alt 11 (.alt 12 (.done) .stop) .stop) .stop))) .stop) .stop)) (.alt 9 (.alt 3 (.alt 4 (.take 5 <| .take 6 <| .alt 7 (.alt 8 (.alt 10 (.alt 11 (.alt 12 (.done) .stop) .stop) .stop) (.alt 10 (.take 8 <| .alt 11 (.alt 12 (.done) .stop) .stop) .stop)) (.alt 8 (.alt 7 (.alt 10 (.alt 11 (.alt 12 (.done) .stop) .stop) .stop) (.alt 10 (.take 7 <| .alt 11 (.alt 12 (.done) .stop) .stop) .stop)) (.alt 10 (.take 7 <| .take 8 <| .alt 11 (.alt 12 (.done) .stop) .stop) .stop))) .stop) .stop) .stop)), (16, [10], .take 0 <| .take 1 <| .take 2 <| .alt 3 (.alt 4 (.take 5 <| .take 6 <| .alt 7 (.alt 8 (.alt 9 (.alt 10 (.alt 11 (.alt 12 (.done) .stop) .stop) .stop) .stop) (.alt 9 (.alt 8 (.alt 10 (.alt 11 (.alt 12 (.done) .stop) .stop) .stop) (.alt 10 (.take 8 <| .alt 11 (.alt 12 (.done) .stop) .stop) .stop)) .stop)) (.alt 8 (.alt 7 (.alt 9 (.alt 10 (.alt 11 (.alt 12 (.done) .stop) .stop) .stop) .stop) (.alt 9 (.alt 7 (.alt 10 (.alt 11 (.alt 12 (.done) .stop) .stop) .stop) (.alt 10 (.take 7 <| .alt 11 (.alt 12 (.done) .stop) .stop) .stop)) .stop)) (.alt 9 (.alt 7 (.alt 8 (.alt 10 (.alt 11 (.alt 12 (.done) .stop) .stop) .stop) (.alt 10 (.take 8 <| .alt 11 (.alt 12 (.done) .stop) .stop) .stop)) (.alt 8 (.alt 7 (.alt 10 (.alt 11 (.alt 12 (.done) .stop) .stop) .stop) (.alt 10 (.take 7 <| .alt 11 (.alt 12 (.done) .stop) .stop) .stop)) (.alt 10 (.take 7 <| .take 8 <| .alt 11 (.alt 12 (.done) .stop) .stop) .stop))) .stop))) (.alt 9 (.alt 4 (.take 5 <| .take 6 <| .alt 7 (.alt 8 (.alt 10 (.alt 11 (.alt 12 (.done) .stop) .stop) .stop) (.alt 10 (.take 8 <| .alt 11 (.alt 12 (.done) .stop) .stop) .stop)) (.alt 8 (.alt 7 (.alt 10 (.alt 11 (.alt 12 (.done) .stop) .stop) .stop) (.alt 10 (.take 7 <| .alt 11 (.alt 12 (.done) .stop) .stop) .stop)) (.alt 10 (.take 7 <| .take 8 <| .alt 11 (.alt 12 (.done) .stop) .stop) .stop))) .stop) .stop)) (.alt 9 (.alt 3 (.alt 4 (.take 5 <| .take 6 <| .alt 7 (.alt 8 (.alt 10 (.alt 11 (.alt 12 (.done) .stop) .stop) .stop) (.alt 10 (.take 8 <| .alt 11 (.alt 12 (.done) .stop) .stop) .stop)) (.alt 8 (.alt 7 (.alt 10 (.alt 11 (.alt 12 (.done) .stop) .stop) .stop) (.alt 10 (.take 7 <| .alt 11 (.alt 12 (.done) .stop) .stop) .stop)) (.alt 10 (.take 7 <| .take 8 <| .alt 11 (.alt 12 (.done) .stop) .stop) .stop))) .stop) .stop) .stop))] _ _ ?_
  simp [-List.getD_eq_getElem?_getD, c_lawNode, c_NodeOf, c_at, c_MessageTo, c_iNodeTake, c_sNodeTake, c_sameNode, c_sameMessages, c_iMessageOK, c_iNodeTick, c_sNodeTick, c_iNodeOK, c_Committed, c_UpToDate, c_eqNode, c_eqMessageS, c_isMessage, c_isNode, ndOf, ND.pv, ← hN]
  intro _ _ _ _
  refine hW.loopS _ _ _ [.bx 5 [.int .i64, .int .i64, .int .i64, .int .i64, .int .i64, .bool, .list (.agg [.int .i64, .str]), .int .i64, .int .i64, .int .i64, .list (.int .i64), .list (.int .i64), .list (.int .i64)], .sl 6 .dp (.int .i64)] (fun ys => ∃ (n : ND) (i : Nat), ys = [n.pv, .int .i64 i] ∧ Gd n (20 + i) ∧ i ≤ 8) (fun ys => 8 - (nth ys 1).I.toNat) ?_ ?_
  · simp [-List.getD_eq_getElem?_getD, c_lawNode, c_NodeOf, c_at, c_MessageTo, c_iNodeTake, c_sNodeTake, c_sameNode, c_sameMessages, c_iMessageOK, c_iNodeTick, c_sNodeTick, c_iNodeOK, c_Committed, c_UpToDate, c_eqNode, c_eqMessageS, c_isMessage, c_isNode, ND.pv]
    exact ⟨N0, 0, ⟨by and_intros <;> rfl, rfl⟩, hR.mono (by omega), by omega⟩
  · rintro ys ⟨n, i, rfl, g1, g2⟩
    have eta : ∀ n : ND, (⟨n.id, n.nodes, n.term, n.vote, n.role, n.up, n.log, n.com, n.ela, n.wt, n.vs, n.nx, n.ms⟩ : ND) = n := fun _ => rfl
    have eta2 : ∀ m : MG, (⟨m.kind, m.frm, m.to, m.term, m.idx, m.lt, m.com, m.ok, m.es⟩ : MG) = m := fun _ => rfl
    have w6 : IntKind.i64.wrap ((i : Int) + 1) = i + 1 := wrap64 (by omega)
    have hF := g1.F
    have hB := F_nodeB hF
    have f5 := hF.n5; have f1 := hF.n1; have t0 := hF.t0; have gt := g1.t
    have hvs := vo_len' hF.vo (by omega)
    have hnx := hF.nx; have hms := hF.ms; have hl6 := hF.l6
    refine hW.vc [] _ _ ?_
    simp (maxSteps := 20000000) [-List.getD_eq_getElem?_getD, c_lawNode, c_NodeOf, c_at, c_MessageTo, c_iNodeTake, c_sNodeTake, c_sameNode, c_sameMessages, c_iMessageOK, c_iNodeTick, c_sNodeTick, c_iNodeOK, c_Committed, c_UpToDate, c_eqNode, c_eqMessageS, c_isMessage, c_isNode, ND.pv, ndOf, eta, w6]
    refine ⟨fun hi => ⟨fun _ => by omega, fun hn ha => ?_, fun hna => ?_⟩, fun hi => ?_⟩
    · have hu8 : ∀ j : Nat, j < 8 → 0 ≤ IntKind.u8.wrap (j : Int) ∧ IntKind.u8.wrap (j : Int) ≤ 255 := by decide
      obtain ⟨cd, hcd⟩ : ∃ cd, cd = PV.int .u8 (IntKind.u8.wrap i) :: ms := ⟨_, rfl⟩
      have hcc : codeOk cd := by
        rw [hcd]
        intro e he
        rcases List.mem_cons.1 he with rfl | he
        · exact hu8 i (by omega)
        · exact hcm e he
      have hsd := tm_ok (cd.length : Int) 1000 (by omega) (by omega)
      obtain ⟨m, hm⟩ : ∃ m, m = (msgR cd ⟨0, seed0 cd⟩ n).1 := ⟨_, rfl⟩
      have km := msg_ok (n := n) hcc (s := ⟨0, seed0 cd⟩) (k := 30) ⟨by simp, by simp, hsd.1, Int.lt_trans hsd.2 (by omega)⟩ (by omega) (by omega) hF (by omega)
      rw [← hm] at km
      obtain ⟨m1, m2, m3, m4, m5, m6, m7⟩ := km
      obtain ⟨t, ht⟩ : ∃ t, t = tkOf n m := ⟨_, rfl⟩
      have hT : (t.2.2 = 0 ∨ t.2.2 = 3) ∧ NdF t.1 ∧ Stp n t.1 1 := by
        have e0 : (decide (m.to = n.id) && decide (m.frm < n.nodes)) = true := by simp [m7, m5]
        rw [ht, tkOf, hB, m2, e0, g1.u]
        show ((cond (nodeB (handR (newT n m.term) m).1) ((handR (newT n m.term) m).1, (handR (newT n m.term) m).2, (0 : Int)) (n, [], 3)).2.2 = 0 ∨ _) ∧ _
        cases hb : nodeB (handR (newT n m.term) m).1 with
        | true => exact ⟨.inl rfl, nodeB_F hb, (new_S (n := n) (t := m.term) (k := 1) (by decide) (by omega)).trans (hand_S (n := newT n m.term) (m := m) (by unfold newT; split <;> exact hF.c0) m6)⟩
        | false => exact ⟨.inr rfl, hF, (Stp.refl n).mono (by decide)⟩
      refine hW.cutS [_] _ _ [.nb 8 30 [.int .i64, .int .i64, .int .i64, .int .i64, .int .i64, .int .i64, .int .i64, .bool, .list (.agg [.int .i64, .str])]] (fun ys => ys = [m.pv]) ?_ ?_
      · refine hW.vc [(9, [4, 8], .take 0 <| .take 1 <| .take 3 <| .tak2 5 <| .alt 2 (.alt 4 (.alt 6 (.alt 7 (.alt 8 (.done) .stop) .stop) (.alt 7 (.alt 6 (.alt 8 (.done) .stop) .stop) .stop)) (.alt 7 (.alt 4 (.alt 6 (.alt 8 (.done) .stop) .stop) .stop) .stop)) (.alt 7 (.alt 2 (.alt 4 (.alt 6 (.alt 8 (.done) .stop) .stop) .stop) .stop) .stop))] _ _ ?_
        simp (maxSteps := 20000000) [-List.getD_eq_getElem?_getD, c_lawNode, c_NodeOf, c_at, c_MessageTo, c_iNodeTake, c_sNodeTake, c_sameNode, c_sameMessages, c_iMessageOK, c_iNodeTick, c_sNodeTick, c_iNodeOK, c_Committed, c_UpToDate, c_eqNode, c_eqMessageS, c_isMessage, c_isNode, ND.pv, MG.pv, ndOf, eta, ← hcd, ← hm]
        exact ⟨by decide +kernel, by omega, hF, by omega, by omega⟩
      · rintro ys rfl
        obtain ⟨hc, hx, hS⟩ := hT
        have hxB := F_nodeB hx
        have hcm2 : comR t.1 = (comL t.1.log t.1.com.toNat, 0) := by rw [comR, hxB]; rfl
        have hc0 := hx.c0
        refine hW.vc [] _ _ ?_
        simp (maxSteps := 20000000) [-List.getD_eq_getElem?_getD, c_lawNode, c_NodeOf, c_at, c_MessageTo, c_iNodeTake, c_sNodeTake, c_sameNode, c_sameMessages, c_iMessageOK, c_iNodeTick, c_sNodeTick, c_iNodeOK, c_Committed, c_UpToDate, c_eqNode, c_eqMessageS, c_isMessage, c_isNode, ND.pv, MG.pv, ndOf, mgOf, eta, eta2, c_iNodeTake, c_isNode, c_isMessage, c_eqNode, c_eqMessageS, eqNd_refl, eqMs_refl, ← ht, m2, hxB, hcm2, comL_len, w6]
        have s1 := hS.t0; have s2 := hS.c; have s3 := hS.v
        refine ⟨by omega, by omega, fun _ => ⟨fun a b => ⟨⟨a, b⟩, fun c => ⟨⟨a, b⟩, c⟩⟩, fun a b => ⟨⟨a, b⟩, fun c d => ⟨⟨a, b⟩, c, d⟩⟩, ⟨⟨s1, s2⟩, s3⟩, fun _ _ _ _ => ⟨by omega, fun _ => ⟨⟨t.1, i + 1, ⟨by and_intros <;> rfl, rfl⟩, (g1.step hx hS).mono (by omega), by omega⟩, by omega⟩⟩⟩⟩
    · obtain ⟨d, hd⟩ : ∃ d, d = atN ms i 20 := ⟨_, rfl⟩
      have hdb := atN_ok (es := ms) (i := i) (n := 20) hcm (by omega) (by omega)
      rw [← hd] at hdb
      have hnt : ntOf n d = ((tickN n d).1, (tickN n d).2, 0) := by
        rw [ntOf, hB, show inB d 0 1000000 = true by simp [inB]; omega, g1.u]; rfl
      obtain ⟨t, ht⟩ : ∃ t, t = tickN n d := ⟨_, rfl⟩
      have hx : NdF t.1 := by rw [ht]; exact tick_F hF hdb.1 g1.u
      have hS : Stp n t.1 1 := by rw [ht]; exact tick_S hF
      have hxB := F_nodeB hx
      have hcm2 : comR t.1 = (comL t.1.log t.1.com.toNat, 0) := by rw [comR, hxB]; rfl
      have hc0 := hx.c0
      rw [← ht] at hnt
      refine hW.cutS [_] _ _ [.nb 15 26 [.int .i64, .int .i64, .int .i64, .int .i64, .int .i64, .bool, .list (.agg [.int .i64, .str]), .int .i64, .int .i64, .int .i64, .list (.int .i64), .list (.int .i64), .list (.int .i64)], .sl 16 .dp (.list (.agg [.int .i64, .int .i64, .int .i64, .int .i64, .int .i64, .int .i64, .int .i64, .bool, .list (.agg [.int .i64, .str])])), .sl 17 .dp (.int .i64)] (fun ys => ys = [t.1.pv, .list t.2, .int .i64 0]) ?_ ?_
      · refine hW.vc [(15, [10], .take 0 <| .take 1 <| .take 2 <| .alt 3 (.alt 4 (.take 5 <| .take 6 <| .alt 7 (.alt 8 (.alt 9 (.alt 10 (.alt 11 (.alt 12 (.done) .stop) .stop) .stop) .stop) (.alt 9 (.alt 8 (.alt 10 (.alt 11 (.alt 12 (.done) .stop) .stop) .stop) (.alt 10 (.take 8 <| .alt 11 (.alt 12 (.done) .stop) .stop) .stop)) .stop)) (.alt 8 (.alt 7 (.alt 9 (.alt 10 (.alt 11 (.alt 12 (.done) .stop) .stop) .stop) .stop) (.alt 9 (.alt 7 (.alt 10 (.alt 11 (.alt 12 (.done) .stop) .stop) .stop) (.alt 10 (.take 7 <| .alt 11 (.alt 12 (.done) .stop) .stop) .stop)) .stop)) (.alt 9 (.alt 7 (.alt 8 (.alt 10 (.alt 11 (.alt 12 (.done) .stop) .stop) .stop) (.alt 10 (.take 8 <| .alt 11 (.alt 12 (.done) .stop) .stop) .stop)) (.alt 8 (.alt 7 (.alt 10 (.alt 11 (.alt 12 (.done) .stop) .stop) .stop) (.alt 10 (.take 7 <| .alt 11 (.alt 12 (.done) .stop) .stop) .stop)) (.alt 10 (.take 7 <| .take 8 <| .alt 11 (.alt 12 (.done) .stop) .stop) .stop))) .stop))) (.alt 9 (.alt 4 (.take 5 <| .take 6 <| .alt 7 (.alt 8 (.alt 10 (.alt 11 (.alt 12 (.done) .stop) .stop) .stop) (.alt 10 (.take 8 <| .alt 11 (.alt 12 (.done) .stop) .stop) .stop)) (.alt 8 (.alt 7 (.alt 10 (.alt 11 (.alt 12 (.done) .stop) .stop) .stop) (.alt 10 (.take 7 <| .alt 11 (.alt 12 (.done) .stop) .stop) .stop)) (.alt 10 (.take 7 <| .take 8 <| .alt 11 (.alt 12 (.done) .stop) .stop) .stop))) .stop) .stop)) (.alt 9 (.alt 3 (.alt 4 (.take 5 <| .take 6 <| .alt 7 (.alt 8 (.alt 10 (.alt 11 (.alt 12 (.done) .stop) .stop) .stop) (.alt 10 (.take 8 <| .alt 11 (.alt 12 (.done) .stop) .stop) .stop)) (.alt 8 (.alt 7 (.alt 10 (.alt 11 (.alt 12 (.done) .stop) .stop) .stop) (.alt 10 (.take 7 <| .alt 11 (.alt 12 (.done) .stop) .stop) .stop)) (.alt 10 (.take 7 <| .take 8 <| .alt 11 (.alt 12 (.done) .stop) .stop) .stop))) .stop) .stop) .stop))] _ _ ?_
        simp (maxSteps := 20000000) [-List.getD_eq_getElem?_getD, c_lawNode, c_NodeOf, c_at, c_MessageTo, c_iNodeTake, c_sNodeTake, c_sameNode, c_sameMessages, c_iMessageOK, c_iNodeTick, c_sNodeTick, c_iNodeOK, c_Committed, c_UpToDate, c_eqNode, c_eqMessageS, c_isMessage, c_isNode, ND.pv, ndOf, eta, ← hd, hnt]
        exact ⟨by decide +kernel, by omega, by omega⟩
      · rintro ys rfl
        refine hW.vc [] _ _ ?_
        simp (maxSteps := 20000000) [-List.getD_eq_getElem?_getD, c_lawNode, c_NodeOf, c_at, c_MessageTo, c_iNodeTake, c_sNodeTake, c_sameNode, c_sameMessages, c_iMessageOK, c_iNodeTick, c_sNodeTick, c_iNodeOK, c_Committed, c_UpToDate, c_eqNode, c_eqMessageS, c_isMessage, c_isNode, ND.pv]
        refine hW.cutS [_] _ _ [.nb 18 26 [.int .i64, .int .i64, .int .i64, .int .i64, .int .i64, .bool, .list (.agg [.int .i64, .str]), .int .i64, .int .i64, .int .i64, .list (.int .i64), .list (.int .i64), .list (.int .i64)], .sl 19 .dp (.list (.agg [.int .i64, .int .i64, .int .i64, .int .i64, .int .i64, .int .i64, .int .i64, .bool, .list (.agg [.int .i64, .str])])), .sl 20 .dp (.int .i64)] (fun ys => ys = [t.1.pv, .list t.2, .int .i64 0]) ?_ ?_
        · refine hW.vc [(16, [10], .take 0 <| .take 1 <| .take 2 <| .alt 3 (.alt 4 (.take 5 <| .take 6 <| .alt 7 (.alt 8 (.alt 9 (.alt 10 (.alt 11 (.alt 12 (.done) .stop) .stop) .stop) .stop) (.alt 9 (.alt 8 (.alt 10 (.alt 11 (.alt 12 (.done) .stop) .stop) .stop) (.alt 10 (.take 8 <| .alt 11 (.alt 12 (.done) .stop) .stop) .stop)) .stop)) (.alt 8 (.alt 7 (.alt 9 (.alt 10 (.alt 11 (.alt 12 (.done) .stop) .stop) .stop) .stop) (.alt 9 (.alt 7 (.alt 10 (.alt 11 (.alt 12 (.done) .stop) .stop) .stop) (.alt 10 (.take 7 <| .alt 11 (.alt 12 (.done) .stop) .stop) .stop)) .stop)) (.alt 9 (.alt 7 (.alt 8 (.alt 10 (.alt 11 (.alt 12 (.done) .stop) .stop) .stop) (.alt 10 (.take 8 <| .alt 11 (.alt 12 (.done) .stop) .stop) .stop)) (.alt 8 (.alt 7 (.alt 10 (.alt 11 (.alt 12 (.done) .stop) .stop) .stop) (.alt 10 (.take 7 <| .alt 11 (.alt 12 (.done) .stop) .stop) .stop)) (.alt 10 (.take 7 <| .take 8 <| .alt 11 (.alt 12 (.done) .stop) .stop) .stop))) .stop))) (.alt 9 (.alt 4 (.take 5 <| .take 6 <| .alt 7 (.alt 8 (.alt 10 (.alt 11 (.alt 12 (.done) .stop) .stop) .stop) (.alt 10 (.take 8 <| .alt 11 (.alt 12 (.done) .stop) .stop) .stop)) (.alt 8 (.alt 7 (.alt 10 (.alt 11 (.alt 12 (.done) .stop) .stop) .stop) (.alt 10 (.take 7 <| .alt 11 (.alt 12 (.done) .stop) .stop) .stop)) (.alt 10 (.take 7 <| .take 8 <| .alt 11 (.alt 12 (.done) .stop) .stop) .stop))) .stop) .stop)) (.alt 9 (.alt 3 (.alt 4 (.take 5 <| .take 6 <| .alt 7 (.alt 8 (.alt 10 (.alt 11 (.alt 12 (.done) .stop) .stop) .stop) (.alt 10 (.take 8 <| .alt 11 (.alt 12 (.done) .stop) .stop) .stop)) (.alt 8 (.alt 7 (.alt 10 (.alt 11 (.alt 12 (.done) .stop) .stop) .stop) (.alt 10 (.take 7 <| .alt 11 (.alt 12 (.done) .stop) .stop) .stop)) (.alt 10 (.take 7 <| .take 8 <| .alt 11 (.alt 12 (.done) .stop) .stop) .stop))) .stop) .stop) .stop))] _ _ ?_
          simp (maxSteps := 20000000) [-List.getD_eq_getElem?_getD, c_lawNode, c_NodeOf, c_at, c_MessageTo, c_iNodeTake, c_sNodeTake, c_sameNode, c_sameMessages, c_iMessageOK, c_iNodeTick, c_sNodeTick, c_iNodeOK, c_Committed, c_UpToDate, c_eqNode, c_eqMessageS, c_isMessage, c_isNode, ND.pv, ndOf, eta, ← hd, hnt, c_iNodeTick]
          exact ⟨by decide +kernel, by omega, by omega⟩
        · rintro ys rfl
          refine hW.vc [] _ _ ?_
          simp (maxSteps := 20000000) [-List.getD_eq_getElem?_getD, c_lawNode, c_NodeOf, c_at, c_MessageTo, c_iNodeTake, c_sNodeTake, c_sameNode, c_sameMessages, c_iMessageOK, c_iNodeTick, c_sNodeTick, c_iNodeOK, c_Committed, c_UpToDate, c_eqNode, c_eqMessageS, c_isMessage, c_isNode, ND.pv, ndOf, eta, c_isNode, c_eqNode, c_eqMessageS, eqNd_refl, eqMs_refl, hxB, hcm2, comL_len, w6]
          have s1 := hS.t0; have s2 := hS.c; have s3 := hS.v
          exact ⟨fun a b => ⟨⟨a, b⟩, fun c => ⟨⟨a, b⟩, c⟩⟩, fun a b => ⟨⟨a, b⟩, fun c d => ⟨⟨a, b⟩, c, d⟩⟩, ⟨⟨s1, s2⟩, s3⟩, fun _ _ _ _ => ⟨by omega, fun _ => ⟨⟨t.1, i + 1, ⟨by and_intros <;> rfl, rfl⟩, (g1.step hx hS).mono (by omega), by omega⟩, by omega⟩⟩⟩
    · have hu : ∀ i t, upR n i t = (upB1 n.log i t, 0) := fun i t => by rw [upR, hB]; rfl
      have ht : tmAt n.log n.log.length < 1000 := by
        by_cases h0 : n.log.length = 0
        · rw [h0]; exact (show tmAt n.log 0 = 0 from if_pos rfl) ▸ (by decide : (0 : Int) < 1000)
        · have := tmAt_in hF (i := n.log.length) (by omega) (by omega)
          omega
      intro _
      rw [hu, hu]
      exact ⟨⟨rfl, by simp [upB1, ht]⟩, rfl⟩

end Go.Proofs.Ytkofjkjcbljkdaa
end

section
namespace Go.Proofs.Ytkofjkjcbljkdaa
variable [LaidG]
set_option linter.unusedVariables false

def ptyOf (g : Bool) (l : List PTy) : PTy := if g then .agg l else l.headD .opq

mutual
/-- The types of data: their leaves. -/
inductive Dat (P : Program) : Nat → Bool → List PTy → Prop
  | int {t k} : P.underlying t = some (.int k) → t < P.types.size → Dat P t false [.int k]
  | bool {t} : P.underlying t = some .bool → t < P.types.size → Dat P t false [.bool]
  | str {t} : P.underlying t = some .string → t < P.types.size → Dat P t false [.str]
  | slice {t e g l} : P.underlying t = some (.slice e) → Dat P e g l → P.cellsOf e = l.length → 0 < l.length → 0 < P.bytesOf e → t < P.types.size → Dat P t false [.list (ptyOf g l)]
  | struct {t fs l} : P.underlying t = some (.struct fs) → Dats P (fs.toList.map (·.type)) l → P.cellsOf t = l.length → t < P.types.size → Dat P t true l
inductive Dats (P : Program) : List Nat → List PTy → Prop
  | nil : Dats P [] []
  | cons {t ts g l m} : Dat P t g l → P.cellsOf t = l.length → Dats P ts m → Dats P (t :: ts) (l ++ m)
end

section
variable {H : Type} {enc : TypeId × Value → H} {P : Program} {w : World} {base : Nat} {spare : Nat → Bool}

theorem Dat.lt {t : Nat} {g : Bool} {l : List PTy} (h : Dat P t g l) : t < P.types.size := by
  cases h <;> assumption

theorem dat_leaf {t : Nat} {l : List PTy} (h : Dat P t false l) : ∃ T, l = [T] ∧ ∀ ts, T ≠ .agg ts := by
  cases h <;> exact ⟨_, rfl, by simp⟩

theorem cells_get {base : Nat} {a : Addr} {n : Nat} {cs : List Value} (h : w.cells? base a n = some cs) : cs.length = n ∧ ∀ i, i < n → w.cell? (a.add i) = cs[i]? := by
  unfold World.cells? at h
  split at h
  · refine ⟨by simpa using mapM_some_length h, fun i hi => ?_⟩
    have := mapM_some_get h i i (by simp [hi])
    exact this
  · cases h

theorem lim_reach {n : Nat} (h : n ≤ reachBytes) : n ≤ LIM := by
  unfold reachBytes at h; unfold LIM; omega

/-- Elements, one after the other. -/
theorem elems_lv {g : Bool} {l : List PTy} {T : PTy} (hT : T = ptyOf g l) (hg : g = false → ∃ T, l = [T] ∧ ∀ ts, T ≠ .agg ts) : ∀ (css : List (List Value)), (∀ cs ∈ css, ∃ qs f, Lv w l qs cs f) →
    ∃ es f, es.length = css.length ∧ (∀ e ∈ es, Shp T e) ∧ Lv w (flatT T es.length) (flatP es) css.flatten f ∧ T.leaves = l
  | [], _ => ⟨[], [], rfl, by simp, by simpa [flatT, flatP] using Lv.nil, by
      subst hT
      cases g with
      | true => rfl
      | false => obtain ⟨T, rfl, h⟩ := hg rfl; cases T <;> first | rfl | exact absurd rfl (h _)⟩
  | cs :: css, h => by
    obtain ⟨es, f, e1, e2, e3, e4⟩ := elems_lv hT hg css fun x hx => h x (by simp [hx])
    obtain ⟨qs, f1, hq⟩ := h cs (by simp)
    have key : ∃ e, Shp T e ∧ e.leaves = qs := by
      subst hT
      cases g with
      | true => exact ⟨.agg qs, ⟨qs, rfl, hq.lens.1.symm⟩, rfl⟩
      | false =>
        obtain ⟨T, rfl, hn⟩ := hg rfl
        have hl := hq.lens.1
        match qs, hl with
        | [q], _ =>
          have hne := hq.leaves_of q (by simp)
          refine ⟨q, ?_, ?_⟩
          · show Shp T q
            cases T <;> first | exact hne | exact absurd rfl (hn _)
          · cases q <;> first | rfl | exact absurd rfl (hne _)
    obtain ⟨e, k1, k2⟩ := key
    refine ⟨e :: es, f1 ++ f, by simp [e1], ?_, ?_, e4⟩
    · intro x hx; rcases List.mem_cons.1 hx with rfl | hx
      · exact k1
      · exact e2 x hx
    · have q1 : flatT T (e :: es).length = T.leaves ++ flatT T es.length := by simp [flatT, List.replicate_succ]
      have q2 : flatP (e :: es) = e.leaves ++ flatP es := by simp [flatP]
      rw [q1, q2, e4, k2, List.flatten_cons]
      exact hq.append e3

theorem wf_inR {k : IntKind} {n : Int} (h : (Lit.int k n).wf = true) : inR k n := by
  unfold Lit.wf at h; unfold inR
  simpa only [Bool.and_eq_true, decide_eq_true_eq] using h

theorem row_take {c : Array Value} {ci : List Value} {o k : Nat} (h1 : ci.length = k) (h2 : ∀ j, j < k → c[o + j]? = ci[j]?) : (c.toList.drop o).take k = ci := by
  apply List.ext_getElem?
  intro j
  by_cases hj : j < k
  · rw [List.getElem?_take, if_pos hj, List.getElem?_drop, ← h2 j hj]; simp
  · rw [List.getElem?_take, if_neg hj, List.getElem?_eq_none (by omega)]

theorem rows_take {c : Array Value} {o k : Nat} : ∀ (css : List (List Value)) (i0 : Nat), (∀ i ci, css[i]? = some ci → ci.length = k ∧ ∀ j, j < k → c[o + (i0 + i) * k + j]? = ci[j]?) → (c.toList.drop (o + i0 * k)).take css.flatten.length = css.flatten
  | [], i0, _ => by simp
  | ci :: css, i0, h => by
    obtain ⟨h1, h2⟩ := h 0 ci (by simp)
    have ih := rows_take (c := c) (o := o) (k := k) css (i0 + 1) fun i cj hi => by
      have := h (i + 1) cj (by simpa using hi)
      rw [show i0 + (i + 1) = i0 + 1 + i by omega] at this
      exact this
    simp only [List.flatten_cons, List.length_append]
    rw [List.take_add, List.drop_drop, h1]
    congr 1
    · exact row_take h1 fun j hj => by simpa using h2 j hj
    · rw [show o + i0 * k + k = o + (i0 + 1) * k by rw [Nat.add_mul]; omega]
      exact ih

theorem weightsAll_mem {e : TypeId} : ∀ {ds : List (DataW H)} {d : DataW H}, d ∈ ds → ∀ y ∈ d.weights P e, y ∈ DataW.weightsAll P e ds
  | x :: ds, d, hd, y, hy => by
    simp only [DataW.weightsAll, List.mem_append]
    rcases List.mem_cons.1 hd with rfl | hd
    · exact .inl hy
    · exact .inr (weightsAll_mem hd y hy)

theorem dats_lv {n : Nat} {cs : List Value} (ih : ∀ t g l cs x, Dat P t g l → DataW.trod enc P w base spare true n t cs = some x → (∀ y ∈ x.1.weights P t, y ≤ reachBytes) → ∃ qs f, Lv w l qs cs f) : ∀ (fs : List Field) (l : List PTy) (xs : List (DataW H × List MemPlace)) (o : Nat), Dats P (fs.map Field.type) l →
  (∀ (j : Nat) (f : Field), fs[j]? = some f → f.offset = o + ((fs.take j).map fun (f : Field) => P.cellsOf f.type).sum) → (∀ (j : Nat) (f : Field), fs[j]? = some f → DataW.trod enc P w base spare true n f.type ((cs.drop f.offset).take (P.cellsOf f.type)) = xs[j]?) → xs.length = fs.length →
    (∀ y ∈ DataW.weightsEach P (fs.map Field.type) (xs.map (·.1)), y ≤ reachBytes) → ∃ qs f, Lv w l qs ((cs.drop o).take l.length) f
  | [], l, xs, o, hd, hof, hx, hlen, hw => by cases hd; exact ⟨[], [], by simpa using Lv.nil⟩
  | f :: fs, l, xs, o, hd, hof, hx, hlen, hw => by
    cases xs with
    | nil => simp at hlen
    | cons x xs =>
      simp only [List.map_cons] at hd hw
      cases hd with
      | @cons t ts g l1 m h1 h2 h3 =>
        have e0 := hof 0 f (by simp)
        simp only [List.take_zero, List.map_nil, List.sum_nil, Nat.add_zero] at e0
        have x0 := hx 0 f (by simp)
        simp only [List.getElem?_cons_zero, e0, h2] at x0
        simp only [DataW.weightsEach, List.mem_append] at hw
        obtain ⟨q1, f1, hq1⟩ := ih _ _ _ _ _ h1 x0 (fun y hy => hw y (.inl hy))
        obtain ⟨q2, f2, hq2⟩ := dats_lv ih fs m xs (o + l1.length) h3 (fun j f' hj => by
          have := hof (j + 1) f' (by simpa using hj)
          simp only [List.take_succ_cons, List.map_cons, List.sum_cons, h2] at this
          omega) (fun j f' hj => by simpa using hx (j + 1) f' (by simpa using hj)) (by simpa using hlen) (fun y hy => hw y (.inr hy))
        refine ⟨q1 ++ q2, f1 ++ f2, ?_⟩
        rw [List.length_append, List.take_add, List.drop_drop]
        exact hq1.append hq2

/-- What is read as data lies in memory as such. -/
theorem trod_lv (K : Kids P (· < P.types.size)) (hdt : ∀ t g l, Dat P t g l → t < P.types.size) : ∀ (n : Nat) (t : Nat) (g : Bool) (l : List PTy) (cs : List Value) (x : DataW H × List MemPlace), Dat P t g l → DataW.trod enc P w base spare true n t cs = some x → (∀ y ∈ x.1.weights P t, y ≤ reachBytes) → ∃ qs f, Lv w l qs cs f := by
  intro n
  induction n with
  | zero => intro t g l cs x _ h; simp [DataW.trod] at h
  | succ n ih =>
    intro t g l cs x hd h hw
    have hd0 := hd
    cases hd with
    | int ht _ =>
      obtain ⟨m, rfl, rfl, hwf⟩ := DataW.trod_int ht h
      exact ⟨[.int _ m], [], .int (wf_inR hwf) .nil⟩
    | bool ht _ =>
      obtain ⟨b, rfl, rfl⟩ := DataW.trod_bool ht h
      exact ⟨[.bool b], [], .bool .nil⟩
    | str ht _ =>
      obtain ⟨b, rfl, rfl, hl⟩ := DataW.trod_string ht h
      have := hw b.data.toList.length (by simp [DataW.weights])
      refine ⟨[.str b.data.toList], [], ?_⟩
      have hL := Lv.str (w := w) (lim_reach this) (Lv.nil (w := w))
      simpa using hL
    | @slice _ e g' l' ht he hc hpos hby _ =>
      rcases DataW.trod_slice ht h with ⟨rfl, rfl⟩ | ⟨a, len, cap, elems, rest, m, hm, rfl, rfl, hb, hle, hcap, hel, hget, _⟩
      · exact ⟨[.list []], [], .empty .nil⟩
      · have hmn : m = n := by omega
        subst hmn
        simp only [DataW.weights, ht, List.length_map, List.mem_cons, List.mem_append] at hw
        have hlim : len ≤ LIM := by
          have h1 := lim_reach (hw _ (.inl rfl))
          have h2 : elems.length * 1 ≤ (elems.length + rest.length) * P.bytesOf e := Nat.mul_le_mul (by omega) hby
          omega
        cases len with
        | zero => exact ⟨[.list []], [], .empty .nil⟩
        | succ len =>
          have hcell : ∀ i, i < len + 1 → ∃ ci y, w.cells? base (a.add (i * l'.length)) l'.length = some ci ∧ elems[i]? = some y ∧ ∃ qs f, Lv w l' qs ci f := by
            intro i hi
            have h1 := hget i hi
            have hy : elems[i]? = some elems[i] := by simp [hel, hi]
            rw [hy, hc] at h1
            cases hci : w.cells? base (a.add (i * l'.length)) l'.length with
            | none => rw [hci] at h1; cases h1
            | some ci =>
              rw [hci] at h1
              exact ⟨ci, _, rfl, hy, ih e g' l' ci _ he h1 fun y hy => hw y (.inr (.inl (weightsAll_mem (List.mem_map.2 ⟨_, List.getElem_mem (by omega), rfl⟩) y hy)))⟩
          let ci : Nat → List Value := fun i => (w.cells? base (a.add (i * l'.length)) l'.length).getD []
          have hci : ∀ i, i < len + 1 → w.cells? base (a.add (i * l'.length)) l'.length = some (ci i) ∧ ∃ qs f, Lv w l' qs (ci i) f := by
            intro i hi
            obtain ⟨c, y, h1, _, h2⟩ := hcell i hi
            have : ci i = c := by simp [ci, h1]
            rw [this]; exact ⟨h1, h2⟩
          have hT : ∃ T, T = ptyOf g' l' := ⟨_, rfl⟩
          obtain ⟨T, hT⟩ := hT
          obtain ⟨es, f, e1, e2, e3, e4⟩ := elems_lv (w := w) hT (fun hg => by subst hg; exact dat_leaf he) ((List.range (len + 1)).map ci) fun cs hcs => by
            obtain ⟨i, hi, rfl⟩ := List.mem_map.1 hcs
            exact (hci i (by simpa using hi)).2
          simp only [List.length_map, List.length_range] at e1
          obtain ⟨b, o, sp⟩ := a
          have h00 := (cells_get (hci 0 (by omega)).1)
          have h01 := h00.2 0 hpos
          have hne : ∃ u, (ci 0)[0]? = some u := ⟨(ci 0)[0]'(by omega), by simp [h00.1, hpos]⟩
          obtain ⟨u, hu⟩ := hne
          rw [hu] at h01
          have ha0 : (Addr.add ⟨b, o, sp⟩ (0 * l'.length)).add 0 = ⟨b, o, sp⟩ := by simp [Addr.add]
          rw [ha0] at h01
          simp only [World.cell?] at h01
          have hblk : ∃ c t' fr, w.heap[b]? = some (.cells c t' fr) ∧ sp = none := by
            split at h01
            · rename_i c t' fr hc'
              refine ⟨c, t', fr, hc', ?_⟩
              cases sp with
              | none => rfl
              | some _ => simp at h01
            · cases h01
          obtain ⟨c, t', fr, hblk, rfl⟩ := hblk
          refine ⟨[.list es], b :: f ++ [], ?_⟩
          subst hT
          have := Lv.list (cap := cap) (o := o) hblk e2 ⟨by omega, by omega⟩ e3 ?_ Lv.nil
          · rw [e1] at this
            exact this
          · have := rows_take (c := c) (o := o) (k := l'.length) ((List.range (len + 1)).map ci) 0 fun i cj hi => by
              simp only [List.getElem?_map, List.getElem?_range, Option.map_eq_some_iff] at hi
              obtain ⟨j, hj, rfl⟩ := hi
              have hij : i < len + 1 ∧ i = j := by
                by_cases hlt : i < len + 1
                · rw [List.getElem?_range hlt] at hj; cases hj; exact ⟨hlt, rfl⟩
                · rw [List.getElem?_eq_none (by simp; omega)] at hj; cases hj
              obtain ⟨hlt, rfl⟩ := hij
              obtain ⟨k1, k2⟩ := cells_get (hci i hlt).1
              refine ⟨k1, fun j hj => ?_⟩
              have := k2 j hj
              rw [addr_add, addr_add] at this
              simp only [World.cell?, hblk] at this
              rw [← this]
              simp [Nat.add_assoc]
            simpa using this
    | @struct _ fs l ht hds hc _ =>
      obtain ⟨xs, m, hm, rfl, hlen, hxl, hget⟩ := DataW.trod_struct ht h
      have hmn : m = n := by omega
      subst hmn
      obtain ⟨_, _, hoff⟩ := K.struct (hdt _ _ _ hd0) ht
      simp only [DataW.weights, ht] at hw
      obtain ⟨qs, f, hq⟩ := dats_lv (cs := cs) ih fs.toList l xs 0 hds (fun j f hj => by simpa using hoff j f hj) (fun j f hj => hget j f (by simpa using hj)) (by simpa using hxl) hw
      refine ⟨qs, f, ?_⟩
      rw [List.drop_zero, List.take_of_length_le (by omega)] at hq
      exact hq

end
end Go.Proofs.Ytkofjkjcbljkdaa
end

