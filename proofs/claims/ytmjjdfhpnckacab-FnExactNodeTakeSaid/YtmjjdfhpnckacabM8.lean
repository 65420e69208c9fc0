/-
  Part 8 of the proof of FnExactNodeTake: a verification-condition generator over the program and the contracts of its functions, in the order of their use.
  Conditions: none.
-/
import Derived.Test.YtmjjdfhpnckacabM7
set_option linter.unusedVariables false
set_option linter.unusedSimpArgs false

section
namespace Go.Proofs.Ytmjjdfhpnckacab
set_option maxRecDepth 100000
set_option linter.unusedSimpArgs false

def c_l08Nodes : FSpec := ⟨[(.rd, .int .i64)], [.bool], true, fun _ => True, fun ps => [.bool (inB (nth ps 0).I 1 5)], fun _ => []⟩
theorem k_l08Nodes : FnOk Try.prog 99 c_l08Nodes := by
  refine fn_mk [0, 2] [.tmp 2] (env_cons (cs := []) k_l01In (env_nil (tyTab_ok []))) mixed Try.func99 rfl (by decide) rfl (by decide) rfl ?_
  intro ps hT hpre W hW
  simp only [c_l08Nodes, TyA, Ty, Tys] at hT hpre
  obtain ⟨_, _, rfl, ⟨n, rfl, hn⟩, rfl⟩ := hT
  refine hW.vc [] _ _ ?_
  simp [-List.getD_eq_getElem?_getD, c_l08Nodes, c_l01In, c_within, c_within]

def c_l07Entry : FSpec := ⟨[(.rd, .agg [.int .i64, .str])], [.bool], true, fun _ => True, fun ps => [.bool (inB (nth (nth ps 0).A 0).I 1 1000 && leB (nth (nth ps 0).A 1).S.length 400)], fun _ => []⟩
theorem k_l07Entry : FnOk Try.prog 147 c_l07Entry := by
  refine fn_mk [0, 1, 2] [.tmp 2] (env_cons (cs := []) k_l01In (env_nil (tyTab_ok []))) mixed Try.func147 rfl (by decide) rfl (by decide) rfl ?_
  intro ps hT hpre W hW
  simp only [c_l07Entry, TyA, Ty, Tys] at hT hpre
  obtain ⟨_, _, rfl, ⟨_, rfl, _, _, rfl, ⟨y, rfl, hy⟩, _, _, rfl, ⟨c, rfl, hc⟩, rfl⟩, rfl⟩ := hT
  refine hW.vc [] _ _ ?_
  simp [-List.getD_eq_getElem?_getD, c_l07Entry, c_l01In, c_within, c_within, leB]
  exact fun _ => rfl

def c_StateOK : FSpec := c_isState
theorem k_StateOK : FnOk Try.prog 100 c_StateOK := by
  refine fn_mk [0, 1, 2, 3] [.tmp 2] (env_cons (cs := []) k_l07Entry (env_cons (cs := []) k_l01In (env_nil (tyTab_ok [])))) mixed Try.func100 rfl (by decide) rfl (by decide) rfl ?_
  intro ps hT hpre W hW
  simp only [c_StateOK, TyA, Ty, Tys] at hT hpre
  simp only [c_isState, TyA, Ty, Tys] at hT hpre
  obtain ⟨_, _, rfl, ⟨_, rfl, _, _, rfl, ⟨t, rfl, ht⟩, _, _, rfl, ⟨v, rfl, hv⟩, _, _, rfl, ⟨es, rfl, hes, tes⟩, rfl⟩, rfl⟩ := hT
  refine hW.vc [(6, [], .take 0 <| .take 1 <| .take 2 <| .take 3 <| .take 4 <| .alt 5 (.take 6 <| .take 7 <| .take 8 <| .take 9 <| .take 10 <| .take 11 <| .take 12 <| .take 13 <| .take 14 <| .take 15 <| .take 16 <| .take 17 <| .take 18 <| .take 19 <| .take 20 <| .take 21 <| .take 22 <| .take 23 <| .take 24 <| .take 25 <| .take 26 <| .take 27 <| .take 28 <| .take 29 <| .take 30 <| .take 31 <| .take 32 <| .take 33 <| .take 34 <| .take 35 <| .take 36 <| .take 37 <| .done) .stop)] _ _ ?_
  simp [-List.getD_eq_getElem?_getD, c_StateOK, c_l01In, c_l07Entry, c_isState, c_within, c_within]
  refine fun _ => ⟨fun h => ?_, fun h1 h2 h3 => ?_⟩
  · rcases h with (h | h) | h
    · simp [stB, h]
    · simp [stB, h]
    · have : ¬ (es.length : Int) ≤ 60 := by omega
      simp [stB, entsB, leB, this]
  have hq : stB t v es = entB t 0 es := by simp [stB, entsB, leB, h1, h2, h3]
  refine hW.loopS _ _ _ [.sl 3 .dp (.int .i64)] (fun ys => ∃ i : Nat, ys = [.int .i64 i] ∧ i ≤ es.length ∧ entB t 0 es = entB t (pvE es i) (es.drop i)) (fun ys => es.length - (nth ys 0).I.toNat) ?_ ?_
  · simp [-List.getD_eq_getElem?_getD, c_StateOK, c_l01In, c_l07Entry, c_isState, c_within]
    exact ⟨0, rfl, by simp, by simp [pvE]⟩
  · rintro ys ⟨i, rfl, g1, g2⟩
    refine hW.vc [(6, [], .take 0 <| .take 1 <| .take 2 <| .take 3 <| .take 4 <| .alt 5 (.take 6 <| .take 7 <| .take 8 <| .take 9 <| .take 10 <| .take 11 <| .take 12 <| .take 13 <| .take 14 <| .take 15 <| .take 16 <| .take 17 <| .take 18 <| .take 19 <| .take 20 <| .take 21 <| .take 22 <| .take 23 <| .take 24 <| .take 25 <| .take 26 <| .take 27 <| .take 28 <| .take 29 <| .take 30 <| .take 31 <| .take 32 <| .take 33 <| .take 34 <| .take 35 <| .take 36 <| .take 37 <| .done) .stop)] _ _ ?_
    simp [-List.getD_eq_getElem?_getD, c_StateOK, c_l01In, c_l07Entry, c_isState, c_within, c_within]
    have k2 : 0 < i → (IntKind.i64.wrap ((i : Int) - 1)).toNat = i - 1 := fun h => by rw [wrap64 (by omega)]; omega
    have k3 : 0 < i → IntKind.i64.wrap ((i : Int) - 1) = i - 1 := fun h => wrap64 (by omega)
    have k0 : inB t 0 1000 = true → t ≤ 1000 := fun h => by simp [inB] at h; omega
    have k1 := k0 h1
    refine fun _ => ⟨fun g3 => ⟨by decide +kernel, g3, fun _ _ _ => ⟨fun a b => ⟨⟨a, b⟩, g3⟩, fun _ => ⟨fun a b c d => ⟨⟨⟨⟨a, b⟩, c⟩, d⟩, by rw [k3 d]; omega⟩, fun a b c d => ⟨⟨⟨⟨a, b⟩, c⟩, d⟩, by rw [k2 d]; omega⟩, fun _ =>
      ⟨fun a b c d => ⟨⟨⟨⟨a, b⟩, c⟩, d⟩, g3⟩, fun _ => ⟨fun a b c => ⟨⟨⟨a, b⟩, c⟩, fun d => ⟨⟨⟨a, b⟩, c⟩, d⟩⟩, ?_⟩⟩⟩⟩⟩, ?_⟩
    · rw [drop_nth g3, entB] at g2
      refine ⟨fun g4 => ?_, fun a b c g5 => ?_⟩
      · rw [hq, g2]
        rcases g4 with ((g4 | g4) | g4) | ⟨g4, g5⟩
        · have : inB (nth (nth es i).A 0).I 1 t = false := by
            simp [inB] at g4 ⊢; intro q; have := g4 q; omega
          simp [this]
        · simp [g4]
        · have : inB (nth (nth es i).A 0).I 1 t = false := by
            simp [inB]; intro q; omega
          simp [this]
        · rw [k2 g4] at g5
          have : ¬ pvE es i ≤ (nth (nth es i).A 0).I := by rw [pvE_pos g4]; omega
          simp [this, leB]
      · rw [wrap64 (by omega)]
        have c' : inB (nth (nth es i).A 0).I 1 t = true := by simp [inB] at a ⊢; omega
        have k5 : pvE es i ≤ (nth (nth es i).A 0).I := by
          by_cases h0 : 0 < i
          · have := g5 h0
            rw [k2 h0] at this
            rw [pvE_pos h0]; exact this
          · have : pvE es i = 0 := by rw [pvE, if_pos (by omega)]
            rw [this]
            simp [inB] at a; omega
        refine ⟨⟨i + 1, by omega, by omega, ?_⟩, by omega⟩
        rw [g2, b, c', pvE_succ]
        simp [k5, leB]
    · intro g3
      rw [List.drop_eq_nil_of_le g3, entB] at g2
      rw [hq, g2]

def c_l08State : FSpec := ⟨[(.rd, .agg [.int .i64, .int .i64, .int .i64, .int .i64, .int .i64, .bool, .list (.agg [.int .i64, .str]), .int .i64, .int .i64, .int .i64, .list (.int .i64), .list (.int .i64), .list (.int .i64)])], [.agg [.int .i64, .int .i64, .list (.agg [.int .i64, .str])]], false, fun _ => True, fun ps => [.agg [nth (nth ps 0).A 2, nth (nth ps 0).A 3, nth (nth ps 0).A 6]], fun _ => []⟩
theorem k_l08State : FnOk Try.prog 101 c_l08State := by
  refine fn_mk [0, 1, 2] [.cell 2 122] (env_nil (tyTab_ok [])) mixed Try.func101 rfl (by decide) rfl (by decide) rfl ?_
  intro ps hT hpre W hW
  simp only [c_l08State, TyA, Ty, Tys] at hT hpre
  obtain ⟨_, _, rfl, ⟨_, rfl, _, _, rfl, ⟨n0, rfl, hn0⟩, _, _, rfl, ⟨n1, rfl, hn1⟩, _, _, rfl, ⟨n2, rfl, hn2⟩, _, _, rfl, ⟨n3, rfl, hn3⟩, _, _, rfl, ⟨n4, rfl, hn4⟩, _, _, rfl, ⟨u, rfl⟩, _, _, rfl, ⟨es, rfl, hes, tes⟩, _, _, rfl, ⟨n5, rfl, hn5⟩, _, _, rfl, ⟨n6, rfl, hn6⟩, _, _, rfl, ⟨n7, rfl, hn7⟩, _, _, rfl, ⟨vs, rfl, hvs, tvs⟩, _, _, rfl, ⟨xs, rfl, hxs, txs⟩, _, _, rfl, ⟨ms, rfl, hms, tms⟩, rfl⟩, rfl⟩ := hT
  refine hW.vc [] _ _ ?_
  simp [-List.getD_eq_getElem?_getD, c_l08State]

def c_sNodeOK : FSpec := c_isNode
theorem k_sNodeOK : FnOk Try.prog 55 c_sNodeOK := by
  refine fn_mk [0, 1, 2, 3, 4] [.tmp 2] (env_cons (cs := []) k_StateOK (env_cons (cs := []) k_l08State (env_cons (cs := []) k_l01In (env_cons (cs := []) k_l08Nodes (env_nil (tyTab_ok [])))))) mixed Try.func55 rfl (by decide) rfl (by decide) rfl ?_
  intro ps hT hpre W hW
  simp only [c_sNodeOK, TyA, Ty, Tys] at hT hpre
  simp only [c_isNode, TyA, Ty, Tys] at hT hpre
  obtain ⟨_, _, rfl, ⟨_, rfl, _, _, rfl, ⟨n0, rfl, hn0⟩, _, _, rfl, ⟨n1, rfl, hn1⟩, _, _, rfl, ⟨n2, rfl, hn2⟩, _, _, rfl, ⟨n3, rfl, hn3⟩, _, _, rfl, ⟨n4, rfl, hn4⟩, _, _, rfl, ⟨u, rfl⟩, _, _, rfl, ⟨es, rfl, hes, tes⟩, _, _, rfl, ⟨n5, rfl, hn5⟩, _, _, rfl, ⟨n6, rfl, hn6⟩, _, _, rfl, ⟨n7, rfl, hn7⟩, _, _, rfl, ⟨vs, rfl, hvs, tvs⟩, _, _, rfl, ⟨xs, rfl, hxs, txs⟩, _, _, rfl, ⟨ms, rfl, hms, tms⟩, rfl⟩, rfl⟩ := hT
  refine hW.vc [(6, [], .take 0 <| .take 1 <| .take 2 <| .take 3 <| .take 4 <| .take 5 <| .take 6 <| .take 7 <| .take 8 <| .alt 9 (.take 10 <| .take 11 <| .take 12 <| .take 13 <| .take 14 <| .take 15 <| .take 16 <| .take 17 <| .take 18 <| .take 19 <| .take 20 <| .take 21 <| .take 22 <| .alt 23 (.take 24 <| .take 25 <| .done) .stop) .stop), (11, [], .take 0 <| .take 1 <| .take 2 <| .take 3 <| .take 4 <| .take 5 <| .take 6 <| .take 7 <| .alt 8 (.take 9 <| .take 10 <| .take 11 <| .take 12 <| .take 13 <| .take 14 <| .take 15 <| .take 16 <| .take 17 <| .take 18 <| .take 19 <| .take 20 <| .take 21 <| .take 22 <| .take 23 <| .take 24 <| .take 25 <| .take 26 <| .take 27 <| .done) .stop)] _ _ ?_
  simp [-List.getD_eq_getElem?_getD, c_sNodeOK, c_l08Nodes, c_l01In, c_l08State, c_StateOK, c_isNode, c_within, c_isState, c_within, c_isState, ndOf]
  by_cases hA : inB n1 1 5 = true
  case neg =>
    have hno := nd_no (n0 := n0) (n1 := n1) (n2 := n2) (n3 := n3) (n4 := n4) (n5 := n5) (n6 := n6) (n7 := n7) (u := u) (es := es) (vs := vs) (xs := xs) (ms := ms) (by simp [hA])
    refine ⟨fun a => absurd a hA, fun _ => ⟨fun a => absurd a hA, ?_⟩⟩
    simp [hA, hno]
  have k1 : IntKind.i64.wrap (n1 - 1) = n1 - 1 := wrap64 (by simp [inB] at hA; omega)
  rw [k1]
  by_cases hB : inB n0 0 (n1 - 1) = true
  case neg =>
    have hno := nd_no (n0 := n0) (n1 := n1) (n2 := n2) (n3 := n3) (n4 := n4) (n5 := n5) (n6 := n6) (n7 := n7) (u := u) (es := es) (vs := vs) (xs := xs) (ms := ms) (by simp [hB])
    refine ⟨fun _ a => absurd a hB, fun _ => ⟨fun _ a => absurd a hB, ?_⟩⟩
    simp [hB, hno]
  refine ⟨fun _ _ => ⟨⟨hA, hB⟩, fun _ _ _ => ⟨fun a b c d e f g h i j => ⟨⟨⟨⟨⟨⟨⟨⟨⟨⟨a, b⟩, c⟩, d⟩, e⟩, f⟩, g⟩, h⟩, i⟩, j⟩, fun k => ⟨⟨⟨⟨⟨⟨⟨⟨⟨⟨a, b⟩, c⟩, d⟩, e⟩, f⟩, g⟩, h⟩, i⟩, j⟩, k⟩⟩, fun h => nd_no ?_, fun _ h2 h3 h4 h5 h7 h8 h9 h10 h11 h6 => ?_⟩⟩, fun h => absurd hB (by rw [h hA]; simp)⟩
  · rcases h with (((((((((h | h) | h) | h) | h) | h) | h) | h) | h) | h) | h <;> simp [h]
  have b5 : n1 ≤ 5 := by simp [inB] at hA; omega
  have hq := nd_eq (vs := vs) hA h2 h3 h4 h5 h6 h7 h8 h9 h10 h11
  refine hW.loopS _ _ _ [.sl 3 .dp (.int .i64)] (fun ys => ∃ j : Nat, ys = [.int .i64 j] ∧ j ≤ xs.length ∧ nmB es.length xs ms = nmB es.length (xs.drop j) (ms.drop j)) (fun ys => xs.length - (nth ys 0).I.toNat) ?_ ?_
  · simp [-List.getD_eq_getElem?_getD, c_sNodeOK, c_l08Nodes, c_l01In, c_l08State, c_StateOK, c_isNode, c_within, c_isState]
    exact ⟨0, rfl, by simp, by simp⟩
  · rintro ys ⟨j, rfl, q1, q2⟩
    refine hW.vc [(6, [], .take 0 <| .take 1 <| .take 2 <| .take 3 <| .take 4 <| .take 5 <| .take 6 <| .take 7 <| .take 8 <| .alt 9 (.take 10 <| .take 11 <| .take 12 <| .take 13 <| .take 14 <| .take 15 <| .take 16 <| .take 17 <| .take 18 <| .take 19 <| .take 20 <| .take 21 <| .take 22 <| .alt 23 (.take 24 <| .take 25 <| .done) .stop) .stop), (11, [], .take 0 <| .take 1 <| .take 2 <| .take 3 <| .take 4 <| .take 5 <| .take 6 <| .take 7 <| .alt 8 (.take 9 <| .take 10 <| .take 11 <| .take 12 <| .take 13 <| .take 14 <| .take 15 <| .take 16 <| .take 17 <| .take 18 <| .take 19 <| .take 20 <| .take 21 <| .take 22 <| .take 23 <| .take 24 <| .take 25 <| .take 26 <| .take 27 <| .done) .stop)] _ _ ?_
    simp [-List.getD_eq_getElem?_getD, c_sNodeOK, c_l08Nodes, c_l01In, c_l08State, c_StateOK, c_isNode, c_within, c_isState, c_within, ndOf]
    have k6 : IntKind.i64.wrap ((es.length : Int) + 1) = es.length + 1 := wrap64 (by rw [LIM] at hes; omega)
    have k7 : inB (nth xs j).I 1 (es.length + 1) = true → IntKind.i64.wrap ((nth xs j).I - 1) = (nth xs j).I - 1 := fun h => wrap64 (by rw [LIM] at hes; simp [inB] at h; omega)
    rw [k6]
    refine ⟨fun q3 => ⟨by decide +kernel, by omega, fun _ _ => ⟨fun q4 => ⟨q4, by omega⟩, fun _ => ⟨fun q4 => ⟨q4, by omega⟩, fun _ => ⟨fun q4 => ?_, fun q4 q5 => ?_⟩⟩⟩⟩, fun q3 => ?_⟩
    · rw [drop_nth (by omega : j < xs.length), drop_nth (by omega : j < ms.length), nmB] at q2
      rw [hq, q2]
      by_cases q5 : inB (nth xs j).I 1 (es.length + 1) = true
      · rw [k7 q5] at q4
        rcases q4 with q4 | q4 <;> simp [q4]
      · simp [q5]
    · rw [drop_nth (by omega : j < xs.length), drop_nth (by omega : j < ms.length), nmB] at q2
      rw [k7 q4] at q5
      rw [wrap64 (by omega)]
      exact ⟨⟨j + 1, by omega, by omega, by rw [q2, q4, q5]; simp⟩, by omega⟩
    rw [List.drop_eq_nil_of_le (by omega : xs.length ≤ j)] at q2
    have hq' : nodeB ⟨n0, n1, n2, n3, n4, u, es, n5, n6, n7, vs, xs, ms⟩ = voB n1 (-1) vs := by rw [hq, q2]; simp [nmB]
    refine hW.loopS _ _ _ [.sl 4 .dp (.int .i64)] (fun ys => ∃ i : Nat, ys = [.int .i64 i] ∧ i ≤ vs.length ∧ voB n1 (-1) vs = voB n1 (pvV vs i) (vs.drop i)) (fun ys => vs.length - (nth ys 0).I.toNat) ?_ ?_
    · simp [-List.getD_eq_getElem?_getD, c_sNodeOK, c_l08Nodes, c_l01In, c_l08State, c_StateOK, c_isNode, c_within, c_isState]
      exact ⟨0, rfl, by simp, by simp [pvV]⟩
    · rintro ys ⟨i, rfl, g1, g2⟩
      refine hW.vc [(6, [], .take 0 <| .take 1 <| .take 2 <| .take 3 <| .take 4 <| .take 5 <| .take 6 <| .take 7 <| .take 8 <| .alt 9 (.take 10 <| .take 11 <| .take 12 <| .take 13 <| .take 14 <| .take 15 <| .take 16 <| .take 17 <| .take 18 <| .take 19 <| .take 20 <| .take 21 <| .take 22 <| .alt 23 (.take 24 <| .take 25 <| .done) .stop) .stop), (11, [], .take 0 <| .take 1 <| .take 2 <| .take 3 <| .take 4 <| .take 5 <| .take 6 <| .take 7 <| .alt 8 (.take 9 <| .take 10 <| .take 11 <| .take 12 <| .take 13 <| .take 14 <| .take 15 <| .take 16 <| .take 17 <| .take 18 <| .take 19 <| .take 20 <| .take 21 <| .take 22 <| .take 23 <| .take 24 <| .take 25 <| .take 26 <| .take 27 <| .done) .stop)] _ _ ?_
      simp [-List.getD_eq_getElem?_getD, c_sNodeOK, c_l08Nodes, c_l01In, c_l08State, c_StateOK, c_isNode, c_within, c_isState, c_within, ndOf]
      rw [k1]
      have hv' : vs.length ≤ 140737488355328 := hvs
      have k2 : 0 < i → (IntKind.i64.wrap ((i : Int) - 1)).toNat = i - 1 := fun h => by rw [wrap64 (by omega)]; omega
      have k3 : 0 < i → IntKind.i64.wrap ((i : Int) - 1) = i - 1 := fun h => wrap64 (by omega)
      refine fun _ => ⟨fun g3 => ⟨by decide +kernel, g3, fun _ => ⟨fun a b => ⟨⟨a, b⟩, by rw [k3 b]; omega⟩, fun a b => ⟨⟨a, b⟩, by rw [k2 b]; omega⟩, fun _ => ⟨fun a b => ⟨⟨a, b⟩, g3⟩, fun _ => ⟨fun a => ⟨a, fun b => ⟨a, b⟩⟩, ?_⟩⟩⟩⟩, fun g3 => ?_⟩
      · rw [drop_nth g3, voB] at g2
        refine ⟨fun g4 => ?_, fun g4 g5 => ?_⟩
        · rw [hq', g2]
          rcases g4 with g4 | ⟨g4, g5⟩
          · simp [g4]
          · rw [k2 g4] at g5
            have : ¬ pvV vs i < (nth vs i).I := by rw [pvV_pos g4]; omega
            simp [this]
        · rw [wrap64 (by omega)]
          have k5 : pvV vs i < (nth vs i).I := by
            by_cases h0 : 0 < i
            · have := g5 h0
              rw [k2 h0] at this
              rw [pvV_pos h0]; exact this
            · have : pvV vs i = -1 := by rw [pvV, if_pos (by omega)]
              rw [this]
              simp [inB] at g4; omega
          refine ⟨⟨i + 1, by omega, by omega, ?_⟩, by omega⟩
          rw [g2, g4, pvV_succ]
          simp [k5]
      · rw [hq', g2, List.drop_eq_nil_of_le g3, voB]

def c_l08Own : FSpec := c_toNode
theorem k_l08Own : FnOk Try.prog 57 c_l08Own := by
  refine fn_mk [0, 1, 2] [.cell 2 41] (env_nil (tyTab_ok [])) mixed Try.func57 rfl (by decide) rfl (by decide) rfl ?_
  intro ps hT hpre W hW
  simp only [c_l08Own, TyA, Ty, Tys] at hT hpre
  simp only [c_toNode, TyA, Ty, Tys] at hT hpre
  obtain ⟨_, _, rfl, ⟨_, rfl, _, _, rfl, ⟨n0, rfl, hn0⟩, _, _, rfl, ⟨n1, rfl, hn1⟩, _, _, rfl, ⟨n2, rfl, hn2⟩, _, _, rfl, ⟨n3, rfl, hn3⟩, _, _, rfl, ⟨n4, rfl, hn4⟩, _, _, rfl, ⟨u, rfl⟩, _, _, rfl, ⟨es, rfl, hes, tes⟩, _, _, rfl, ⟨n5, rfl, hn5⟩, _, _, rfl, ⟨n6, rfl, hn6⟩, _, _, rfl, ⟨n7, rfl, hn7⟩, _, _, rfl, ⟨vs, rfl, hvs, tvs⟩, _, _, rfl, ⟨xs, rfl, hxs, txs⟩, _, _, rfl, ⟨ms, rfl, hms, tms⟩, rfl⟩, rfl⟩ := hT
  simp only [nth_zero, nth_succ, pv_A, pv_L] at hpre
  refine hW.vc [] _ _ ?_
  simp [-List.getD_eq_getElem?_getD, c_l08Own, c_toNode]
  exact ⟨by omega, by omega, by omega, by omega⟩

def c_l08Term : FSpec := ⟨[(.rd, .agg [.int .i64, .int .i64, .int .i64, .int .i64, .int .i64, .bool, .list (.agg [.int .i64, .str]), .int .i64, .int .i64, .int .i64, .list (.int .i64), .list (.int .i64), .list (.int .i64)]), (.rd, .int .i64)], [.int .i64], true, fun ps => 0 ≤ (nth ps 1).I ∧ (nth ps 1).I ≤ (nth (nth ps 0).A 6).L.length, fun ps => [.int .i64 (tmAt (nth (nth ps 0).A 6).L (nth ps 1).I)], fun _ => []⟩
theorem k_l08Term : FnOk Try.prog 117 c_l08Term := by
  refine fn_mk [0, 1, 2, 4] [.tmp 4] (env_nil (tyTab_ok [])) mixed Try.func117 rfl (by decide) rfl (by decide) rfl ?_
  intro ps hT hpre W hW
  simp only [c_l08Term, TyA, Ty, Tys] at hT hpre
  obtain ⟨_, _, rfl, ⟨_, rfl, _, _, rfl, ⟨n0, rfl, hn0⟩, _, _, rfl, ⟨n1, rfl, hn1⟩, _, _, rfl, ⟨n2, rfl, hn2⟩, _, _, rfl, ⟨n3, rfl, hn3⟩, _, _, rfl, ⟨n4, rfl, hn4⟩, _, _, rfl, ⟨u, rfl⟩, _, _, rfl, ⟨es, rfl, hes, tes⟩, _, _, rfl, ⟨n5, rfl, hn5⟩, _, _, rfl, ⟨n6, rfl, hn6⟩, _, _, rfl, ⟨n7, rfl, hn7⟩, _, _, rfl, ⟨vs, rfl, hvs, tvs⟩, _, _, rfl, ⟨xs, rfl, hxs, txs⟩, _, _, rfl, ⟨ms, rfl, hms, tms⟩, rfl⟩, _, _, rfl, ⟨p, rfl, hp⟩, rfl⟩ := hT
  simp only [nth_zero, nth_succ, pv_A, pv_L, pv_I] at hpre
  refine hW.vc [] _ _ ?_
  simp [-List.getD_eq_getElem?_getD, c_l08Term]
  refine ⟨fun h => by rw [tmAt, if_pos h], fun h => ?_⟩
  rw [LIM] at hes
  rw [wrap64 (by omega)]
  exact ⟨⟨by omega, by omega⟩, by omega, fun _ => by rw [tmAt, if_neg h]⟩

def c_send : FSpec := ⟨[(.bx, .box [.int .i64, .int .i64, .int .i64, .int .i64, .int .i64, .bool, .list (.agg [.int .i64, .str]), .int .i64, .int .i64, .int .i64, .list (.int .i64), .list (.int .i64), .list (.int .i64), .list (.agg [.int .i64, .int .i64, .int .i64, .int .i64, .int .i64, .int .i64, .int .i64, .bool, .list (.agg [.int .i64, .str])])]), (.ow, .agg [.int .i64, .int .i64, .int .i64, .int .i64, .int .i64, .int .i64, .int .i64, .bool, .list (.agg [.int .i64, .str])])], [], true, fun ps => (nth (nth ps 0).A 13).L.length ≤ 1000, fun _ => [],
  fun ps => [.agg [nth (nth ps 0).A 0, nth (nth ps 0).A 1, nth (nth ps 0).A 2, nth (nth ps 0).A 3, nth (nth ps 0).A 4, nth (nth ps 0).A 5, nth (nth ps 0).A 6, nth (nth ps 0).A 7, nth (nth ps 0).A 8, nth (nth ps 0).A 9, nth (nth ps 0).A 10, nth (nth ps 0).A 11, nth (nth ps 0).A 12, .list ((nth (nth ps 0).A 13).L ++ [.agg [nth (nth ps 1).A 0, nth (nth ps 0).A 0, nth (nth ps 1).A 2, nth (nth ps 0).A 2, nth (nth ps 1).A 4, nth (nth ps 1).A 5, nth (nth ps 1).A 6, nth (nth ps 1).A 7, nth (nth ps 1).A 8]])]]⟩
theorem k_send : FnOk Try.prog 174 c_send := by
  refine fn_mk [0, 1, 3] [] (env_nil (tyTab_ok [])) mixed Try.func174 rfl (by decide) rfl (by decide) rfl ?_
  intro ps hT hpre W hW
  simp only [c_send, TyA, Ty, Tys] at hT hpre
  obtain ⟨_, _, rfl, ⟨_, rfl, _, _, rfl, ⟨n0, rfl, hn0⟩, _, _, rfl, ⟨n1, rfl, hn1⟩, _, _, rfl, ⟨n2, rfl, hn2⟩, _, _, rfl, ⟨n3, rfl, hn3⟩, _, _, rfl, ⟨n4, rfl, hn4⟩, _, _, rfl, ⟨u, rfl⟩, _, _, rfl, ⟨es, rfl, hes, tes⟩, _, _, rfl, ⟨n5, rfl, hn5⟩, _, _, rfl, ⟨n6, rfl, hn6⟩, _, _, rfl, ⟨n7, rfl, hn7⟩, _, _, rfl, ⟨vs, rfl, hvs, tvs⟩, _, _, rfl, ⟨xs, rfl, hxs, txs⟩, _, _, rfl, ⟨ms, rfl, hms, tms⟩, _, _, rfl, ⟨out, rfl, hout, tout⟩, rfl⟩, _, _, rfl, ⟨_, rfl, _, _, rfl, ⟨m0, rfl, hm0⟩, _, _, rfl, ⟨m1, rfl, hm1⟩, _, _, rfl, ⟨m2, rfl, hm2⟩, _, _, rfl, ⟨m3, rfl, hm3⟩, _, _, rfl, ⟨m4, rfl, hm4⟩, _, _, rfl, ⟨m5, rfl, hm5⟩, _, _, rfl, ⟨m6, rfl, hm6⟩, _, _, rfl, ⟨m7, rfl⟩, _, _, rfl, ⟨m8, rfl, hm8, tm8⟩, rfl⟩, rfl⟩ := hT
  simp only [nth_zero, nth_succ, pv_A, pv_L, pv_I] at hpre
  refine hW.vc [(5, [7, 10], .take 0 <| .take 1 <| .take 2 <| .take 3 <| .take 4 <| .take 5 <| .alt 6 (.alt 7 (.take 8 <| .take 9 <| .alt 10 (.done) .stop) .stop) .stop)] _ _ ?_
  simp [-List.getD_eq_getElem?_getD, c_send]
  exact fun _ => ⟨fun h => ⟨by decide +kernel, by omega, fun _ => h⟩, fun h => ⟨by decide +kernel, by omega⟩⟩

end Go.Proofs.Ytmjjdfhpnckacab
end

section
namespace Go.Proofs.Ytmjjdfhpnckacab
set_option maxRecDepth 100000
set_option linter.unusedSimpArgs false

def c_tell : FSpec := ⟨[(.bx, .box [.int .i64, .int .i64, .int .i64, .int .i64, .int .i64, .bool, .list (.agg [.int .i64, .str]), .int .i64, .int .i64, .int .i64, .list (.int .i64), .list (.int .i64), .list (.int .i64), .list (.agg [.int .i64, .int .i64, .int .i64, .int .i64, .int .i64, .int .i64, .int .i64, .bool, .list (.agg [.int .i64, .str])])]), (.rd, .int .i64)], [], true, fun ps => (nth (nth ps 0).A 13).L.length ≤ 1000 ∧ repOk (ndOf (nth ps 0).A) (nth ps 1).I, fun _ => [],
  fun ps => [.agg [nth (nth ps 0).A 0, nth (nth ps 0).A 1, nth (nth ps 0).A 2, nth (nth ps 0).A 3, nth (nth ps 0).A 4, nth (nth ps 0).A 5, nth (nth ps 0).A 6, nth (nth ps 0).A 7, nth (nth ps 0).A 8, nth (nth ps 0).A 9, nth (nth ps 0).A 10, nth (nth ps 0).A 11, nth (nth ps 0).A 12, .list ((nth (nth ps 0).A 13).L ++ [repV (ndOf (nth ps 0).A) (nth ps 1).I])]]⟩
set_option maxHeartbeats 4000000 in
theorem k_tell : FnOk Try.prog 172 c_tell := by
  refine fn_mk [0, 1, 4] [] (env_cons (cs := []) k_send (env_cons (cs := []) k_l08Term (env_nil (tyTab_ok [])))) mixed Try.func172 rfl (by decide) rfl (by decide) rfl ?_
  intro ps hT hpre W hW
  simp only [c_tell, TyA, Ty, Tys] at hT hpre
  obtain ⟨_, _, rfl, ⟨_, rfl, _, _, rfl, ⟨n0, rfl, hn0⟩, _, _, rfl, ⟨n1, rfl, hn1⟩, _, _, rfl, ⟨n2, rfl, hn2⟩, _, _, rfl, ⟨n3, rfl, hn3⟩, _, _, rfl, ⟨n4, rfl, hn4⟩, _, _, rfl, ⟨u, rfl⟩, _, _, rfl, ⟨es, rfl, hes, tes⟩, _, _, rfl, ⟨n5, rfl, hn5⟩, _, _, rfl, ⟨n6, rfl, hn6⟩, _, _, rfl, ⟨n7, rfl, hn7⟩, _, _, rfl, ⟨vs, rfl, hvs, tvs⟩, _, _, rfl, ⟨xs, rfl, hxs, txs⟩, _, _, rfl, ⟨ms, rfl, hms, tms⟩, _, _, rfl, ⟨out, rfl, hout, tout⟩, rfl⟩, _, _, rfl, ⟨to, rfl, hto⟩, rfl⟩ := hT
  simp only [nth_zero, nth_succ, pv_A, pv_L, pv_I, pv_B, ndOf, repOk] at hpre
  refine hW.vc [(1, [22, 24], .take 0 <| .take 1 <| .take 2 <| .take 3 <| .take 4 <| .take 5 <| .take 6 <| .take 7 <| .take 9 <| .take 10 <| .take 11 <| .take 12 <| .take 15 <| .take 16 <| .take 17 <| .take 18 <| .take 19 <| .take 20 <| .alt 8 (.alt 13 (.alt 14 (.alt 21 (.alt 22 (.take 23 <| .alt 24 (.done) .stop) .stop) .stop) (.alt 21 (.alt 14 (.alt 22 (.take 23 <| .alt 24 (.done) .stop) .stop) .stop) .stop)) (.alt 14 (.alt 13 (.alt 21 (.alt 22 (.take 23 <| .alt 24 (.done) .stop) .stop) .stop) (.alt 21 (.alt 13 (.alt 22 (.take 23 <| .alt 24 (.done) .stop) .stop) (.alt 22 (.take 13 <| .take 23 <| .alt 24 (.done) .stop) .stop)) .stop)) (.alt 21 (.alt 13 (.alt 14 (.alt 22 (.take 23 <| .alt 24 (.done) .stop) .stop) .stop) (.alt 14 (.alt 13 (.alt 22 (.take 23 <| .alt 24 (.done) .stop) .stop) (.alt 22 (.take 13 <| .take 23 <| .alt 24 (.done) .stop) .stop)) .stop)) .stop))) (.alt 13 (.alt 8 (.alt 14 (.alt 21 (.alt 22 (.take 23 <| .alt 24 (.done) .stop) .stop) .stop) (.alt 21 (.alt 14 (.alt 22 (.take 23 <| .alt 24 (.done) .stop) .stop) .stop) .stop)) (.alt 14 (.alt 8 (.alt 21 (.alt 22 (.take 23 <| .alt 24 (.done) .stop) .stop) .stop) (.alt 21 (.alt 8 (.alt 22 (.take 23 <| .alt 24 (.done) .stop) .stop) .stop) .stop)) (.alt 21 (.alt 8 (.alt 14 (.alt 22 (.take 23 <| .alt 24 (.done) .stop) .stop) .stop) (.alt 14 (.alt 8 (.alt 22 (.take 23 <| .alt 24 (.done) .stop) .stop) .stop) .stop)) .stop))) (.alt 14 (.alt 8 (.alt 13 (.alt 21 (.alt 22 (.take 23 <| .alt 24 (.done) .stop) .stop) .stop) (.alt 21 (.alt 13 (.alt 22 (.take 23 <| .alt 24 (.done) .stop) .stop) (.alt 22 (.take 13 <| .take 23 <| .alt 24 (.done) .stop) .stop)) .stop)) (.alt 13 (.alt 8 (.alt 21 (.alt 22 (.take 23 <| .alt 24 (.done) .stop) .stop) .stop) (.alt 21 (.alt 8 (.alt 22 (.take 23 <| .alt 24 (.done) .stop) .stop) .stop) .stop)) (.alt 21 (.alt 8 (.alt 13 (.alt 22 (.take 23 <| .alt 24 (.done) .stop) .stop) (.alt 22 (.take 13 <| .take 23 <| .alt 24 (.done) .stop) .stop)) (.alt 13 (.alt 8 (.alt 22 (.take 23 <| .alt 24 (.done) .stop) .stop) .stop) .stop)) .stop))) (.alt 21 (.alt 8 (.alt 13 (.alt 14 (.alt 22 (.take 23 <| .alt 24 (.done) .stop) .stop) .stop) (.alt 14 (.alt 13 (.alt 22 (.take 23 <| .alt 24 (.done) .stop) .stop) (.alt 22 (.take 13 <| .take 23 <| .alt 24 (.done) .stop) .stop)) .stop)) (.alt 13 (.alt 8 (.alt 14 (.alt 22 (.take 23 <| .alt 24 (.done) .stop) .stop) .stop) (.alt 14 (.alt 8 (.alt 22 (.take 23 <| .alt 24 (.done) .stop) .stop) .stop) .stop)) (.alt 14 (.alt 8 (.alt 13 (.alt 22 (.take 23 <| .alt 24 (.done) .stop) .stop) (.alt 22 (.take 13 <| .take 23 <| .alt 24 (.done) .stop) .stop)) (.alt 13 (.alt 8 (.alt 22 (.take 23 <| .alt 24 (.done) .stop) .stop) .stop) .stop)) .stop))) .stop))))] _ _ ?_
  simp [-List.getD_eq_getElem?_getD, c_tell, c_l08Term, c_send, ndOf]
  obtain ⟨p0, p1, p2, p3, p4, p5⟩ := hpre
  rw [wrap64 (n := (nth xs to.toNat).I - 1) (by omega)]
  have e : ((nth xs to.toNat).I - 1).toNat = (nth xs to.toNat).I.toNat - 1 := by omega
  have e2 : PV.agg [PV.int IntKind.i64 3, PV.int IntKind.i64 n0, PV.int IntKind.i64 to, PV.int IntKind.i64 n2, PV.int IntKind.i64 ((nth xs to.toNat).I - 1), PV.int IntKind.i64 (tmAt es ((nth xs to.toNat).I - 1)), PV.int IntKind.i64 n5, PV.bool false,
      PV.list (List.take (es.length - ((nth xs to.toNat).I - 1).toNat) (List.drop ((nth xs to.toNat).I - 1).toNat es))] = repV ⟨n0, n1, n2, n3, n4, u, es, n5, n6, n7, vs, xs, ms⟩ to := by
    rw [List.take_of_length_le (by simp), e]; rfl
  exact ⟨⟨p1, p2⟩, by omega, fun _ => ⟨by decide +kernel, ⟨⟨by omega, by omega⟩, fun _ => ⟨by omega, p0, e2⟩⟩, ⟨by omega, by omega⟩, fun _ => ⟨⟨by omega, by omega⟩, by omega, p0, e2⟩⟩⟩

def c_all : FSpec := ⟨[(.bx, .box [.int .i64, .int .i64, .int .i64, .int .i64, .int .i64, .bool, .list (.agg [.int .i64, .str]), .int .i64, .int .i64, .int .i64, .list (.int .i64), .list (.int .i64), .list (.int .i64), .list (.agg [.int .i64, .int .i64, .int .i64, .int .i64, .int .i64, .int .i64, .int .i64, .bool, .list (.agg [.int .i64, .str])])])], [], true, fun ps => (nth (nth ps 0).A 13).L.length ≤ 990 ∧ repsOk (ndOf (nth ps 0).A), fun _ => [],
  fun ps => [.agg [nth (nth ps 0).A 0, nth (nth ps 0).A 1, nth (nth ps 0).A 2, nth (nth ps 0).A 3, nth (nth ps 0).A 4, nth (nth ps 0).A 5, nth (nth ps 0).A 6, nth (nth ps 0).A 7, nth (nth ps 0).A 8, nth (nth ps 0).A 9, nth (nth ps 0).A 10, nth (nth ps 0).A 11, nth (nth ps 0).A 12, .list ((nth (nth ps 0).A 13).L ++ repAll (ndOf (nth ps 0).A) (nth (nth ps 0).A 1).I.toNat)]]⟩
theorem k_all : FnOk Try.prog 148 c_all := by
  refine fn_mk [0, 2] [] (env_cons (cs := []) k_tell (env_nil (tyTab_ok []))) mixed Try.func148 rfl (by decide) rfl (by decide) rfl ?_
  intro ps hT hpre W hW
  simp only [c_all, TyA, Ty, Tys] at hT hpre
  obtain ⟨_, _, rfl, ⟨_, rfl, _, _, rfl, ⟨n0, rfl, hn0⟩, _, _, rfl, ⟨n1, rfl, hn1⟩, _, _, rfl, ⟨n2, rfl, hn2⟩, _, _, rfl, ⟨n3, rfl, hn3⟩, _, _, rfl, ⟨n4, rfl, hn4⟩, _, _, rfl, ⟨u, rfl⟩, _, _, rfl, ⟨es, rfl, hes, tes⟩, _, _, rfl, ⟨n5, rfl, hn5⟩, _, _, rfl, ⟨n6, rfl, hn6⟩, _, _, rfl, ⟨n7, rfl, hn7⟩, _, _, rfl, ⟨vs, rfl, hvs, tvs⟩, _, _, rfl, ⟨xs, rfl, hxs, txs⟩, _, _, rfl, ⟨ms, rfl, hms, tms⟩, _, _, rfl, ⟨out, rfl, hout, tout⟩, rfl⟩, rfl⟩ := hT
  simp only [nth_zero, nth_succ, pv_A, pv_L, pv_I, pv_B, ndOf, repsOk] at hpre
  refine hW.vc [] _ _ ?_
  simp [-List.getD_eq_getElem?_getD, c_all, c_tell, ndOf]
  obtain ⟨p0, p1, p2, p3⟩ := hpre
  obtain ⟨nd, hnd⟩ : ∃ nd : ND, nd = ⟨n0, n1, n2, n3, n4, u, es, n5, n6, n7, vs, xs, ms⟩ := ⟨_, rfl⟩
  refine hW.loopS _ _ _ [.bx 0 [.int .i64, .int .i64, .int .i64, .int .i64, .int .i64, .bool, .list (.agg [.int .i64, .str]), .int .i64, .int .i64, .int .i64, .list (.int .i64), .list (.int .i64), .list (.int .i64), .list (.agg [.int .i64, .int .i64, .int .i64, .int .i64, .int .i64, .int .i64, .int .i64, .bool, .list (.agg [.int .i64, .str])])], .sl 2 .dp (.int .i64)] (fun ys => ∃ i : Nat, ys = [.agg [.int .i64 n0, .int .i64 n1, .int .i64 n2, .int .i64 n3, .int .i64 n4, .bool u, .list es, .int .i64 n5, .int .i64 n6, .int .i64 n7, .list vs, .list xs, .list ms, .list (out ++ repAll nd i)], .int .i64 i] ∧ (i : Int) ≤ n1) (fun ys => n1.toNat - (nth ys 1).I.toNat) ?_ ?_
  · simp [-List.getD_eq_getElem?_getD, c_all, c_tell]
    exact ⟨0, ⟨by simp [repAll], rfl⟩, by omega⟩
  · rintro ys ⟨i, rfl, g1⟩
    refine hW.vc [] _ _ ?_
    simp [-List.getD_eq_getElem?_getD, c_all, c_tell, ndOf]
    have hl := repAll_len nd i
    rw [← hnd, wrap64 (n := (i : Int) + 1) (by omega)]
    refine ⟨fun q2 => ⟨fun q3 => ⟨⟨by omega, by rw [hnd]; exact p3 i q2⟩, ⟨i + 1, ⟨?_, rfl⟩, by omega⟩, by omega⟩, fun q3 => ⟨⟨i + 1, ⟨?_, rfl⟩, by omega⟩, by omega⟩⟩, fun q2 => ?_⟩
    · rw [repAll, if_neg (by rw [hnd]; exact q3)]
    · rw [repAll, if_pos (by rw [hnd]; exact q3), List.append_nil]
    · have : i = n1.toNat := by omega
      rw [this]

end Go.Proofs.Ytmjjdfhpnckacab
end

section
namespace Go.Proofs.Ytmjjdfhpnckacab
set_option maxRecDepth 100000
set_option linter.unusedSimpArgs false

/-- Terms that do not fall, none above t. -/
def monoP (t : Int) (es : List PV) : Prop := ∀ j, j < es.length → (nth (nth es j).A 0).I ≤ t ∧ ∀ i, i ≤ j → (nth (nth es i).A 0).I ≤ (nth (nth es j).A 0).I
theorem entB_mono {t : Int} : ∀ {es : List PV} {p : Int}, entB t p es = true → ∀ j, j < es.length → p ≤ (nth (nth es j).A 0).I ∧ (nth (nth es j).A 0).I ≤ t ∧ ∀ i, i ≤ j → (nth (nth es i).A 0).I ≤ (nth (nth es j).A 0).I
  | [], p, h, j, hj => by simp at hj
  | e :: es, p, h, j, hj => by
    simp only [entB, Bool.and_eq_true, leB, inB, decide_eq_true_eq] at h
    obtain ⟨⟨⟨h1, h2⟩, h3⟩, h4⟩ := h
    cases j with
    | zero =>
      rw [nth_zero]
      refine ⟨h3, h2.2, fun i hi => ?_⟩
      have : i = 0 := by omega
      subst this
      rw [nth_zero]; exact Int.le_refl _
    | succ j =>
      obtain ⟨a1, a2, a3⟩ := entB_mono h4 j (by simpa using hj)
      rw [nth_succ]
      refine ⟨Int.le_trans h3 a1, a2, fun i hi => ?_⟩
      cases i with
      | zero => rw [nth_zero]; exact a1
      | succ i => rw [nth_succ]; exact a3 i (by omega)
theorem mono_of {t p : Int} {es : List PV} (h : entB t p es = true) : monoP t es := fun j hj => (entB_mono h j hj).2
theorem mono_le {t t' : Int} {es : List PV} (h : monoP t es) (ht : t ≤ t') : monoP t' es := fun j hj => ⟨Int.le_trans (h j hj).1 ht, (h j hj).2⟩
theorem nth_app_l {a b : List PV} {i : Nat} (h : i < a.length) : nth (a ++ b) i = nth a i := by simp [nth, List.getElem?_append_left h]
theorem nth_app_r {a : List PV} {x : PV} : nth (a ++ [x]) a.length = x := by simp [nth]
theorem mono_lead {t : Int} {es : List PV} (h : monoP t es) : monoP t (leadL t es) := by
  unfold leadL
  split
  · intro j hj
    rw [List.length_append, List.length_singleton] at hj
    by_cases h1 : j < es.length
    · rw [nth_app_l h1]
      exact ⟨(h j h1).1, fun i hi => by rw [nth_app_l (by omega)]; exact (h j h1).2 i hi⟩
    · have : j = es.length := by omega
      subst this
      rw [nth_app_r]
      refine ⟨Int.le_refl _, fun i hi => ?_⟩
      by_cases h2 : i < es.length
      · rw [nth_app_l h2]; exact (h i h2).1
      · have : i = es.length := by omega
        subst this
        rw [nth_app_r]; exact Int.le_refl _
  · exact h
/-- Below an elder term nothing is committed. -/
theorem advG_stop {n : ND} (hm : monoP n.term n.log) (h0 : 0 ≤ n.com) : ∀ {p : Nat}, p ≤ n.log.length → tmAt n.log p ≠ n.term → advG n p = n.com
  | 0, _, _ => rfl
  | p + 1, hp, ht => by
    by_cases h1 : ((p + 1 : Nat) : Int) ≤ n.com
    · exact advG_low h1 h0
    · rw [advG_up (by omega) h0, if_neg (fun h => ht h.1), Nat.add_sub_cancel]
      cases p with
      | zero => rfl
      | succ p =>
        refine advG_stop hm h0 (by omega) ?_
        have e1 : tmAt n.log ((p + 1 + 1 : Nat) : Int) = (nth (nth n.log (p + 1)).A 0).I := by
          have e : (((p + 1 + 1 : Nat) : Int) - 1).toNat = p + 1 := by omega
          rw [tmAt, if_neg (by omega), e]
        have e2 : tmAt n.log ((p + 1 : Nat) : Int) = (nth (nth n.log p).A 0).I := by
          have e : (((p + 1 : Nat) : Int) - 1).toNat = p := by omega
          rw [tmAt, if_neg (by omega), e]
        rw [e1] at ht
        rw [e2]
        have := hm (p + 1) (by omega)
        have := this.2 p (by omega)
        omega

def c_sAdvance : FSpec := ⟨[(.bx, .box [.int .i64, .int .i64, .int .i64, .int .i64, .int .i64, .bool, .list (.agg [.int .i64, .str]), .int .i64, .int .i64, .int .i64, .list (.int .i64), .list (.int .i64), .list (.int .i64), .list (.agg [.int .i64, .int .i64, .int .i64, .int .i64, .int .i64, .int .i64, .int .i64, .bool, .list (.agg [.int .i64, .str])])])], [], true, fun ps => 0 ≤ (nth (nth ps 0).A 7).I ∧ ((nth (nth ps 0).A 12).L.length : Int) = (nth (nth ps 0).A 1).I ∧ (nth (nth ps 0).A 1).I ≤ 5 ∧ (nth (nth ps 0).A 6).L.length ≤ 1024 ∧ monoP (nth (nth ps 0).A 2).I (nth (nth ps 0).A 6).L, fun _ => [],
  fun ps => [.agg [nth (nth ps 0).A 0, nth (nth ps 0).A 1, nth (nth ps 0).A 2, nth (nth ps 0).A 3, nth (nth ps 0).A 4, nth (nth ps 0).A 5, nth (nth ps 0).A 6, .int .i64 (advG (ndOf (nth ps 0).A) (nth (nth ps 0).A 6).L.length), nth (nth ps 0).A 8, nth (nth ps 0).A 9, nth (nth ps 0).A 10, nth (nth ps 0).A 11, nth (nth ps 0).A 12, nth (nth ps 0).A 13]]⟩
theorem k_sAdvance : FnOk Try.prog 152 c_sAdvance := by
  refine fn_mk [0, 2, 3, 4] [] (env_cons (cs := []) k_l01Bit (env_nil (tyTab_ok []))) mixed Try.func152 rfl (by decide) rfl (by decide) rfl ?_
  intro ps hT hpre W hW
  simp only [c_sAdvance, TyA, Ty, Tys] at hT hpre
  obtain ⟨_, _, rfl, ⟨_, rfl, _, _, rfl, ⟨n0, rfl, hn0⟩, _, _, rfl, ⟨n1, rfl, hn1⟩, _, _, rfl, ⟨n2, rfl, hn2⟩, _, _, rfl, ⟨n3, rfl, hn3⟩, _, _, rfl, ⟨n4, rfl, hn4⟩, _, _, rfl, ⟨u, rfl⟩, _, _, rfl, ⟨es, rfl, hes, tes⟩, _, _, rfl, ⟨n5, rfl, hn5⟩, _, _, rfl, ⟨n6, rfl, hn6⟩, _, _, rfl, ⟨n7, rfl, hn7⟩, _, _, rfl, ⟨vs, rfl, hvs, tvs⟩, _, _, rfl, ⟨xs, rfl, hxs, txs⟩, _, _, rfl, ⟨ms, rfl, hms, tms⟩, _, _, rfl, ⟨out, rfl, hout, tout⟩, rfl⟩, rfl⟩ := hT
  simp only [nth_zero, nth_succ, pv_I, pv_L, pv_A] at hpre
  refine hW.vc [(1, [], .take 0 <| .take 1 <| .take 2 <| .take 3 <| .take 4 <| .take 5 <| .take 6 <| .take 7 <| .take 8 <| .take 9 <| .take 10 <| .take 11 <| .take 12 <| .take 13 <| .take 14 <| .take 15 <| .take 16 <| .take 17 <| .take 18 <| .take 19 <| .take 20 <| .take 21 <| .take 22 <| .take 23 <| .take 24 <| .done)] _ _ ?_
  simp [-List.getD_eq_getElem?_getD, c_sAdvance, c_l01Bit, c_bit, c_bit, ndOf]
  obtain ⟨p1, p2, p3, p4, p5⟩ := hpre
  obtain ⟨nd, hnd⟩ : ∃ nd : ND, nd = ⟨n0, n1, n2, n3, n4, u, es, n5, n6, n7, vs, xs, ms⟩ := ⟨_, rfl⟩
  have hc : nd.com = n5 := by rw [hnd]
  have hl : nd.log = es := by rw [hnd]
  have ht : nd.term = n2 := by rw [hnd]
  have hn : nd.nodes = n1 := by rw [hnd]
  have hi : nd.id = n0 := by rw [hnd]
  have hm : nd.ms = ms := by rw [hnd]
  refine fun _ => hW.loopS _ _ _ [.sl 2 .dp (.int .i64)] (fun ys => ∃ p : Nat, ys = [.int .i64 p] ∧ p ≤ es.length ∧ advG nd es.length = advG nd p) (fun ys => (nth ys 0).I.toNat) ?_ ?_
  · simp [-List.getD_eq_getElem?_getD, c_sAdvance, c_l01Bit, c_bit]
    exact ⟨_, rfl, by omega, rfl⟩
  · rintro ys ⟨p, rfl, g1, g2⟩
    refine hW.vc [(1, [], .take 0 <| .take 1 <| .take 2 <| .take 3 <| .take 4 <| .take 5 <| .take 6 <| .take 7 <| .take 8 <| .take 9 <| .take 10 <| .take 11 <| .take 12 <| .take 13 <| .take 14 <| .take 15 <| .take 16 <| .take 17 <| .take 18 <| .take 19 <| .take 20 <| .take 21 <| .take 22 <| .take 23 <| .take 24 <| .done)] _ _ ?_
    simp [-List.getD_eq_getElem?_getD, c_sAdvance, c_l01Bit, c_bit, c_bit, ndOf]
    have hu : n5 < p → advG nd p = if tmAt es p = n2 ∧ n1 < 2 * cntG n0 p ms ms.length then (p : Int) else advG nd (p - 1) := fun h => by
      rw [advG_up (by rw [hc]; exact h) (by rw [hc]; exact p1), hl, ht, hn, hi, hm]
    have hw : n5 < p → IntKind.i64.wrap ((p : Int) - 1) = ((p - 1 : Nat) : Int) := fun h => by rw [wrap64 (by omega)]; omega
    have hw' : n5 < p → (IntKind.i64.wrap ((p : Int) - 1)).toNat = p - 1 := fun h => by rw [hw h]; rfl
    have htm : n5 < p → tmAt es p = (nth (nth es (p - 1)).A 0).I := fun h => by
      have e : (((p : Nat) : Int) - 1).toNat = p - 1 := by omega
      rw [tmAt, if_neg (by omega), e]
    rw [← hnd]
    refine ⟨by decide +kernel, fun h => ⟨h, by rw [hw h]; omega⟩, fun h => ⟨h, by rw [hw' h]; omega⟩, fun _ => ⟨fun g3 g4 => ?_, fun g3 => ?_⟩⟩
    · rw [hw' g3, ← htm g3] at g4
      refine hW.loopS _ _ _ [.sl 4 .dp (.int .i64), .sl 3 .dp (.int .i64)] (fun ys => ∃ i : Nat, ys = [.int .i64 i, .int .i64 (cntG n0 p ms i)] ∧ i ≤ ms.length) (fun ys => ms.length - (nth ys 0).I.toNat) ?_ ?_
      · simp [-List.getD_eq_getElem?_getD, c_sAdvance, c_l01Bit, c_bit]
        exact ⟨0, ⟨rfl, rfl⟩, by omega⟩
      · rintro ys ⟨i, rfl, q1⟩
        refine hW.vc [(1, [], .take 0 <| .take 1 <| .take 2 <| .take 3 <| .take 4 <| .take 5 <| .take 6 <| .take 7 <| .take 8 <| .take 9 <| .take 10 <| .take 11 <| .take 12 <| .take 13 <| .take 14 <| .take 15 <| .take 16 <| .take 17 <| .take 18 <| .take 19 <| .take 20 <| .take 21 <| .take 22 <| .take 23 <| .take 24 <| .done)] _ _ ?_
        simp [-List.getD_eq_getElem?_getD, c_sAdvance, c_l01Bit, c_bit, c_bit, ndOf]
        have hb := cntG_le n0 p ms i
        have hb1 := cntG_le n0 p ms (i + 1)
        have hn' : cntG n0 p ms (i + 1) = cntG n0 p ms i + bitI (!decide ((i : Int) = n0) && decide ((p : Int) ≤ (nth ms i).I)) := by
          rw [cntG]
          by_cases h1 : (i : Int) = n0
          · simp [h1, bitI]
          · by_cases h2 : (p : Int) ≤ (nth ms i).I
            · simp [h1, h2, bitI]
            · simp [h1, h2, bitI]
        rw [← hnd, g2]
        refine ⟨fun q2 => ⟨fun a => ⟨a, by omega⟩, fun _ => ⟨⟨i + 1, ⟨wrap64 (by omega), by rw [← hn', wrap64 (by omega)]⟩, by omega⟩, by rw [wrap64 (by omega)]; omega⟩⟩, fun q2 => ?_⟩
        have : i = ms.length := by omega
        subst this
        rw [wrap64 (n := 2 * _) (by omega)]
        refine ⟨fun b => by rw [hu g3, if_pos ⟨g4, b⟩], fun b => ⟨⟨p - 1, hw g3, by omega, by rw [hu g3, if_neg (fun h => by omega)]⟩, by rw [hw' g3]; omega⟩⟩
    · rw [g2]
      by_cases h5 : n5 < p
      · have := g3 h5
        rw [hw' h5, ← htm h5] at this
        rw [advG_stop (by rw [ht, hl]; exact p5) (by rw [hc]; exact p1) (by rw [hl]; exact g1) (by rw [hl, ht]; exact this), hc]
      · rw [advG_low (by rw [hc]; omega) (by rw [hc]; exact p1), hc]

theorem rep_set {x : PV} {xs : List PV} {i : Nat} (h : i < xs.length) : List.replicate i x ++ (xs.drop i).set 0 x = List.replicate (i + 1) x ++ xs.drop (i + 1) := by
  rw [drop_nth h, List.set_cons_zero, List.replicate_succ', List.append_assoc]; rfl

def ND.rv (n : ND) (out : List PV) : PV := .agg [.int .i64 n.id, .int .i64 n.nodes, .int .i64 n.term, .int .i64 n.vote, .int .i64 n.role, .bool n.up, .list n.log, .int .i64 n.com, .int .i64 n.ela, .int .i64 n.wt, .list n.vs, .list n.nx, .list n.ms, .list out]
def sleadOk (n : ND) : Prop := leadOk n ∧ (n.nx.length : Int) = n.nodes ∧ (n.ms.length : Int) = n.nodes ∧ monoP n.term n.log
def c_sLead : FSpec := ⟨[(.bx, .box [.int .i64, .int .i64, .int .i64, .int .i64, .int .i64, .bool, .list (.agg [.int .i64, .str]), .int .i64, .int .i64, .int .i64, .list (.int .i64), .list (.int .i64), .list (.int .i64), .list (.agg [.int .i64, .int .i64, .int .i64, .int .i64, .int .i64, .int .i64, .int .i64, .bool, .list (.agg [.int .i64, .str])])])], [], true, fun ps => sleadOk (ndOf (nth ps 0).A) ∧ (nth (nth ps 0).A 13).L.length ≤ 990, fun _ => [],
  fun ps => [(leadA (ndOf (nth ps 0).A)).rv ((nth (nth ps 0).A 13).L ++ repAll (leadA (ndOf (nth ps 0).A)) (nth (nth ps 0).A 1).I.toNat)]⟩
theorem k_sLead : FnOk Try.prog 173 c_sLead := by
  refine fn_mk [0, 2] [] (env_cons (cs := []) k_all (env_cons (cs := []) k_sAdvance (env_nil (tyTab_ok [])))) mixed Try.func173 rfl (by decide) rfl (by decide) rfl ?_
  intro ps hT hpre W hW
  simp only [c_sLead, TyA, Ty, Tys] at hT hpre
  obtain ⟨_, _, rfl, ⟨_, rfl, _, _, rfl, ⟨n0, rfl, hn0⟩, _, _, rfl, ⟨n1, rfl, hn1⟩, _, _, rfl, ⟨n2, rfl, hn2⟩, _, _, rfl, ⟨n3, rfl, hn3⟩, _, _, rfl, ⟨n4, rfl, hn4⟩, _, _, rfl, ⟨u, rfl⟩, _, _, rfl, ⟨es, rfl, hes, tes⟩, _, _, rfl, ⟨n5, rfl, hn5⟩, _, _, rfl, ⟨n6, rfl, hn6⟩, _, _, rfl, ⟨n7, rfl, hn7⟩, _, _, rfl, ⟨vs, rfl, hvs, tvs⟩, _, _, rfl, ⟨xs, rfl, hxs, txs⟩, _, _, rfl, ⟨ms, rfl, hms, tms⟩, _, _, rfl, ⟨out, rfl, hout, tout⟩, rfl⟩, rfl⟩ := hT
  simp only [nth_zero, nth_succ, pv_I, pv_L, pv_A, pv_B, ndOf] at hpre
  refine hW.vc [(5, [14], .take 0 <| .take 1 <| .take 2 <| .take 3 <| .take 4 <| .take 5 <| .take 6 <| .take 7 <| .take 8 <| .take 9 <| .take 10 <| .take 11 <| .take 12 <| .take 13 <| .alt 14 (.done) .stop), (8, [13, 17], .take 0 <| .take 1 <| .take 2 <| .take 3 <| .take 4 <| .take 5 <| .take 6 <| .take 7 <| .take 8 <| .take 9 <| .take 10 <| .take 11 <| .alt 12 (.alt 13 (.take 14 <| .take 15 <| .take 16 <| .alt 17 (.done) .stop) .stop) .stop)] _ _ ?_
  simp [-List.getD_eq_getElem?_getD, c_sLead, c_sAdvance, c_all, ndOf, ND.rv]
  have hk := leadA_ok hpre.1.1
  obtain ⟨⟨⟨p1, p2, p3, p4⟩, p5, p6, p7⟩, p8⟩ := hpre
  simp only at p1 p2 p3 p4 p5 p6 p7
  have hA : es.length < 60 → leadA ⟨n0, n1, n2, n3, n4, u, es, n5, n6, n7, vs, xs, ms⟩ = ⟨n0, n1, n2, n3, 2, u, es ++ [.agg [.int .i64 n2, .str []]],
        advG ⟨n0, n1, n2, n3, 2, u, es ++ [.agg [.int .i64 n2, .str []]], n5, 0, n7, vs, List.replicate n1.toNat (.int .i64 (es.length + 1)), List.replicate n1.toNat (.int .i64 0)⟩ (es.length + 1), 0, n7, vs,
        List.replicate n1.toNat (.int .i64 (es.length + 1)), List.replicate n1.toNat (.int .i64 0)⟩ := fun h' => by
    simp only [leadA, leadN, leadL, if_pos h', List.length_append, List.length_singleton]
  have hA' : ¬ es.length < 60 → leadA ⟨n0, n1, n2, n3, n4, u, es, n5, n6, n7, vs, xs, ms⟩ = ⟨n0, n1, n2, n3, 2, u, es,
        advG ⟨n0, n1, n2, n3, 2, u, es, n5, 0, n7, vs, List.replicate n1.toNat (.int .i64 (es.length + 1)), List.replicate n1.toNat (.int .i64 0)⟩ es.length, 0, n7, vs,
        List.replicate n1.toNat (.int .i64 (es.length + 1)), List.replicate n1.toNat (.int .i64 0)⟩ := fun h' => by
    simp only [leadA, leadN, leadL, if_neg h']
  have hmo := mono_lead p7
  obtain ⟨LA, hLA⟩ : ∃ LA : ND, LA = leadA ⟨n0, n1, n2, n3, n4, u, es, n5, n6, n7, vs, xs, ms⟩ := ⟨_, rfl⟩
  rw [← hLA] at hA hA' hk
  refine hW.loopS _ _ _ [.bx 0 [.int .i64, .int .i64, .int .i64, .int .i64, .int .i64, .bool, .list (.agg [.int .i64, .str]), .int .i64, .int .i64, .int .i64, .list (.int .i64), .list (.int .i64), .list (.int .i64), .list (.agg [.int .i64, .int .i64, .int .i64, .int .i64, .int .i64, .int .i64, .int .i64, .bool, .list (.agg [.int .i64, .str])])], .sl 2 .dp (.int .i64)] (fun ys => ∃ i : Nat, ys = [.agg [.int .i64 n0, .int .i64 n1, .int .i64 n2, .int .i64 n3, .int .i64 2, .bool u, .list es, .int .i64 n5, .int .i64 0, .int .i64 n7, .list vs, .list (List.replicate i (.int .i64 (es.length + 1)) ++ xs.drop i), .list (List.replicate i (.int .i64 0) ++ ms.drop i), .list out], .int .i64 i] ∧ (i : Int) ≤ n1) (fun ys => n1.toNat - (nth ys 1).I.toNat) ?_ ?_
  · simp [-List.getD_eq_getElem?_getD, c_sLead, c_sAdvance, c_all]
    exact ⟨0, ⟨⟨by simp, by simp⟩, rfl⟩, by omega⟩
  · rintro ys ⟨i, rfl, g1⟩
    refine hW.vc [(5, [14], .take 0 <| .take 1 <| .take 2 <| .take 3 <| .take 4 <| .take 5 <| .take 6 <| .take 7 <| .take 8 <| .take 9 <| .take 10 <| .take 11 <| .take 12 <| .take 13 <| .alt 14 (.done) .stop), (8, [13, 17], .take 0 <| .take 1 <| .take 2 <| .take 3 <| .take 4 <| .take 5 <| .take 6 <| .take 7 <| .take 8 <| .take 9 <| .take 10 <| .take 11 <| .alt 12 (.alt 13 (.take 14 <| .take 15 <| .take 16 <| .alt 17 (.done) .stop) .stop) .stop)] _ _ ?_
    simp [-List.getD_eq_getElem?_getD, c_sLead, c_sAdvance, c_all, ndOf, ND.rv]
    rw [wrap64 (n := (es.length : Int) + 1) (by omega), wrap64 (n := (i : Int) + 1) (by omega)]
    refine ⟨fun g2 => ⟨by decide +kernel, fun _ => ⟨by omega, by omega, by omega, by omega, ⟨i + 1, ⟨⟨rep_set (by omega), rep_set (by omega)⟩, rfl⟩, by omega⟩, by omega⟩⟩, fun g2 _ => ?_⟩
    have hi : i = n1.toNat := by omega
    have d1 : xs.drop i = [] := List.drop_eq_nil_of_le (by omega)
    have d2 : ms.drop i = [] := List.drop_eq_nil_of_le (by omega)
    have d3 : (i : Int) + ((ms.length - i : Nat) : Int) = n1 := by omega
    rw [d1, d2, d3, List.append_nil, List.append_nil, ← hLA]
    clear d1 d2 d3
    subst hi
    refine ⟨fun h => ?_, fun h => ?_⟩
    · have h' : es.length < 60 := by omega
      rw [leadL, if_pos h'] at hmo
      rw [hA h'] at hk ⊢
      exact ⟨by decide +kernel, by omega, fun _ => ⟨⟨p3, rfl, p2, by omega, hmo⟩, ⟨p8, hk⟩, rfl, rfl, rfl, rfl, rfl, rfl, rfl, rfl, rfl, rfl, rfl, rfl, rfl, rfl⟩⟩
    · have h' : ¬ es.length < 60 := by omega
      rw [leadL, if_neg h'] at hmo
      rw [hA' h'] at hk ⊢
      exact ⟨⟨p3, rfl, p2, by omega, hmo⟩, ⟨p8, hk⟩, rfl, rfl, rfl, rfl, rfl, rfl, rfl, rfl, rfl, rfl, rfl, rfl, rfl, rfl⟩

theorem NdF.ela' {n : ND} (h : NdF n) : NdF (elaN n) := by
  have h0 := h.e0
  have h1 := h.e1
  have e : 0 ≤ (elaN n).ela ∧ (elaN n).ela ≤ 1000 := by simp only [elaN]; split <;> omega
  exact ⟨h.n1, h.n5, h.i0, h.i1, h.t0, h.t1, h.en, h.l6, h.r0, h.r2, h.ur, h.c0, h.c1, e.1, e.2, h.w5, h.w1, h.nx, h.ms, h.vo, h.nm, h.vt⟩

def c_stand : FSpec := ⟨[(.bx, .box [.int .i64, .int .i64, .int .i64, .int .i64, .int .i64, .bool, .list (.agg [.int .i64, .str]), .int .i64, .int .i64, .int .i64, .list (.int .i64), .list (.int .i64), .list (.int .i64), .list (.agg [.int .i64, .int .i64, .int .i64, .int .i64, .int .i64, .int .i64, .int .i64, .bool, .list (.agg [.int .i64, .str])])]), (.rd, .int .i64)], [], true, fun ps => NdF (ndOf (nth ps 0).A) ∧ (nth (nth ps 0).A 2).I ≤ 999 ∧ 0 ≤ (nth ps 1).I ∧ (nth ps 1).I ≤ 1000000 ∧ (nth (nth ps 0).A 13).L.length ≤ 900, fun _ => [],
  fun ps => [(standR (ndOf (nth ps 0).A) (nth ps 1).I).1.rv ((nth (nth ps 0).A 13).L ++ (standR (ndOf (nth ps 0).A) (nth ps 1).I).2)]⟩
theorem k_stand : FnOk Try.prog 149 c_stand := by
  refine fn_mk [0, 1, 4] [] (env_cons (cs := []) k_send (env_cons (cs := []) k_l08Term (env_cons (cs := []) k_sLead (env_nil (tyTab_ok []))))) mixed Try.func149 rfl (by decide) rfl (by decide) rfl ?_
  intro ps hT hpre W hW
  simp only [c_stand, TyA, Ty, Tys] at hT hpre
  obtain ⟨_, _, rfl, ⟨_, rfl, _, _, rfl, ⟨n0, rfl, hn0⟩, _, _, rfl, ⟨n1, rfl, hn1⟩, _, _, rfl, ⟨n2, rfl, hn2⟩, _, _, rfl, ⟨n3, rfl, hn3⟩, _, _, rfl, ⟨n4, rfl, hn4⟩, _, _, rfl, ⟨u, rfl⟩, _, _, rfl, ⟨es, rfl, hes, tes⟩, _, _, rfl, ⟨n5, rfl, hn5⟩, _, _, rfl, ⟨n6, rfl, hn6⟩, _, _, rfl, ⟨n7, rfl, hn7⟩, _, _, rfl, ⟨vs, rfl, hvs, tvs⟩, _, _, rfl, ⟨xs, rfl, hxs, txs⟩, _, _, rfl, ⟨ms, rfl, hms, tms⟩, _, _, rfl, ⟨out, rfl, hout, tout⟩, rfl⟩, _, _, rfl, ⟨d, rfl, hd⟩, rfl⟩ := hT
  simp only [nth_zero, nth_succ, pv_I, pv_L, pv_A, pv_B, ndOf] at hpre
  refine hW.vc [(12, [20], .take 0 <| .take 1 <| .take 2 <| .take 3 <| .take 4 <| .take 5 <| .take 6 <| .take 7 <| .take 8 <| .take 9 <| .take 10 <| .take 11 <| .take 12 <| .take 13 <| .take 14 <| .take 15 <| .take 16 <| .take 17 <| .alt 18 (.take 19 <| .alt 20 (.done) .stop) .stop)] _ _ ?_
  simp [-List.getD_eq_getElem?_getD, c_stand, c_sLead, c_l08Term, c_send, ndOf, ND.rv]
  obtain ⟨hF, q0, q1, q2, q3⟩ := hpre
  have f1 : 1 ≤ n1 ∧ n1 ≤ 5 ∧ 0 ≤ n0 ∧ n0 ≤ n1 - 1 ∧ 0 ≤ n2 ∧ n2 ≤ 1000 ∧ es.length ≤ 60 ∧ 0 ≤ n5 ∧ 0 ≤ n6 ∧ n6 ≤ 1000 := ⟨hF.n1, hF.n5, hF.i0, hF.i1, hF.t0, hF.t1, hF.l6, hF.c0, hF.e0, hF.e1⟩
  have ht : 0 ≤ d.tmod 8 ∧ d.tmod 8 < 8 := ⟨Int.tmod_nonneg _ q1, Int.tmod_lt_of_pos _ (by omega)⟩
  have e2 : IntKind.i64.wrap (n2 + 1) = n2 + 1 := wrap64 (by omega)
  have e3 : IntKind.i64.wrap (5 + d.tmod 8) = 5 + d.tmod 8 := wrap64 (by omega)
  obtain ⟨nd, hnd⟩ : ∃ nd : ND, nd = ⟨n0, n1, n2, n3, n4, u, es, n5, n6, n7, vs, xs, ms⟩ := ⟨_, rfl⟩
  rw [e2, e3, ← hnd]
  refine ⟨fun h => ?_, fun h => ?_⟩
  · have hR : standR nd d = (leadA (standN nd d), repAll (leadA (standN nd d)) nd.nodes.toNat) := by rw [standR, if_pos (by rw [hnd]; exact h)]
    rw [hR, hnd]
    exact ⟨⟨⟨⟨hF.n1, hF.n5, hF.c0, hF.l6⟩, hF.nx, hF.ms, mono_le (mono_of hF.en) (by show n2 ≤ n2 + 1; omega)⟩, by omega⟩, rfl, rfl, rfl, rfl, rfl, rfl, rfl, rfl, rfl, rfl, rfl, rfl, rfl, rfl⟩
  · have hR : standR nd d = (standN nd d, voteAll (standN nd d) nd.nodes.toNat) := by rw [standR, if_neg (by rw [hnd]; exact h)]
    have hS : standN nd d = ⟨n0, n1, n2 + 1, n0, 1, u, es, n5, 0, 5 + d.tmod 8, [.int .i64 n0], xs, ms⟩ := by rw [hnd]; rfl
    have hN : nd.nodes = n1 := by rw [hnd]
    obtain ⟨sd, hsd⟩ : ∃ sd : ND, sd = standN nd d := ⟨_, rfl⟩
    rw [← hsd] at hR hS
    refine hW.loopS _ _ _ [.bx 0 [.int .i64, .int .i64, .int .i64, .int .i64, .int .i64, .bool, .list (.agg [.int .i64, .str]), .int .i64, .int .i64, .int .i64, .list (.int .i64), .list (.int .i64), .list (.int .i64), .list (.agg [.int .i64, .int .i64, .int .i64, .int .i64, .int .i64, .int .i64, .int .i64, .bool, .list (.agg [.int .i64, .str])])], .sl 4 .dp (.int .i64)] (fun ys => ∃ i : Nat, ys = [.agg [.int .i64 n0, .int .i64 n1, .int .i64 (n2 + 1), .int .i64 n0, .int .i64 1, .bool u, .list es, .int .i64 n5, .int .i64 0, .int .i64 (5 + d.tmod 8), .list [.int .i64 n0], .list xs, .list ms, .list (out ++ voteAll sd i)], .int .i64 i] ∧ (i : Int) ≤ n1) (fun ys => n1.toNat - (nth ys 1).I.toNat) ?_ ?_
    · simp [-List.getD_eq_getElem?_getD, c_stand, c_sLead, c_l08Term, c_send]
      exact ⟨0, ⟨by simp [voteAll], rfl⟩, by omega⟩
    · rintro ys ⟨i, rfl, g1⟩
      refine hW.vc [(12, [20], .take 0 <| .take 1 <| .take 2 <| .take 3 <| .take 4 <| .take 5 <| .take 6 <| .take 7 <| .take 8 <| .take 9 <| .take 10 <| .take 11 <| .take 12 <| .take 13 <| .take 14 <| .take 15 <| .take 16 <| .take 17 <| .alt 18 (.take 19 <| .alt 20 (.done) .stop) .stop)] _ _ ?_
      simp [-List.getD_eq_getElem?_getD, c_stand, c_sLead, c_l08Term, c_send, ndOf, ND.rv]
      have hl := voteAll_len sd i
      rw [wrap64 (n := (i : Int) + 1) (by omega)]
      refine ⟨fun g2 => ⟨fun g3 => ⟨by decide +kernel, fun _ => ⟨by omega, ⟨i + 1, ⟨?_, rfl⟩, by omega⟩, by omega⟩⟩, fun g3 => ⟨⟨i + 1, ⟨?_, rfl⟩, by omega⟩, by omega⟩⟩, fun g2 => ?_⟩
      · rw [voteAll, if_neg (by rw [hS]; exact g3), hS]; rfl
      · rw [voteAll, if_pos (by rw [hS]; exact g3), List.append_nil]
      · have : i = n1.toNat := by omega
        rw [← hnd, hR, hN, this, hS]
        exact ⟨rfl, rfl, rfl, rfl, rfl, rfl, rfl, rfl, rfl, rfl, rfl, rfl, rfl, rfl⟩

def c_sTick : FSpec := ⟨[(.bx, .box [.int .i64, .int .i64, .int .i64, .int .i64, .int .i64, .bool, .list (.agg [.int .i64, .str]), .int .i64, .int .i64, .int .i64, .list (.int .i64), .list (.int .i64), .list (.int .i64), .list (.agg [.int .i64, .int .i64, .int .i64, .int .i64, .int .i64, .int .i64, .int .i64, .bool, .list (.agg [.int .i64, .str])])]), (.rd, .int .i64)], [], true, fun ps => NdF (ndOf (nth ps 0).A) ∧ 0 ≤ (nth ps 1).I ∧ (nth ps 1).I ≤ 1000000 ∧ (nth (nth ps 0).A 13).L.length ≤ 900, fun _ => [],
  fun ps => [(tickN (ndOf (nth ps 0).A) (nth ps 1).I).1.rv ((nth (nth ps 0).A 13).L ++ (tickN (ndOf (nth ps 0).A) (nth ps 1).I).2)]⟩
theorem k_sTick : FnOk Try.prog 102 c_sTick := by
  refine fn_mk [0, 1] [] (env_cons (cs := []) k_stand (env_cons (cs := []) k_all (env_nil (tyTab_ok [])))) mixed Try.func102 rfl (by decide) rfl (by decide) rfl ?_
  intro ps hT hpre W hW
  simp only [c_sTick, TyA, Ty, Tys] at hT hpre
  obtain ⟨_, _, rfl, ⟨_, rfl, _, _, rfl, ⟨n0, rfl, hn0⟩, _, _, rfl, ⟨n1, rfl, hn1⟩, _, _, rfl, ⟨n2, rfl, hn2⟩, _, _, rfl, ⟨n3, rfl, hn3⟩, _, _, rfl, ⟨n4, rfl, hn4⟩, _, _, rfl, ⟨u, rfl⟩, _, _, rfl, ⟨es, rfl, hes, tes⟩, _, _, rfl, ⟨n5, rfl, hn5⟩, _, _, rfl, ⟨n6, rfl, hn6⟩, _, _, rfl, ⟨n7, rfl, hn7⟩, _, _, rfl, ⟨vs, rfl, hvs, tvs⟩, _, _, rfl, ⟨xs, rfl, hxs, txs⟩, _, _, rfl, ⟨ms, rfl, hms, tms⟩, _, _, rfl, ⟨out, rfl, hout, tout⟩, rfl⟩, _, _, rfl, ⟨d, rfl, hd⟩, rfl⟩ := hT
  simp only [nth_zero, nth_succ, pv_I, pv_L, pv_A, pv_B, ndOf] at hpre
  refine hW.vc [(5, [], .take 0 <| .take 1 <| .take 2 <| .take 3 <| .take 4 <| .take 5 <| .take 6 <| .take 7 <| .take 8 <| .take 9 <| .take 10 <| .take 11 <| .take 12 <| .take 13 <| .take 14 <| .take 15 <| .take 16 <| .take 17 <| .take 18 <| .done)] _ _ ?_
  simp [-List.getD_eq_getElem?_getD, c_sTick, c_all, c_stand, ndOf, ND.rv]
  obtain ⟨hF, q1, q2, q3⟩ := hpre
  have f1 : 1 ≤ n1 ∧ n1 ≤ 5 ∧ 0 ≤ n0 ∧ n0 ≤ n1 - 1 ∧ 0 ≤ n2 ∧ n2 ≤ 1000 ∧ es.length ≤ 60 ∧ 0 ≤ n5 ∧ 0 ≤ n6 ∧ n6 ≤ 1000 := ⟨hF.n1, hF.n5, hF.i0, hF.i1, hF.t0, hF.t1, hF.l6, hF.c0, hF.e0, hF.e1⟩
  have e1 : IntKind.i64.wrap (n6 + 1) = n6 + 1 := wrap64 (by omega)
  obtain ⟨nd, hnd⟩ : ∃ nd : ND, nd = ⟨n0, n1, n2, n3, n4, u, es, n5, n6, n7, vs, xs, ms⟩ := ⟨_, rfl⟩
  have hF2 : NdF (elaN nd) := by rw [hnd]; exact hF.ela'
  have hr : repsOk { nd with ela := 0 } := by rw [hnd]; exact hF.reps
  have q5 : (elaN nd).ela = (if n6 + 1 < 1000 then n6 + 1 else 1000) := by
    rw [hnd]
    show (if 1000 < n6 + 1 then 1000 else n6 + 1) = _
    split <;> split <;> omega
  have hq : nd.role = n4 ∧ nd.wt = n7 ∧ nd.term = n2 ∧ nd.nodes = n1 := by rw [hnd]; exact ⟨rfl, rfl, rfl, rfl⟩
  obtain ⟨q6, q7, q8, q9⟩ := hq
  rw [e1, ← q5, ← hnd]
  obtain ⟨E, hE⟩ : ∃ E, E = elaN nd := ⟨_, rfl⟩
  have hEl : E = ⟨n0, n1, n2, n3, n4, u, es, n5, E.ela, n7, vs, xs, ms⟩ := by rw [hE, hnd]; rfl
  rw [← hE] at hF2 ⊢
  refine ⟨fun h1 => ⟨fun h2 => ?_, fun h2 => ?_⟩, fun h1 => ⟨by decide +kernel, fun h2 h3 => ?_, fun h2 => ?_⟩⟩
  · rw [tick_b (by rw [q6]; exact h1) (by rw [← hE]; omega)]
    refine ⟨⟨by omega, ?_⟩, ?_⟩
    · rw [hnd] at hr; exact hr
    · rw [hnd]; exact ⟨rfl, rfl, rfl, rfl, rfl, rfl, rfl, rfl, rfl, rfl, rfl, rfl, rfl, rfl⟩
  · rw [tick_a (by rw [q6]; exact h1) (by rw [← hE]; exact h2), ← hE, hEl]
    exact ⟨rfl, rfl, rfl, rfl, rfl, rfl, rfl, rfl, rfl, rfl, rfl, rfl, rfl, rfl⟩
  · have hT : tickN nd d = standR nd d := by rw [tickN, if_neg (by rw [q6]; exact h1), if_neg (by rw [← hE, q7, q8]; omega)]
    have hSR : standR E d = standR nd d := by rw [hE]; rfl
    rw [hT, ← hEl, ← hSR]
    exact ⟨⟨hF2, by omega, q1, q2, q3⟩, rfl, rfl, rfl, rfl, rfl, rfl, rfl, rfl, rfl, rfl, rfl, rfl, rfl, rfl⟩
  · rw [tick_c (by rw [q6]; exact h1) (by rw [← hE, q7, q8]; omega), ← hE, hEl]
    exact ⟨rfl, rfl, rfl, rfl, rfl, rfl, rfl, rfl, rfl, rfl, rfl, rfl, rfl, rfl⟩

def c_l08Tick : FSpec := ⟨[(.rd, .agg [.int .i64, .int .i64, .int .i64, .int .i64, .int .i64, .bool, .list (.agg [.int .i64, .str]), .int .i64, .int .i64, .int .i64, .list (.int .i64), .list (.int .i64), .list (.int .i64)]), (.rd, .int .i64)], [.agg [.int .i64, .int .i64, .int .i64, .int .i64, .int .i64, .bool, .list (.agg [.int .i64, .str]), .int .i64, .int .i64, .int .i64, .list (.int .i64), .list (.int .i64), .list (.int .i64)], .list (.agg [.int .i64, .int .i64, .int .i64, .int .i64, .int .i64, .int .i64, .int .i64, .bool, .list (.agg [.int .i64, .str])])], true, fun ps => NdF (ndOf (nth ps 0).A) ∧ 0 ≤ (nth ps 1).I ∧ (nth ps 1).I ≤ 1000000 ∧ (nth (nth ps 0).A 10).L.length ≤ 1048576,
  fun ps => [(tickN (ndOf (nth ps 0).A) (nth ps 1).I).1.pv, .list (tickN (ndOf (nth ps 0).A) (nth ps 1).I).2], fun _ => []⟩
theorem k_l08Tick : FnOk Try.prog 58 c_l08Tick := by
  refine fn_mk [0, 1, 2, 4, 5, 6] [.cell 4 41, .tmp 5] (env_cons (cs := []) k_sTick (env_cons (cs := []) k_l08Own (env_nil (tyTab_ok [])))) mixed Try.func58 rfl (by decide) rfl (by decide) rfl ?_
  intro ps hT hpre W hW
  simp only [c_l08Tick, TyA, Ty, Tys] at hT hpre
  obtain ⟨_, _, rfl, ⟨_, rfl, _, _, rfl, ⟨n0, rfl, hn0⟩, _, _, rfl, ⟨n1, rfl, hn1⟩, _, _, rfl, ⟨n2, rfl, hn2⟩, _, _, rfl, ⟨n3, rfl, hn3⟩, _, _, rfl, ⟨n4, rfl, hn4⟩, _, _, rfl, ⟨u, rfl⟩, _, _, rfl, ⟨es, rfl, hes, tes⟩, _, _, rfl, ⟨n5, rfl, hn5⟩, _, _, rfl, ⟨n6, rfl, hn6⟩, _, _, rfl, ⟨n7, rfl, hn7⟩, _, _, rfl, ⟨vs, rfl, hvs, tvs⟩, _, _, rfl, ⟨xs, rfl, hxs, txs⟩, _, _, rfl, ⟨ms, rfl, hms, tms⟩, rfl⟩, _, _, rfl, ⟨d, rfl, hd⟩, rfl⟩ := hT
  simp only [nth_zero, nth_succ, pv_I, pv_L, pv_A, pv_B, ndOf] at hpre
  refine hW.vc [(3, [8], .take 0 <| .take 1 <| .take 2 <| .take 3 <| .take 4 <| .take 5 <| .take 6 <| .alt 7 (.alt 8 (.alt 9 (.done) .stop) .stop) (.alt 8 (.take 7 <| .alt 9 (.done) .stop) .stop))] _ _ ?_
  simp [-List.getD_eq_getElem?_getD, c_l08Tick, c_l08Own, c_sTick, c_toNode, c_toNode, ndOf, ND.rv, ND.pv]
  obtain ⟨hF, q1, q2, q3⟩ := hpre
  have a1 : es.length ≤ 60 := hF.l6
  have a2 : (xs.length : Int) = n1 := hF.nx
  have a3 : (ms.length : Int) = n1 := hF.ms
  have a4 : n1 ≤ 5 := hF.n5
  exact ⟨⟨by omega, q3, by omega, by omega⟩, ⟨hF, q1, q2⟩, by decide +kernel⟩

def c_sNodeTick : FSpec := c_iNodeTick
theorem k_sNodeTick : FnOk Try.prog 17 c_sNodeTick := by
  refine fn_mk [0, 1, 2, 4, 5, 6, 7, 8] [.cell 4 41, .tmp 5, .tmp 6] (env_cons (cs := []) k_l08Tick (env_cons (cs := []) k_l08Own (env_cons (cs := []) k_l01In (env_cons (cs := []) k_sNodeOK (env_nil (tyTab_ok [])))))) mixed Try.func17 rfl (by decide) rfl (by decide) rfl ?_
  intro ps hT hpre W hW
  simp only [c_sNodeTick, TyA, Ty, Tys] at hT hpre
  simp only [c_iNodeTick, TyA, Ty, Tys] at hT hpre
  obtain ⟨_, _, rfl, ⟨_, rfl, _, _, rfl, ⟨n0, rfl, hn0⟩, _, _, rfl, ⟨n1, rfl, hn1⟩, _, _, rfl, ⟨n2, rfl, hn2⟩, _, _, rfl, ⟨n3, rfl, hn3⟩, _, _, rfl, ⟨n4, rfl, hn4⟩, _, _, rfl, ⟨u, rfl⟩, _, _, rfl, ⟨es, rfl, hes, tes⟩, _, _, rfl, ⟨n5, rfl, hn5⟩, _, _, rfl, ⟨n6, rfl, hn6⟩, _, _, rfl, ⟨n7, rfl, hn7⟩, _, _, rfl, ⟨vs, rfl, hvs, tvs⟩, _, _, rfl, ⟨xs, rfl, hxs, txs⟩, _, _, rfl, ⟨ms, rfl, hms, tms⟩, rfl⟩, _, _, rfl, ⟨d, rfl, hd⟩, rfl⟩ := hT
  simp only [nth_zero, nth_succ, pv_I, pv_L, pv_A] at hpre
  refine hW.vc [] _ _ ?_
  simp [-List.getD_eq_getElem?_getD, c_sNodeTick, c_sNodeOK, c_l01In, c_l08Own, c_l08Tick, c_iNodeTick, c_isNode, c_within, c_toNode, c_isNode, c_within, c_toNode, c_iNodeTick, ndOf, ND.pv]
  obtain ⟨nd, hnd⟩ : ∃ nd : ND, nd = ⟨n0, n1, n2, n3, n4, u, es, n5, n6, n7, vs, xs, ms⟩ := ⟨_, rfl⟩
  rw [← hnd]
  refine ⟨fun h1 => ?_, fun h1 => ⟨fun h2 => ?_, fun h2 => ?_⟩⟩
  · have e : ntOf nd d = (ND.no, [], 1) := by rw [ntOf, h1]; rfl
    rw [e]
    simp [ND.no]
  · have e : ntOf nd d = (ND.no, [], 4) := by rw [ntOf, h1, h2]; rfl
    rw [e]
    simp [ND.no]
  · have hF := nodeB_F h1
    have f1 : es.length ≤ 60 ∧ (xs.length : Int) ≤ 5 ∧ (ms.length : Int) ≤ 5 := by
      have a1 := hF.l6; have a2 := hF.nx; have a3 := hF.ms; have a4 := hF.n5
      rw [hnd] at a1 a2 a3 a4
      simp only at a1 a2 a3 a4
      exact ⟨a1, by omega, by omega⟩
    refine ⟨fun hu => ⟨⟨by omega, hpre, by omega, by omega⟩, ?_⟩, fun hu => ⟨⟨hF, ?_⟩, ?_⟩⟩
    · have e : ntOf nd d = (nd, [], 13) := by rw [ntOf, h1, h2, show nd.up = false by rw [hnd]; exact hu]; rfl
      rw [e, hnd]; exact ⟨⟨rfl, rfl, rfl, rfl, rfl, rfl, rfl, rfl, rfl, rfl, rfl, rfl, rfl⟩, rfl, rfl⟩
    · simp [inB] at h2; exact ⟨by omega, by omega, hpre⟩
    · have e : ntOf nd d = ((tickN nd d).1, (tickN nd d).2, 0) := by rw [ntOf, h1, h2, show nd.up = true by rw [hnd]; exact hu]; rfl
      rw [e]; exact ⟨⟨rfl, rfl, rfl, rfl, rfl, rfl, rfl, rfl, rfl, rfl, rfl, rfl, rfl⟩, rfl, rfl⟩

end Go.Proofs.Ytmjjdfhpnckacab
end

section
namespace Go.Proofs.Ytmjjdfhpnckacab
set_option maxRecDepth 100000
set_option linter.unusedSimpArgs false

def c_sFollow : FSpec := ⟨[(.bx, .box [.int .i64, .int .i64, .int .i64, .int .i64, .int .i64, .bool, .list (.agg [.int .i64, .str]), .int .i64, .int .i64, .int .i64, .list (.int .i64), .list (.int .i64), .list (.int .i64), .list (.agg [.int .i64, .int .i64, .int .i64, .int .i64, .int .i64, .int .i64, .int .i64, .bool, .list (.agg [.int .i64, .str])])])], [], true, fun ps => ((nth (nth ps 0).A 11).L.length : Int) = (nth (nth ps 0).A 1).I ∧ ((nth (nth ps 0).A 12).L.length : Int) = (nth (nth ps 0).A 1).I ∧ 1 ≤ (nth (nth ps 0).A 1).I ∧ (nth (nth ps 0).A 1).I ≤ 5, fun _ => [],
  fun ps => [(followN (ndOf (nth ps 0).A)).rv (nth (nth ps 0).A 13).L]⟩
theorem k_sFollow : FnOk Try.prog 158 c_sFollow := by
  refine fn_mk [0, 2] [] (env_nil (tyTab_ok [])) mixed Try.func158 rfl (by decide) rfl (by decide) rfl ?_
  intro ps hT hpre W hW
  simp only [c_sFollow, TyA, Ty, Tys] at hT hpre
  obtain ⟨_, _, rfl, ⟨_, rfl, _, _, rfl, ⟨n0, rfl, hn0⟩, _, _, rfl, ⟨n1, rfl, hn1⟩, _, _, rfl, ⟨n2, rfl, hn2⟩, _, _, rfl, ⟨n3, rfl, hn3⟩, _, _, rfl, ⟨n4, rfl, hn4⟩, _, _, rfl, ⟨u, rfl⟩, _, _, rfl, ⟨es, rfl, hes, tes⟩, _, _, rfl, ⟨n5, rfl, hn5⟩, _, _, rfl, ⟨n6, rfl, hn6⟩, _, _, rfl, ⟨n7, rfl, hn7⟩, _, _, rfl, ⟨vs, rfl, hvs, tvs⟩, _, _, rfl, ⟨xs, rfl, hxs, txs⟩, _, _, rfl, ⟨ms, rfl, hms, tms⟩, _, _, rfl, ⟨out, rfl, hout, tout⟩, rfl⟩, rfl⟩ := hT
  simp only [nth_zero, nth_succ, pv_I, pv_L, pv_A] at hpre
  obtain ⟨p1, p2, p3, p4⟩ := hpre
  refine hW.vc [] _ _ ?_
  simp [-List.getD_eq_getElem?_getD, c_sFollow, ndOf, ND.rv, followN]
  refine hW.loopS _ _ _ [.bx 0 [.int .i64, .int .i64, .int .i64, .int .i64, .int .i64, .bool, .list (.agg [.int .i64, .str]), .int .i64, .int .i64, .int .i64, .list (.int .i64), .list (.int .i64), .list (.int .i64), .list (.agg [.int .i64, .int .i64, .int .i64, .int .i64, .int .i64, .int .i64, .int .i64, .bool, .list (.agg [.int .i64, .str])])], .sl 2 .dp (.int .i64)] (fun ys => ∃ i : Nat, ys = [.agg [.int .i64 n0, .int .i64 n1, .int .i64 n2, .int .i64 n3, .int .i64 0, .bool u, .list es, .int .i64 n5, .int .i64 n6, .int .i64 n7, .list [], .list (List.replicate i (.int .i64 1) ++ xs.drop i), .list (List.replicate i (.int .i64 0) ++ ms.drop i), .list out], .int .i64 i] ∧ (i : Int) ≤ n1) (fun ys => n1.toNat - (nth ys 1).I.toNat) ?_ ?_
  · simp [-List.getD_eq_getElem?_getD, c_sFollow]
    exact ⟨0, ⟨⟨by simp, by simp⟩, rfl⟩, by omega⟩
  · rintro ys ⟨i, rfl, g1⟩
    refine hW.vc [] _ _ ?_
    simp [-List.getD_eq_getElem?_getD, c_sFollow, ndOf, ND.rv, followN]
    rw [wrap64 (n := (i : Int) + 1) (by omega)]
    refine ⟨fun g2 => ⟨by omega, by omega, by omega, by omega, ⟨i + 1, ⟨⟨rep_set (by omega), rep_set (by omega)⟩, rfl⟩, by omega⟩, by omega⟩, fun g2 => ?_⟩
    have hi : i = n1.toNat := by omega
    have d1 : xs.drop i = [] := List.drop_eq_nil_of_le (by omega)
    have d2 : ms.drop i = [] := List.drop_eq_nil_of_le (by omega)
    rw [d1, d2, List.append_nil, List.append_nil, hi]
    exact ⟨rfl, rfl⟩

def c_sUpToDate : FSpec := ⟨[(.rd, .agg [.int .i64, .int .i64, .int .i64, .int .i64, .int .i64, .bool, .list (.agg [.int .i64, .str]), .int .i64, .int .i64, .int .i64, .list (.int .i64), .list (.int .i64), .list (.int .i64)]), (.rd, .int .i64), (.rd, .int .i64)], [.bool], true, fun ps => (nth (nth ps 0).A 6).L.length ≤ 1048576, fun ps => [.bool (upB1 (nth (nth ps 0).A 6).L (nth ps 1).I (nth ps 2).I)], fun _ => []⟩
theorem k_sUpToDate : FnOk Try.prog 178 c_sUpToDate := by
  refine fn_mk [0, 1, 2, 3, 6, 7] [.tmp 6] (env_cons (cs := []) k_l08Term (env_nil (tyTab_ok []))) mixed Try.func178 rfl (by decide) rfl (by decide) rfl ?_
  intro ps hT hpre W hW
  simp only [c_sUpToDate, TyA, Ty, Tys] at hT hpre
  obtain ⟨_, _, rfl, ⟨_, rfl, _, _, rfl, ⟨n0, rfl, hn0⟩, _, _, rfl, ⟨n1, rfl, hn1⟩, _, _, rfl, ⟨n2, rfl, hn2⟩, _, _, rfl, ⟨n3, rfl, hn3⟩, _, _, rfl, ⟨n4, rfl, hn4⟩, _, _, rfl, ⟨u, rfl⟩, _, _, rfl, ⟨es, rfl, hes, tes⟩, _, _, rfl, ⟨n5, rfl, hn5⟩, _, _, rfl, ⟨n6, rfl, hn6⟩, _, _, rfl, ⟨n7, rfl, hn7⟩, _, _, rfl, ⟨vs, rfl, hvs, tvs⟩, _, _, rfl, ⟨xs, rfl, hxs, txs⟩, _, _, rfl, ⟨ms, rfl, hms, tms⟩, rfl⟩, _, _, rfl, ⟨x, rfl, hx⟩, _, _, rfl, ⟨t, rfl, ht⟩, rfl⟩ := hT
  simp only [nth_zero, nth_succ, pv_I, pv_L, pv_A] at hpre
  refine hW.vc [] _ _ ?_
  simp [-List.getD_eq_getElem?_getD, c_sUpToDate, c_l08Term]
  exact fun _ _ => ⟨fun a => ⟨a, fun b => ⟨a, b⟩⟩, rfl⟩

def c_vote : FSpec := ⟨[(.bx, .box [.int .i64, .int .i64, .int .i64, .int .i64, .int .i64, .bool, .list (.agg [.int .i64, .str]), .int .i64, .int .i64, .int .i64, .list (.int .i64), .list (.int .i64), .list (.int .i64), .list (.agg [.int .i64, .int .i64, .int .i64, .int .i64, .int .i64, .int .i64, .int .i64, .bool, .list (.agg [.int .i64, .str])])]), (.rd, .agg [.int .i64, .int .i64, .int .i64, .int .i64, .int .i64, .int .i64, .int .i64, .bool, .list (.agg [.int .i64, .str])])], [], true, fun ps => (nth (nth ps 0).A 13).L.length ≤ 900 ∧ (nth (nth ps 0).A 6).L.length ≤ 1024, fun _ => [],
  fun ps => [(votN (ndOf (nth ps 0).A) (mgOf (nth ps 1).A)).rv ((nth (nth ps 0).A 13).L ++ [votM (ndOf (nth ps 0).A) (mgOf (nth ps 1).A)])]⟩
theorem k_vote : FnOk Try.prog 159 c_vote := by
  refine fn_mk [0, 1, 3, 4] [] (env_cons (cs := []) k_send (env_cons (cs := []) k_sUpToDate (env_nil (tyTab_ok [])))) mixed Try.func159 rfl (by decide) rfl (by decide) rfl ?_
  intro ps hT hpre W hW
  simp only [c_vote, TyA, Ty, Tys] at hT hpre
  obtain ⟨_, _, rfl, ⟨_, rfl, _, _, rfl, ⟨n0, rfl, hn0⟩, _, _, rfl, ⟨n1, rfl, hn1⟩, _, _, rfl, ⟨n2, rfl, hn2⟩, _, _, rfl, ⟨n3, rfl, hn3⟩, _, _, rfl, ⟨n4, rfl, hn4⟩, _, _, rfl, ⟨u, rfl⟩, _, _, rfl, ⟨es, rfl, hes, tes⟩, _, _, rfl, ⟨n5, rfl, hn5⟩, _, _, rfl, ⟨n6, rfl, hn6⟩, _, _, rfl, ⟨n7, rfl, hn7⟩, _, _, rfl, ⟨vs, rfl, hvs, tvs⟩, _, _, rfl, ⟨xs, rfl, hxs, txs⟩, _, _, rfl, ⟨ms, rfl, hms, tms⟩, _, _, rfl, ⟨out, rfl, hout, tout⟩, rfl⟩, _, _, rfl, ⟨_, rfl, _, _, rfl, ⟨m0, rfl, hm0⟩, _, _, rfl, ⟨m1, rfl, hm1⟩, _, _, rfl, ⟨m2, rfl, hm2⟩, _, _, rfl, ⟨m3, rfl, hm3⟩, _, _, rfl, ⟨m4, rfl, hm4⟩, _, _, rfl, ⟨m5, rfl, hm5⟩, _, _, rfl, ⟨m6, rfl, hm6⟩, _, _, rfl, ⟨m7, rfl⟩, _, _, rfl, ⟨m8, rfl, hm8, tm8⟩, rfl⟩, rfl⟩ := hT
  simp only [nth_zero, nth_succ, pv_I, pv_L, pv_A] at hpre
  refine hW.vc [(1, [], .take 0 <| .take 1 <| .take 2 <| .take 3 <| .take 4 <| .take 5 <| .take 6 <| .take 7 <| .take 8 <| .take 9 <| .take 10 <| .take 11 <| .take 12 <| .take 13 <| .take 14 <| .take 15 <| .take 16 <| .take 17 <| .take 18 <| .take 19 <| .take 20 <| .take 21 <| .take 22 <| .take 23 <| .take 24 <| .take 25 <| .take 26 <| .take 27 <| .take 28 <| .take 29 <| .take 30 <| .take 31 <| .take 32 <| .take 33 <| .take 34 <| .alt 35 (.take 36 <| .alt 37 (.done) .stop) .stop)] _ _ ?_
  simp [-List.getD_eq_getElem?_getD, c_vote, c_sUpToDate, c_send, ndOf, mgOf, ND.rv]
  obtain ⟨p1, p2⟩ := hpre
  obtain ⟨nd, hnd⟩ : ∃ nd : ND, nd = ⟨n0, n1, n2, n3, n4, u, es, n5, n6, n7, vs, xs, ms⟩ := ⟨_, rfl⟩
  obtain ⟨mg, hmg⟩ : ∃ mg : MG, mg = ⟨m0, m1, m2, m3, m4, m5, m6, m7, m8⟩ := ⟨_, rfl⟩
  rw [← hnd, ← hmg]
  have hvB : votB nd mg = (decide (m3 = n2) && (decide (n3 = -1) || decide (n3 = m1)) && upB1 es m4 m5) := by rw [hmg, hnd]; rfl
  refine ⟨by decide +kernel, fun a => ⟨a, fun b => ⟨a, b⟩⟩, fun _ _ => by omega, fun a b c => ⟨by omega, ?_⟩, fun a => ⟨by omega, ?_⟩⟩
  · have hv : votB nd mg = true := by rw [hvB]; simp [a, b, c]
    rw [votN, if_pos hv, votM, hvB, hmg, hnd]
    and_intros <;> rfl
  · have hv : ¬ votB nd mg = true := by
      rw [hvB]
      simp only [Bool.and_eq_true, Bool.or_eq_true, decide_eq_true_eq]
      intro h
      have := a h.1.1 h.1.2
      rw [this] at h
      exact absurd h.2 (by simp)
    rw [votN, if_neg hv, votM, hvB, hmg, hnd]
    and_intros <;> rfl

end Go.Proofs.Ytmjjdfhpnckacab
end

section
namespace Go.Proofs.Ytmjjdfhpnckacab
set_option maxRecDepth 100000
set_option linter.unusedSimpArgs false

def c_voted : FSpec := ⟨[(.bx, .box [.int .i64, .int .i64, .int .i64, .int .i64, .int .i64, .bool, .list (.agg [.int .i64, .str]), .int .i64, .int .i64, .int .i64, .list (.int .i64), .list (.int .i64), .list (.int .i64), .list (.agg [.int .i64, .int .i64, .int .i64, .int .i64, .int .i64, .int .i64, .int .i64, .bool, .list (.agg [.int .i64, .str])])]), (.rd, .agg [.int .i64, .int .i64, .int .i64, .int .i64, .int .i64, .int .i64, .int .i64, .bool, .list (.agg [.int .i64, .str])])], [], true, fun ps => NdF (ndOf (nth ps 0).A) ∧ (nth (nth ps 0).A 13).L.length ≤ 900 ∧ 0 ≤ (nth (nth ps 1).A 1).I ∧ (nth (nth ps 1).A 1).I < 5, fun _ => [],
  fun ps => [(elecR (ndOf (nth ps 0).A) (mgOf (nth ps 1).A)).1.rv ((nth (nth ps 0).A 13).L ++ (elecR (ndOf (nth ps 0).A) (mgOf (nth ps 1).A)).2)]⟩
set_option maxHeartbeats 4000000 in
theorem k_voted : FnOk Try.prog 160 c_voted := by
  refine fn_mk [0, 1, 3, 4] [] (env_cons (cs := []) k_sLead (env_nil (tyTab_ok []))) mixed Try.func160 rfl (by decide) rfl (by decide) rfl ?_
  intro ps hT hpre W hW
  simp only [c_voted, TyA, Ty, Tys] at hT hpre
  obtain ⟨_, _, rfl, ⟨_, rfl, _, _, rfl, ⟨n0, rfl, hn0⟩, _, _, rfl, ⟨n1, rfl, hn1⟩, _, _, rfl, ⟨n2, rfl, hn2⟩, _, _, rfl, ⟨n3, rfl, hn3⟩, _, _, rfl, ⟨n4, rfl, hn4⟩, _, _, rfl, ⟨u, rfl⟩, _, _, rfl, ⟨es, rfl, hes, tes⟩, _, _, rfl, ⟨n5, rfl, hn5⟩, _, _, rfl, ⟨n6, rfl, hn6⟩, _, _, rfl, ⟨n7, rfl, hn7⟩, _, _, rfl, ⟨vs, rfl, hvs, tvs⟩, _, _, rfl, ⟨xs, rfl, hxs, txs⟩, _, _, rfl, ⟨ms, rfl, hms, tms⟩, _, _, rfl, ⟨out, rfl, hout, tout⟩, rfl⟩, _, _, rfl, ⟨_, rfl, _, _, rfl, ⟨m0, rfl, hm0⟩, _, _, rfl, ⟨m1, rfl, hm1⟩, _, _, rfl, ⟨m2, rfl, hm2⟩, _, _, rfl, ⟨m3, rfl, hm3⟩, _, _, rfl, ⟨m4, rfl, hm4⟩, _, _, rfl, ⟨m5, rfl, hm5⟩, _, _, rfl, ⟨m6, rfl, hm6⟩, _, _, rfl, ⟨m7, rfl⟩, _, _, rfl, ⟨m8, rfl, hm8, tm8⟩, rfl⟩, rfl⟩ := hT
  simp only [nth_zero, nth_succ, pv_I, pv_L, pv_A] at hpre
  refine hW.vc [(1, [], .take 0 <| .take 1 <| .take 2 <| .take 3 <| .take 4 <| .take 5 <| .take 6 <| .take 7 <| .take 8 <| .take 9 <| .take 10 <| .take 11 <| .take 12 <| .take 13 <| .take 14 <| .take 15 <| .take 16 <| .take 17 <| .take 18 <| .take 19 <| .take 20 <| .done), (3, [], .take 0 <| .take 1 <| .take 2 <| .take 3 <| .take 4 <| .take 5 <| .take 6 <| .take 7 <| .take 8 <| .take 9 <| .take 10 <| .take 11 <| .take 12 <| .take 13 <| .take 14 <| .take 15 <| .take 16 <| .take 17 <| .take 18 <| .take 19 <| .take 20 <| .done), (5, [], .take 0 <| .take 1 <| .take 2 <| .take 3 <| .take 4 <| .take 5 <| .take 6 <| .take 7 <| .take 8 <| .take 9 <| .take 10 <| .take 11 <| .take 12 <| .take 13 <| .take 14 <| .take 15 <| .take 16 <| .take 17 <| .take 18 <| .take 19 <| .take 20 <| .done), (6, [9, 13, 21, 25], .take 0 <| .take 2 <| .take 3 <| .take 4 <| .take 5 <| .take 6 <| .take 7 <| .take 8 <| .take 10 <| .take 14 <| .take 15 <| .take 16 <| .take 17 <| .take 19 <| .alt 1 (.alt 9 (.take 11 <| .alt 12 (.alt 13 (.take 18 <| .take 20 <| .alt 21 (.take 22 <| .take 23 <| .take 24 <| .alt 25 (.done) .stop) .stop) (.alt 18 (.take 20 <| .alt 13 (.alt 21 (.take 22 <| .take 23 <| .take 24 <| .alt 25 (.done) .stop) .stop) .stop) .stop)) (.alt 18 (.take 20 <| .alt 12 (.alt 13 (.alt 21 (.take 22 <| .take 23 <| .take 24 <| .alt 25 (.done) .stop) .stop) .stop) .stop) .stop)) (.alt 11 (.alt 9 (.alt 12 (.alt 13 (.take 18 <| .take 20 <| .alt 21 (.take 22 <| .take 23 <| .take 24 <| .alt 25 (.done) .stop) .stop) (.alt 18 (.take 20 <| .alt 13 (.alt 21 (.take 22 <| .take 23 <| .take 24 <| .alt 25 (.done) .stop) .stop) .stop) .stop)) (.alt 18 (.take 20 <| .alt 12 (.alt 13 (.alt 21 (.take 22 <| .take 23 <| .take 24 <| .alt 25 (.done) .stop) .stop) .stop) .stop) .stop)) (.alt 12 (.alt 9 (.alt 13 (.take 18 <| .take 20 <| .alt 21 (.take 22 <| .take 23 <| .take 24 <| .alt 25 (.done) .stop) .stop) (.alt 18 (.take 20 <| .alt 13 (.alt 21 (.take 22 <| .take 23 <| .take 24 <| .alt 25 (.done) .stop) .stop) .stop) .stop)) (.alt 18 (.take 20 <| .alt 9 (.alt 13 (.alt 21 (.take 22 <| .take 23 <| .take 24 <| .alt 25 (.done) .stop) .stop) .stop) .stop) .stop)) (.alt 18 (.take 20 <| .alt 9 (.alt 12 (.alt 13 (.alt 21 (.take 22 <| .take 23 <| .take 24 <| .alt 25 (.done) .stop) .stop) .stop) .stop) (.alt 12 (.alt 9 (.alt 13 (.alt 21 (.take 22 <| .take 23 <| .take 24 <| .alt 25 (.done) .stop) .stop) .stop) .stop) .stop)) .stop))) (.alt 18 (.take 20 <| .alt 9 (.take 11 <| .alt 12 (.alt 13 (.alt 21 (.take 22 <| .take 23 <| .take 24 <| .alt 25 (.done) .stop) .stop) .stop) .stop) (.alt 11 (.alt 9 (.alt 12 (.alt 13 (.alt 21 (.take 22 <| .take 23 <| .take 24 <| .alt 25 (.done) .stop) .stop) .stop) .stop) (.alt 12 (.alt 9 (.alt 13 (.alt 21 (.take 22 <| .take 23 <| .take 24 <| .alt 25 (.done) .stop) .stop) .stop) .stop) .stop)) .stop)) .stop))) (.alt 11 (.alt 1 (.alt 9 (.alt 12 (.alt 13 (.take 18 <| .take 20 <| .alt 21 (.take 22 <| .take 23 <| .take 24 <| .alt 25 (.done) .stop) .stop) (.alt 18 (.take 20 <| .alt 13 (.alt 21 (.take 22 <| .take 23 <| .take 24 <| .alt 25 (.done) .stop) .stop) .stop) .stop)) (.alt 18 (.take 20 <| .alt 12 (.alt 13 (.alt 21 (.take 22 <| .take 23 <| .take 24 <| .alt 25 (.done) .stop) .stop) .stop) .stop) .stop)) (.alt 12 (.alt 9 (.alt 13 (.take 18 <| .take 20 <| .alt 21 (.take 22 <| .take 23 <| .take 24 <| .alt 25 (.done) .stop) .stop) (.alt 18 (.take 20 <| .alt 13 (.alt 21 (.take 22 <| .take 23 <| .take 24 <| .alt 25 (.done) .stop) .stop) .stop) .stop)) (.alt 18 (.take 20 <| .alt 9 (.alt 13 (.alt 21 (.take 22 <| .take 23 <| .take 24 <| .alt 25 (.done) .stop) .stop) .stop) .stop) .stop)) (.alt 18 (.take 20 <| .alt 9 (.alt 12 (.alt 13 (.alt 21 (.take 22 <| .take 23 <| .take 24 <| .alt 25 (.done) .stop) .stop) .stop) .stop) (.alt 12 (.alt 9 (.alt 13 (.alt 21 (.take 22 <| .take 23 <| .take 24 <| .alt 25 (.done) .stop) .stop) .stop) .stop) .stop)) .stop))) (.alt 12 (.alt 1 (.alt 9 (.alt 13 (.take 18 <| .take 20 <| .alt 21 (.take 22 <| .take 23 <| .take 24 <| .alt 25 (.done) .stop) .stop) (.alt 18 (.take 20 <| .alt 13 (.alt 21 (.take 22 <| .take 23 <| .take 24 <| .alt 25 (.done) .stop) .stop) .stop) .stop)) (.alt 18 (.take 20 <| .alt 9 (.alt 13 (.alt 21 (.take 22 <| .take 23 <| .take 24 <| .alt 25 (.done) .stop) .stop) .stop) .stop) .stop)) (.alt 18 (.take 20 <| .alt 1 (.alt 9 (.alt 13 (.alt 21 (.take 22 <| .take 23 <| .take 24 <| .alt 25 (.done) .stop) .stop) .stop) .stop) .stop) .stop)) (.alt 18 (.take 20 <| .alt 1 (.alt 9 (.alt 12 (.alt 13 (.alt 21 (.take 22 <| .take 23 <| .take 24 <| .alt 25 (.done) .stop) .stop) .stop) .stop) (.alt 12 (.alt 9 (.alt 13 (.alt 21 (.take 22 <| .take 23 <| .take 24 <| .alt 25 (.done) .stop) .stop) .stop) .stop) .stop)) (.alt 12 (.alt 1 (.alt 9 (.alt 13 (.alt 21 (.take 22 <| .take 23 <| .take 24 <| .alt 25 (.done) .stop) .stop) .stop) .stop) .stop) .stop)) .stop))) (.alt 18 (.take 20 <| .alt 1 (.alt 9 (.take 11 <| .alt 12 (.alt 13 (.alt 21 (.take 22 <| .take 23 <| .take 24 <| .alt 25 (.done) .stop) .stop) .stop) .stop) (.alt 11 (.alt 9 (.alt 12 (.alt 13 (.alt 21 (.take 22 <| .take 23 <| .take 24 <| .alt 25 (.done) .stop) .stop) .stop) .stop) (.alt 12 (.alt 9 (.alt 13 (.alt 21 (.take 22 <| .take 23 <| .take 24 <| .alt 25 (.done) .stop) .stop) .stop) .stop) .stop)) .stop)) (.alt 11 (.alt 1 (.alt 9 (.alt 12 (.alt 13 (.alt 21 (.take 22 <| .take 23 <| .take 24 <| .alt 25 (.done) .stop) .stop) .stop) .stop) (.alt 12 (.alt 9 (.alt 13 (.alt 21 (.take 22 <| .take 23 <| .take 24 <| .alt 25 (.done) .stop) .stop) .stop) .stop) .stop)) (.alt 12 (.alt 1 (.alt 9 (.alt 13 (.alt 21 (.take 22 <| .take 23 <| .take 24 <| .alt 25 (.done) .stop) .stop) .stop) .stop) .stop) .stop)) .stop)) .stop))), (7, [], .take 0 <| .take 1 <| .take 2 <| .take 3 <| .take 4 <| .take 5 <| .take 6 <| .take 7 <| .take 8 <| .take 9 <| .take 10 <| .take 11 <| .take 12 <| .done)] _ _ ?_
  simp [-List.getD_eq_getElem?_getD, c_voted, c_sLead, ndOf, mgOf, ND.rv]
  obtain ⟨hF, p1, p2, p3⟩ := hpre
  have hn1' : 1 ≤ n1 := hF.n1
  have vl := vo_len' (n := n1) (es := vs) (p := -1) hF.vo (by omega)
  have hn5 : n1 ≤ 5 := hF.n5
  have l6 : es.length ≤ 60 := hF.l6
  obtain ⟨nd, hnd⟩ : ∃ nd : ND, nd = ⟨n0, n1, n2, n3, n4, u, es, n5, n6, n7, vs, xs, ms⟩ := ⟨_, rfl⟩
  obtain ⟨mg, hmg⟩ : ∃ mg : MG, mg = ⟨m0, m1, m2, m3, m4, m5, m6, m7, m8⟩ := ⟨_, rfl⟩
  rw [← hnd, ← hmg]
  refine ⟨by decide +kernel, fun h => ?_, fun r t o => ?_⟩
  · have e : elecR nd mg = (nd, []) := by
      rw [elecR, if_pos]
      rw [hmg, hnd]
      rcases h with (h | h) | h
      · exact .inl h
      · exact .inr (.inl h)
      · exact .inr (.inr h)
    rw [e, hnd]
    and_intros <;> rfl
  have hE1 : elecR nd mg = if nd.nodes < 2 * (insV m1 vs).length then (leadA { nd with vs := insV m1 vs }, repAll (leadA { nd with vs := insV m1 vs }) nd.nodes.toNat) else ({ nd with vs := insV m1 vs }, []) := by
    rw [elecR, if_neg (by rw [hmg, hnd]; simp [r, t, o]), hmg, hnd]
  have pl := posV_le m1 vs
  refine hW.loopS _ _ _ [.sl 4 .dp (.int .i64)] (fun ys => ∃ k : Nat, ys = [.int .i64 k] ∧ k ≤ vs.length ∧ posV m1 vs = k + posV m1 (vs.drop k)) (fun ys => vs.length - (nth ys 0).I.toNat) ?_ ?_
  · simp [-List.getD_eq_getElem?_getD, c_voted, c_sLead]
    exact ⟨0, rfl, by omega, by simp⟩
  · rintro ys ⟨k, rfl, g1, g2⟩
    refine hW.vc [(1, [], .take 0 <| .take 1 <| .take 2 <| .take 3 <| .take 4 <| .take 5 <| .take 6 <| .take 7 <| .take 8 <| .take 9 <| .take 10 <| .take 11 <| .take 12 <| .take 13 <| .take 14 <| .take 15 <| .take 16 <| .take 17 <| .take 18 <| .take 19 <| .take 20 <| .done), (3, [], .take 0 <| .take 1 <| .take 2 <| .take 3 <| .take 4 <| .take 5 <| .take 6 <| .take 7 <| .take 8 <| .take 9 <| .take 10 <| .take 11 <| .take 12 <| .take 13 <| .take 14 <| .take 15 <| .take 16 <| .take 17 <| .take 18 <| .take 19 <| .take 20 <| .done), (5, [], .take 0 <| .take 1 <| .take 2 <| .take 3 <| .take 4 <| .take 5 <| .take 6 <| .take 7 <| .take 8 <| .take 9 <| .take 10 <| .take 11 <| .take 12 <| .take 13 <| .take 14 <| .take 15 <| .take 16 <| .take 17 <| .take 18 <| .take 19 <| .take 20 <| .done), (7, [], .take 0 <| .take 1 <| .take 2 <| .take 3 <| .take 4 <| .take 5 <| .take 6 <| .take 7 <| .take 8 <| .take 9 <| .take 10 <| .take 11 <| .take 12 <| .done)] _ _ ?_
    simp [-List.getD_eq_getElem?_getD, c_voted, c_sLead, ndOf, mgOf, ND.rv]
    have hv' : vs.length ≤ 140737488355328 := hvs
    refine ⟨by decide +kernel, fun _ _ => ⟨fun q1 q2 => ⟨⟨k + 1, wrap64 (by omega), by omega, ?_⟩, by rw [wrap64 (by omega)]; omega⟩, fun q1 => ⟨by decide +kernel, fun _ => ⟨fun h => ⟨h, by omega⟩, fun _ => ?_⟩⟩⟩⟩
    · rw [g2, drop_nth q1, posV, if_pos q2]; omega
    have hk : posV m1 vs = k := by
      rw [g2]
      by_cases h : k < vs.length
      · rw [drop_nth h, posV, if_neg (Int.not_lt.2 (q1 h))]; rfl
      · rw [List.drop_eq_nil_of_le (by omega), posV]; rfl
    have sl : ∀ ws, sleadOk { nd with vs := ws } := fun ws => by
      rw [hnd]; exact ⟨⟨hF.n1, hF.n5, hF.c0, hF.l6⟩, hF.nx, hF.ms, mono_of hF.en⟩
    refine ⟨fun q3 => ?_, fun q3 q4 => ⟨by decide +kernel, fun _ => ?_⟩⟩
    · have hI : insV m1 vs = vs.take k ++ (.int .i64 m1 :: vs.drop k) := by
        have : ¬ hasV m1 vs = true := by
          rw [hasV, hk]
          simp only [Bool.and_eq_true, decide_eq_true_eq]
          intro h
          rcases q3 with q3 | q3
          · omega
          · exact q3 h.2
        rw [insV, if_neg this, hk]; simp
      have hlen : (insV m1 vs).length = vs.length + 1 := by rw [hI]; simp; omega
      refine hW.cutS [_] _ _ [.bx 0 [.int .i64, .int .i64, .int .i64, .int .i64, .int .i64, .bool, .list (.agg [.int .i64, .str]), .int .i64, .int .i64, .int .i64, .list (.int .i64), .list (.int .i64), .list (.int .i64), .list (.agg [.int .i64, .int .i64, .int .i64, .int .i64, .int .i64, .int .i64, .int .i64, .bool, .list (.agg [.int .i64, .str])])]] (fun ys => ys = [({ nd with vs := insV m1 vs } : ND).rv out]) ?_ ?_
      · refine hW.vc [(6, [9, 13, 21, 25], .take 0 <| .take 2 <| .take 3 <| .take 4 <| .take 5 <| .take 6 <| .take 7 <| .take 8 <| .take 10 <| .take 14 <| .take 15 <| .take 16 <| .take 17 <| .take 19 <| .alt 1 (.alt 9 (.take 11 <| .alt 12 (.alt 13 (.take 18 <| .take 20 <| .alt 21 (.take 22 <| .take 23 <| .take 24 <| .alt 25 (.done) .stop) .stop) (.alt 18 (.take 20 <| .alt 13 (.alt 21 (.take 22 <| .take 23 <| .take 24 <| .alt 25 (.done) .stop) .stop) .stop) .stop)) (.alt 18 (.take 20 <| .alt 12 (.alt 13 (.alt 21 (.take 22 <| .take 23 <| .take 24 <| .alt 25 (.done) .stop) .stop) .stop) .stop) .stop)) (.alt 11 (.alt 9 (.alt 12 (.alt 13 (.take 18 <| .take 20 <| .alt 21 (.take 22 <| .take 23 <| .take 24 <| .alt 25 (.done) .stop) .stop) (.alt 18 (.take 20 <| .alt 13 (.alt 21 (.take 22 <| .take 23 <| .take 24 <| .alt 25 (.done) .stop) .stop) .stop) .stop)) (.alt 18 (.take 20 <| .alt 12 (.alt 13 (.alt 21 (.take 22 <| .take 23 <| .take 24 <| .alt 25 (.done) .stop) .stop) .stop) .stop) .stop)) (.alt 12 (.alt 9 (.alt 13 (.take 18 <| .take 20 <| .alt 21 (.take 22 <| .take 23 <| .take 24 <| .alt 25 (.done) .stop) .stop) (.alt 18 (.take 20 <| .alt 13 (.alt 21 (.take 22 <| .take 23 <| .take 24 <| .alt 25 (.done) .stop) .stop) .stop) .stop)) (.alt 18 (.take 20 <| .alt 9 (.alt 13 (.alt 21 (.take 22 <| .take 23 <| .take 24 <| .alt 25 (.done) .stop) .stop) .stop) .stop) .stop)) (.alt 18 (.take 20 <| .alt 9 (.alt 12 (.alt 13 (.alt 21 (.take 22 <| .take 23 <| .take 24 <| .alt 25 (.done) .stop) .stop) .stop) .stop) (.alt 12 (.alt 9 (.alt 13 (.alt 21 (.take 22 <| .take 23 <| .take 24 <| .alt 25 (.done) .stop) .stop) .stop) .stop) .stop)) .stop))) (.alt 18 (.take 20 <| .alt 9 (.take 11 <| .alt 12 (.alt 13 (.alt 21 (.take 22 <| .take 23 <| .take 24 <| .alt 25 (.done) .stop) .stop) .stop) .stop) (.alt 11 (.alt 9 (.alt 12 (.alt 13 (.alt 21 (.take 22 <| .take 23 <| .take 24 <| .alt 25 (.done) .stop) .stop) .stop) .stop) (.alt 12 (.alt 9 (.alt 13 (.alt 21 (.take 22 <| .take 23 <| .take 24 <| .alt 25 (.done) .stop) .stop) .stop) .stop) .stop)) .stop)) .stop))) (.alt 11 (.alt 1 (.alt 9 (.alt 12 (.alt 13 (.take 18 <| .take 20 <| .alt 21 (.take 22 <| .take 23 <| .take 24 <| .alt 25 (.done) .stop) .stop) (.alt 18 (.take 20 <| .alt 13 (.alt 21 (.take 22 <| .take 23 <| .take 24 <| .alt 25 (.done) .stop) .stop) .stop) .stop)) (.alt 18 (.take 20 <| .alt 12 (.alt 13 (.alt 21 (.take 22 <| .take 23 <| .take 24 <| .alt 25 (.done) .stop) .stop) .stop) .stop) .stop)) (.alt 12 (.alt 9 (.alt 13 (.take 18 <| .take 20 <| .alt 21 (.take 22 <| .take 23 <| .take 24 <| .alt 25 (.done) .stop) .stop) (.alt 18 (.take 20 <| .alt 13 (.alt 21 (.take 22 <| .take 23 <| .take 24 <| .alt 25 (.done) .stop) .stop) .stop) .stop)) (.alt 18 (.take 20 <| .alt 9 (.alt 13 (.alt 21 (.take 22 <| .take 23 <| .take 24 <| .alt 25 (.done) .stop) .stop) .stop) .stop) .stop)) (.alt 18 (.take 20 <| .alt 9 (.alt 12 (.alt 13 (.alt 21 (.take 22 <| .take 23 <| .take 24 <| .alt 25 (.done) .stop) .stop) .stop) .stop) (.alt 12 (.alt 9 (.alt 13 (.alt 21 (.take 22 <| .take 23 <| .take 24 <| .alt 25 (.done) .stop) .stop) .stop) .stop) .stop)) .stop))) (.alt 12 (.alt 1 (.alt 9 (.alt 13 (.take 18 <| .take 20 <| .alt 21 (.take 22 <| .take 23 <| .take 24 <| .alt 25 (.done) .stop) .stop) (.alt 18 (.take 20 <| .alt 13 (.alt 21 (.take 22 <| .take 23 <| .take 24 <| .alt 25 (.done) .stop) .stop) .stop) .stop)) (.alt 18 (.take 20 <| .alt 9 (.alt 13 (.alt 21 (.take 22 <| .take 23 <| .take 24 <| .alt 25 (.done) .stop) .stop) .stop) .stop) .stop)) (.alt 18 (.take 20 <| .alt 1 (.alt 9 (.alt 13 (.alt 21 (.take 22 <| .take 23 <| .take 24 <| .alt 25 (.done) .stop) .stop) .stop) .stop) .stop) .stop)) (.alt 18 (.take 20 <| .alt 1 (.alt 9 (.alt 12 (.alt 13 (.alt 21 (.take 22 <| .take 23 <| .take 24 <| .alt 25 (.done) .stop) .stop) .stop) .stop) (.alt 12 (.alt 9 (.alt 13 (.alt 21 (.take 22 <| .take 23 <| .take 24 <| .alt 25 (.done) .stop) .stop) .stop) .stop) .stop)) (.alt 12 (.alt 1 (.alt 9 (.alt 13 (.alt 21 (.take 22 <| .take 23 <| .take 24 <| .alt 25 (.done) .stop) .stop) .stop) .stop) .stop) .stop)) .stop))) (.alt 18 (.take 20 <| .alt 1 (.alt 9 (.take 11 <| .alt 12 (.alt 13 (.alt 21 (.take 22 <| .take 23 <| .take 24 <| .alt 25 (.done) .stop) .stop) .stop) .stop) (.alt 11 (.alt 9 (.alt 12 (.alt 13 (.alt 21 (.take 22 <| .take 23 <| .take 24 <| .alt 25 (.done) .stop) .stop) .stop) .stop) (.alt 12 (.alt 9 (.alt 13 (.alt 21 (.take 22 <| .take 23 <| .take 24 <| .alt 25 (.done) .stop) .stop) .stop) .stop) .stop)) .stop)) (.alt 11 (.alt 1 (.alt 9 (.alt 12 (.alt 13 (.alt 21 (.take 22 <| .take 23 <| .take 24 <| .alt 25 (.done) .stop) .stop) .stop) .stop) (.alt 12 (.alt 9 (.alt 13 (.alt 21 (.take 22 <| .take 23 <| .take 24 <| .alt 25 (.done) .stop) .stop) .stop) .stop) .stop)) (.alt 12 (.alt 1 (.alt 9 (.alt 13 (.alt 21 (.take 22 <| .take 23 <| .take 24 <| .alt 25 (.done) .stop) .stop) .stop) .stop) .stop) .stop)) .stop)) .stop)))] _ _ ?_
        simp [-List.getD_eq_getElem?_getD, c_voted, c_sLead, ndOf, ND.rv]
        have ht : List.take (vs.length - k) (List.drop k vs) = List.drop k vs := List.take_of_length_le (by simp)
        rw [ht, hI, hnd]
        repeat' (first | apply And.intro | intro _)
        all_goals first | rfl | omega | assumption | decide +kernel
      · rintro ys rfl
        refine hW.vc [(7, [], .take 0 <| .take 1 <| .take 2 <| .take 3 <| .take 4 <| .take 5 <| .take 6 <| .take 7 <| .take 8 <| .take 9 <| .take 10 <| .take 11 <| .take 12 <| .done)] _ _ ?_
        simp [-List.getD_eq_getElem?_getD, c_voted, c_sLead, ndOf, mgOf, ND.rv]
        rw [← hnd, ← hmg, wrap64 (n := 2 * _) (by omega), hE1]
        refine ⟨by decide +kernel, fun _ => ⟨fun h => ?_, fun h => ?_⟩⟩
        · rw [if_pos h]
          exact ⟨⟨sl _, by omega⟩, by and_intros <;> rfl⟩
        · rw [if_neg (by omega)]
          and_intros <;> rfl
    · have hI : insV m1 vs = vs := by
        rw [insV, if_pos]
        rw [hasV, hk]
        simp only [Bool.and_eq_true, decide_eq_true_eq]
        exact ⟨by omega, q4⟩
      rw [hI] at hE1
      have e1 : ({ nd with vs := vs } : ND) = nd := by rw [hnd]
      rw [e1] at hE1
      have e2 : nd.nodes = n1 := by rw [hnd]
      rw [wrap64 (n := 2 * _) (by omega), ← hnd, ← hmg, hE1, e2]
      refine ⟨fun h => ?_, fun h => ?_⟩
      · rw [if_pos h]
        exact ⟨⟨by have := sl vs; rw [e1] at this; exact this, by omega⟩, by and_intros <;> rfl⟩
      · rw [if_neg (by omega), hnd]
        and_intros <;> rfl

end Go.Proofs.Ytmjjdfhpnckacab
end

section
namespace Go.Proofs.Ytmjjdfhpnckacab
set_option maxRecDepth 100000
set_option linter.unusedSimpArgs false

def c_sEntries : FSpec := ⟨[(.bx, .box [.int .i64, .int .i64, .int .i64, .int .i64, .int .i64, .bool, .list (.agg [.int .i64, .str]), .int .i64, .int .i64, .int .i64, .list (.int .i64), .list (.int .i64), .list (.int .i64), .list (.agg [.int .i64, .int .i64, .int .i64, .int .i64, .int .i64, .int .i64, .int .i64, .bool, .list (.agg [.int .i64, .str])])]), (.rd, .agg [.int .i64, .int .i64, .int .i64, .int .i64, .int .i64, .int .i64, .int .i64, .bool, .list (.agg [.int .i64, .str])])], [], true, fun ps => NdF (ndOf (nth ps 0).A) ∧ (nth (nth ps 0).A 13).L.length ≤ 900 ∧ MgF (ndOf (nth ps 0).A) (mgOf (nth ps 1).A) ∧ (nth (nth ps 1).A 3).I ≤ (nth (nth ps 0).A 2).I, fun _ => [],
  fun ps => [(takeR (ndOf (nth ps 0).A) (mgOf (nth ps 1).A)).1.rv ((nth (nth ps 0).A 13).L ++ [takeM (ndOf (nth ps 0).A) (mgOf (nth ps 1).A) (takeR (ndOf (nth ps 0).A) (mgOf (nth ps 1).A)).2.1 (takeR (ndOf (nth ps 0).A) (mgOf (nth ps 1).A)).2.2])]⟩
set_option maxHeartbeats 4000000 in
theorem k_sEntries : FnOk Try.prog 161 c_sEntries := by
  refine fn_mk [0, 1, 3, 4, 5, 6, 7] [] (env_cons (cs := []) k_l08Term (env_cons (cs := []) k_sFollow (env_cons (cs := []) k_send (env_nil (tyTab_ok []))))) mixed Try.func161 rfl (by decide) rfl (by decide) rfl ?_
  intro ps hT hpre W hW
  simp only [c_sEntries, TyA, Ty, Tys] at hT hpre
  obtain ⟨_, _, rfl, ⟨_, rfl, _, _, rfl, ⟨n0, rfl, hn0⟩, _, _, rfl, ⟨n1, rfl, hn1⟩, _, _, rfl, ⟨n2, rfl, hn2⟩, _, _, rfl, ⟨n3, rfl, hn3⟩, _, _, rfl, ⟨n4, rfl, hn4⟩, _, _, rfl, ⟨u, rfl⟩, _, _, rfl, ⟨es, rfl, hes, tes⟩, _, _, rfl, ⟨n5, rfl, hn5⟩, _, _, rfl, ⟨n6, rfl, hn6⟩, _, _, rfl, ⟨n7, rfl, hn7⟩, _, _, rfl, ⟨vs, rfl, hvs, tvs⟩, _, _, rfl, ⟨xs, rfl, hxs, txs⟩, _, _, rfl, ⟨ms, rfl, hms, tms⟩, _, _, rfl, ⟨out, rfl, hout, tout⟩, rfl⟩, _, _, rfl, ⟨_, rfl, _, _, rfl, ⟨m0, rfl, hm0⟩, _, _, rfl, ⟨m1, rfl, hm1⟩, _, _, rfl, ⟨m2, rfl, hm2⟩, _, _, rfl, ⟨m3, rfl, hm3⟩, _, _, rfl, ⟨m4, rfl, hm4⟩, _, _, rfl, ⟨m5, rfl, hm5⟩, _, _, rfl, ⟨m6, rfl, hm6⟩, _, _, rfl, ⟨m7, rfl⟩, _, _, rfl, ⟨m8, rfl, hm8, tm8⟩, rfl⟩, rfl⟩ := hT
  simp only [nth_zero, nth_succ, pv_I, pv_L, pv_A] at hpre
  refine hW.vc [(1, [15], .take 0 <| .take 1 <| .take 2 <| .take 3 <| .take 4 <| .take 5 <| .take 6 <| .take 7 <| .take 8 <| .take 9 <| .take 10 <| .take 11 <| .take 12 <| .take 13 <| .alt 14 (.alt 15 (.done) .stop) .stop), (2, [], .take 0 <| .take 1 <| .take 2 <| .take 3 <| .take 4 <| .take 5 <| .take 6 <| .take 7 <| .done), (6, [], .take 0 <| .take 1 <| .take 2 <| .take 3 <| .take 4 <| .take 5 <| .take 6 <| .take 7 <| .take 8 <| .take 9 <| .take 10 <| .take 11 <| .take 12 <| .take 13 <| .take 14 <| .take 15 <| .take 17 <| .take 18 <| .alt 16 (.take 19 <| .take 20 <| .done) .stop), (12, [], .take 0 <| .take 1 <| .take 2 <| .take 3 <| .take 4 <| .take 5 <| .take 6 <| .take 7 <| .take 8 <| .take 9 <| .take 10 <| .take 11 <| .take 12 <| .take 13 <| .take 14 <| .take 15 <| .take 16 <| .take 17 <| .take 18 <| .take 19 <| .take 20 <| .take 21 <| .take 22 <| .take 23 <| .take 24 <| .take 25 <| .done), (13, [9, 14, 18], .take 0 <| .take 2 <| .take 3 <| .take 4 <| .take 5 <| .take 6 <| .take 7 <| .take 8 <| .take 10 <| .take 12 <| .alt 1 (.alt 9 (.take 11 <| .take 13 <| .alt 14 (.take 15 <| .take 16 <| .take 17 <| .alt 18 (.done) .stop) .stop) (.alt 11 (.take 13 <| .alt 9 (.alt 14 (.take 15 <| .take 16 <| .take 17 <| .alt 18 (.done) .stop) .stop) .stop) .stop)) (.alt 11 (.take 13 <| .alt 1 (.alt 9 (.alt 14 (.take 15 <| .take 16 <| .take 17 <| .alt 18 (.done) .stop) .stop) .stop) .stop) .stop)), (15, [14], .take 0 <| .take 1 <| .take 2 <| .take 3 <| .take 4 <| .take 5 <| .take 6 <| .take 7 <| .take 8 <| .take 9 <| .take 10 <| .take 11 <| .take 12 <| .take 13 <| .alt 14 (.done) .stop)] _ _ ?_
  simp [-List.getD_eq_getElem?_getD, c_sEntries, c_send, c_sFollow, c_l08Term, ndOf, mgOf, ND.rv]
  obtain ⟨hF, p1, hM, p2⟩ := hpre
  obtain ⟨nd, hnd⟩ : ∃ nd : ND, nd = ⟨n0, n1, n2, n3, n4, u, es, n5, n6, n7, vs, xs, ms⟩ := ⟨_, rfl⟩
  obtain ⟨mg, hmg⟩ : ∃ mg : MG, mg = ⟨m0, m1, m2, m3, m4, m5, m6, m7, m8⟩ := ⟨_, rfl⟩
  have l6 : es.length ≤ 60 := hF.l6
  have hx : (xs.length : Int) = n1 := hF.nx
  have hm : (ms.length : Int) = n1 := hF.ms
  have h1 : 1 ≤ n1 := hF.n1
  have h5 : n1 ≤ 5 := hF.n5
  have i0 : 0 ≤ m4 := hM.i0
  have i6 : m4 ≤ 60 := hM.i6
  have e6 : m8.length ≤ 60 := hM.es
  have k1 : IntKind.i64.wrap (m4 - 1) = m4 - 1 := wrap64 (by omega)
  have kI : (if (if 0 < m4 - 1 then m4 - 1 else 0) < (es.length : Int) then if 0 < m4 - 1 then m4 - 1 else 0 else (es.length : Int)) = mxI 0 (mnI es.length (m4 - 1)) := by
    unfold mxI mnI
    repeat' split
    all_goals omega
  have hno : ((m3 < n2 ∨ (es.length : Int) < m4) ∨ ¬ tmAt es m4 = m5) → takeR nd mg = (takeF nd mg, mxI 0 (mnI es.length (m4 - 1)), false) := fun h => by
    rw [takeR_no (by rw [hnd, hmg]; exact h), hnd, hmg]
  have hF1 : m3 = n2 → takeF nd mg = ⟨n0, n1, n2, n3, 0, u, es, n5, 0, n7, [], List.replicate n1.toNat (.int .i64 1), List.replicate n1.toNat (.int .i64 0)⟩ := fun h => by
    rw [hnd, hmg, takeF, if_pos h]; rfl
  have hF2 : ¬ m3 = n2 → takeF nd mg = ⟨n0, n1, n2, n3, n4, u, es, n5, n6, n7, vs, xs, ms⟩ := fun h => by
    rw [hnd, hmg, takeF, if_neg h]
  have hfo : followN nd = ⟨n0, n1, n2, n3, 0, u, es, n5, n6, n7, [], List.replicate n1.toNat (.int .i64 1), List.replicate n1.toNat (.int .i64 0)⟩ := by rw [hnd]; rfl
  rw [k1, kI, ← hnd, ← hmg, hfo]
  refine ⟨by decide +kernel, fun _ => ⟨by decide +kernel, fun q => ?_, fun q => ⟨⟨hx, hm, h1, h5⟩, by decide +kernel, fun _ => ⟨fun q1 => ⟨i0, q1⟩, fun q1 => ?_, fun q1 q2 => ?_⟩⟩⟩⟩
  · rw [hno (.inl (.inl q)), hF2 (by omega), takeM, hnd, hmg]
    repeat' (first | apply And.intro | intro _)
    all_goals first | rfl | omega | assumption | decide +kernel
  · rw [hno (q1.elim (fun h => .inl (.inr h)) .inr), hF1 (by omega), takeM, hnd, hmg]
    repeat' (first | apply And.intro | intro _)
    all_goals first | rfl | omega | assumption | decide +kernel
  have hT : takeR nd mg = (takeE (takeF nd mg) mg, m4 + m8.length, true) := by
    rw [takeR_yes (by rw [hnd, hmg]; exact q) (by rw [hnd, hmg]; exact q1) (by rw [hnd, hmg]; exact q2), hmg]
  rw [hF1 (by omega), hmg] at hT
  simp only [takeE] at hT
  rw [← hmg] at hT
  refine hW.loopS _ _ _ [.sl 5 .dp (.int .i64)] (fun ys => ∃ i : Nat, ys = [.int .i64 i] ∧ i ≤ m8.length ∧ m4.toNat + i ≤ es.length ∧ mergeL es m4.toNat m8 = mergeL es (m4.toNat + i) (m8.drop i)) (fun ys => m8.length - (nth ys 0).I.toNat) ?_ ?_
  · simp [-List.getD_eq_getElem?_getD, c_sEntries, c_send, c_sFollow, c_l08Term]
    exact ⟨0, rfl, by omega, by simp only at q1; omega, rfl⟩
  · rintro ys ⟨i, rfl, g1, g2, g3⟩
    refine hW.vc [(1, [15], .take 0 <| .take 1 <| .take 2 <| .take 3 <| .take 4 <| .take 5 <| .take 6 <| .take 7 <| .take 8 <| .take 9 <| .take 10 <| .take 11 <| .take 12 <| .take 13 <| .alt 14 (.alt 15 (.done) .stop) .stop), (2, [], .take 0 <| .take 1 <| .take 2 <| .take 3 <| .take 4 <| .take 5 <| .take 6 <| .take 7 <| .done), (6, [], .take 0 <| .take 1 <| .take 2 <| .take 3 <| .take 4 <| .take 5 <| .take 6 <| .take 7 <| .take 8 <| .take 9 <| .take 10 <| .take 11 <| .take 12 <| .take 13 <| .take 14 <| .take 15 <| .take 17 <| .take 18 <| .alt 16 (.take 19 <| .take 20 <| .done) .stop), (12, [], .take 0 <| .take 1 <| .take 2 <| .take 3 <| .take 4 <| .take 5 <| .take 6 <| .take 7 <| .take 8 <| .take 9 <| .take 10 <| .take 11 <| .take 12 <| .take 13 <| .take 14 <| .take 15 <| .take 16 <| .take 17 <| .take 18 <| .take 19 <| .take 20 <| .take 21 <| .take 22 <| .take 23 <| .take 24 <| .take 25 <| .done), (13, [9, 14, 18], .take 0 <| .take 2 <| .take 3 <| .take 4 <| .take 5 <| .take 6 <| .take 7 <| .take 8 <| .take 10 <| .take 12 <| .alt 1 (.alt 9 (.take 11 <| .take 13 <| .alt 14 (.take 15 <| .take 16 <| .take 17 <| .alt 18 (.done) .stop) .stop) (.alt 11 (.take 13 <| .alt 9 (.alt 14 (.take 15 <| .take 16 <| .take 17 <| .alt 18 (.done) .stop) .stop) .stop) .stop)) (.alt 11 (.take 13 <| .alt 1 (.alt 9 (.alt 14 (.take 15 <| .take 16 <| .take 17 <| .alt 18 (.done) .stop) .stop) .stop) .stop) .stop)), (15, [14], .take 0 <| .take 1 <| .take 2 <| .take 3 <| .take 4 <| .take 5 <| .take 6 <| .take 7 <| .take 8 <| .take 9 <| .take 10 <| .take 11 <| .take 12 <| .take 13 <| .alt 14 (.done) .stop)] _ _ ?_
    simp [-List.getD_eq_getElem?_getD, c_sEntries, c_send, c_sFollow, c_l08Term, ndOf, mgOf, ND.rv, takeM]
    have e1 : IntKind.i64.wrap (m4 + (i : Int)) = ((m4.toNat + i : Nat) : Int) := by rw [wrap64 (by omega)]; omega
    have e2 : IntKind.i64.wrap (m4 + (m8.length : Int)) = m4 + m8.length := wrap64 (by omega)
    rw [e1, e2, wrap64 (n := (i : Int) + 1) (by omega), ← hnd, ← hmg, hT]
    obtain ⟨k, hk⟩ : ∃ k, k = m4.toNat + i := ⟨_, rfl⟩
    rw [← hk] at g2 g3 ⊢
    simp [mxI, mnI, g3]
    have hm : i < m8.length → (k < es.length → ¬(nth (nth es k).A 0).I = (nth (nth m8 i).A 0).I) → es.take k ++ (m8.drop i).take (m8.length - i) = mergeL es k (m8.drop i) := fun q1 q2 => by
      rw [List.take_of_length_le (l := m8.drop i) (by simp), drop_nth q1, mergeL, if_neg (fun h => q2 h.1 h.2)]
    have hs : i < m8.length → k < es.length → (nth (nth es k).A 0).I = (nth (nth m8 i).A 0).I → mergeL es k (m8.drop i) = mergeL es (m4.toNat + (i + 1)) (m8.drop (i + 1)) := fun q1 q2 q3 => by
      have e : k + 1 = m4.toNat + (i + 1) := by omega
      rw [drop_nth q1, mergeL, if_pos ⟨q2, q3⟩, e]
    have hz : m8.length ≤ i → es = mergeL es k (m8.drop i) := fun q1 => by rw [List.drop_eq_nil_of_le q1, mergeL]
    repeat' (first | apply And.intro | intro _)
    all_goals first | rfl | omega | assumption | decide +kernel | exact hm ‹_› ‹_› | exact hz ‹_› | exact ⟨i + 1, by omega, by omega, by omega, hs ‹_› ‹_› ‹_›⟩ | trace_state

end Go.Proofs.Ytmjjdfhpnckacab
end

section
namespace Go.Proofs.Ytmjjdfhpnckacab
set_option maxRecDepth 100000
set_option linter.unusedSimpArgs false

def c_sAnswer : FSpec := ⟨[(.bx, .box [.int .i64, .int .i64, .int .i64, .int .i64, .int .i64, .bool, .list (.agg [.int .i64, .str]), .int .i64, .int .i64, .int .i64, .list (.int .i64), .list (.int .i64), .list (.int .i64), .list (.agg [.int .i64, .int .i64, .int .i64, .int .i64, .int .i64, .int .i64, .int .i64, .bool, .list (.agg [.int .i64, .str])])]), (.rd, .agg [.int .i64, .int .i64, .int .i64, .int .i64, .int .i64, .int .i64, .int .i64, .bool, .list (.agg [.int .i64, .str])])], [], true, fun ps => NdF (ndOf (nth ps 0).A) ∧ (nth (nth ps 0).A 13).L.length ≤ 900 ∧ MgF (ndOf (nth ps 0).A) (mgOf (nth ps 1).A), fun _ => [],
  fun ps => [(ansR (ndOf (nth ps 0).A) (mgOf (nth ps 1).A)).1.rv ((nth (nth ps 0).A 13).L ++ (ansR (ndOf (nth ps 0).A) (mgOf (nth ps 1).A)).2)]⟩
theorem k_sAnswer : FnOk Try.prog 162 c_sAnswer := by
  refine fn_mk [0, 1, 3] [] (env_cons (cs := []) k_tell (env_cons (cs := []) k_sAdvance (env_nil (tyTab_ok [])))) mixed Try.func162 rfl (by decide) rfl (by decide) rfl ?_
  intro ps hT hpre W hW
  simp only [c_sAnswer, TyA, Ty, Tys] at hT hpre
  obtain ⟨_, _, rfl, ⟨_, rfl, _, _, rfl, ⟨n0, rfl, hn0⟩, _, _, rfl, ⟨n1, rfl, hn1⟩, _, _, rfl, ⟨n2, rfl, hn2⟩, _, _, rfl, ⟨n3, rfl, hn3⟩, _, _, rfl, ⟨n4, rfl, hn4⟩, _, _, rfl, ⟨u, rfl⟩, _, _, rfl, ⟨es, rfl, hes, tes⟩, _, _, rfl, ⟨n5, rfl, hn5⟩, _, _, rfl, ⟨n6, rfl, hn6⟩, _, _, rfl, ⟨n7, rfl, hn7⟩, _, _, rfl, ⟨vs, rfl, hvs, tvs⟩, _, _, rfl, ⟨xs, rfl, hxs, txs⟩, _, _, rfl, ⟨ms, rfl, hms, tms⟩, _, _, rfl, ⟨out, rfl, hout, tout⟩, rfl⟩, _, _, rfl, ⟨_, rfl, _, _, rfl, ⟨m0, rfl, hm0⟩, _, _, rfl, ⟨m1, rfl, hm1⟩, _, _, rfl, ⟨m2, rfl, hm2⟩, _, _, rfl, ⟨m3, rfl, hm3⟩, _, _, rfl, ⟨m4, rfl, hm4⟩, _, _, rfl, ⟨m5, rfl, hm5⟩, _, _, rfl, ⟨m6, rfl, hm6⟩, _, _, rfl, ⟨m7, rfl⟩, _, _, rfl, ⟨m8, rfl, hm8, tm8⟩, rfl⟩, rfl⟩ := hT
  simp only [nth_zero, nth_succ, pv_I, pv_L, pv_A] at hpre
  obtain ⟨hF, p1, hM⟩ := hpre
  have hm0 : 0 ≤ m1 := hM.f0
  have hm1 : m1 < n1 := hM.f1
  have a3 : (xs.length : Int) = n1 := hF.nx
  have a4 : (ms.length : Int) = n1 := hF.ms
  have l6 : es.length ≤ 60 := hF.l6
  have h5 : n1 ≤ 5 := hF.n5
  have c0 : 0 ≤ n5 := hF.c0
  have hi0 : 0 ≤ m4 := hM.i0
  have hi6 : m4 ≤ 60 := hM.i6
  have hmo : monoP n2 es := mono_of hF.en
  have h6 : ∀ x, nth (ms.set m1.toNat x) m1.toNat = x := fun x => nth_set (by omega)
  have h7 : ∀ x, nth (xs.set m1.toNat x) m1.toNat = x := fun x => nth_set (by omega)
  have nm := nm_get (xs := xs) (ms := ms) (l := es.length) hF.nm (by omega) m1.toNat (by omega)
  have bX : 0 ≤ mxI (nth ms m1.toNat).I (mnI m4 es.length) ∧ mxI (nth ms m1.toNat).I (mnI m4 es.length) ≤ 61 := by
    unfold mxI mnI
    split <;> split <;> omega
  have w1 := wrap64 (n := mxI (nth ms m1.toNat).I (mnI m4 es.length) + 1) (by omega)
  have w2 := wrap64 (n := (nth ms m1.toNat).I + 1) (by omega)
  have w3 := wrap64 (n := (nth xs m1.toNat).I - 1) (by omega)
  have w4 := wrap64 (n := m4 + 1) (by omega)
  obtain ⟨nd, hnd⟩ : ∃ nd : ND, nd = ⟨n0, n1, n2, n3, n4, u, es, n5, n6, n7, vs, xs, ms⟩ := ⟨_, rfl⟩
  obtain ⟨mg, hmg⟩ : ∃ mg : MG, mg = ⟨m0, m1, m2, m3, m4, m5, m6, m7, m8⟩ := ⟨_, rfl⟩
  have hA : ackN nd mg = ⟨n0, n1, n2, n3, n4, u, es, n5, n6, n7, vs, xs.set m1.toNat (.int .i64 (mxI (nth xs m1.toNat).I (mxI (nth ms m1.toNat).I (mnI m4 es.length) + 1))), ms.set m1.toNat (.int .i64 (mxI (nth ms m1.toNat).I (mnI m4 es.length)))⟩ := by
    rw [hmg, hnd]; simp only [ackN, ackM, h6, pv_I]
  have hN : nakN nd mg = ⟨n0, n1, n2, n3, n4, u, es, n5, n6, n7, vs, xs.set m1.toNat (.int .i64 (mxI ((nth ms m1.toNat).I + 1) (mnI ((nth xs m1.toNat).I - 1) (m4 + 1)))), ms⟩ := by
    rw [hmg, hnd]; rfl
  have rO : repOk (nakN nd mg) m1 := by
    rw [hN]
    refine ⟨hm0, by simp only [List.length_set]; omega, ?_, ?_, by simp only; omega⟩
    · simp only [h7, pv_I]; unfold mxI mnI; split <;> split <;> omega
    · simp only [h7, pv_I]; unfold mxI mnI; split <;> split <;> omega
  unfold mxI mnI at w1
  refine hW.vc [(1, [], .take 0 <| .take 1 <| .take 2 <| .take 3 <| .take 4 <| .take 5 <| .take 6 <| .take 7 <| .take 8 <| .take 9 <| .take 10 <| .take 11 <| .take 12 <| .take 13 <| .take 14 <| .take 15 <| .done), (3, [33], .take 0 <| .take 1 <| .take 2 <| .take 3 <| .take 4 <| .take 5 <| .take 6 <| .take 7 <| .take 8 <| .take 9 <| .take 10 <| .take 11 <| .take 12 <| .take 13 <| .take 14 <| .take 15 <| .take 16 <| .take 17 <| .take 18 <| .take 19 <| .take 20 <| .take 21 <| .take 22 <| .take 23 <| .take 24 <| .take 25 <| .take 26 <| .take 27 <| .take 28 <| .take 29 <| .take 30 <| .take 31 <| .take 32 <| .alt 33 (.done) .stop), (5, [27], .take 0 <| .take 1 <| .take 2 <| .take 3 <| .take 4 <| .take 5 <| .take 6 <| .take 7 <| .take 8 <| .take 9 <| .take 10 <| .take 11 <| .take 12 <| .take 13 <| .take 14 <| .take 15 <| .take 16 <| .take 17 <| .take 18 <| .take 19 <| .take 20 <| .take 21 <| .take 22 <| .take 23 <| .take 24 <| .take 25 <| .take 26 <| .alt 27 (.done) .stop), (6, [28], .take 0 <| .take 1 <| .take 2 <| .take 3 <| .take 4 <| .take 5 <| .take 6 <| .take 7 <| .take 8 <| .take 9 <| .take 10 <| .take 11 <| .take 12 <| .take 13 <| .take 14 <| .take 15 <| .take 16 <| .take 17 <| .take 18 <| .take 19 <| .take 20 <| .take 21 <| .take 22 <| .take 23 <| .take 24 <| .take 25 <| .take 26 <| .take 27 <| .alt 28 (.done) .stop)] _ _ ?_
  simp [-List.getD_eq_getElem?_getD, c_sAnswer, c_sAdvance, c_tell, ndOf, mgOf, ND.rv, h6, h7]
  rw [w1, w2, w3, w4, ← hnd, ← hmg]
  refine ⟨by decide +kernel, fun h => ?_, fun r t => ⟨fun o => ?_, fun o => ?_⟩⟩
  · have e : ansR nd mg = (nd, []) := by
      rw [ansR, if_pos (by rw [hmg, hnd]; exact h)]
    rw [e, hnd]
    repeat' (first | apply And.intro | intro _)
    all_goals first | rfl | omega | assumption | decide +kernel
  · have e : ansR nd mg = (nakN nd mg, [repV (nakN nd mg) m1]) := by
      rw [ansR, if_neg (by rw [hmg, hnd]; simp [r, t]), if_neg (by rw [hmg]; simp [o]), hmg]
    rw [e]
    rw [hN] at rO ⊢
    obtain ⟨r1, r2, r3, r4, r5⟩ := rO
    clear bX nm w1 w2 w3 w4 hA hN e
    repeat' (first | apply And.intro | intro _)
    all_goals first | rfl | exact r1 | exact r2 | exact r3 | exact r4 | exact r5 | omega | decide +kernel
  · have e : ansR nd mg = ({ ackN nd mg with com := advG (ackN nd mg) es.length }, []) := by
      rw [ansR, if_neg (by rw [hmg, hnd]; simp [r, t]), if_pos (by rw [hmg]; exact o), hnd]
    rw [e, hA]
    clear bX nm w1 w2 w3 w4 hA hN e rO
    repeat' (first | exact hmo | apply And.intro | intro _)
    all_goals first | rfl | omega | assumption | decide +kernel

end Go.Proofs.Ytmjjdfhpnckacab
end

section
namespace Go.Proofs.Ytmjjdfhpnckacab
set_option maxRecDepth 100000
set_option linter.unusedSimpArgs false

def c_sTake : FSpec := ⟨[(.bx, .box [.int .i64, .int .i64, .int .i64, .int .i64, .int .i64, .bool, .list (.agg [.int .i64, .str]), .int .i64, .int .i64, .int .i64, .list (.int .i64), .list (.int .i64), .list (.int .i64), .list (.agg [.int .i64, .int .i64, .int .i64, .int .i64, .int .i64, .int .i64, .int .i64, .bool, .list (.agg [.int .i64, .str])])]), (.rd, .agg [.int .i64, .int .i64, .int .i64, .int .i64, .int .i64, .int .i64, .int .i64, .bool, .list (.agg [.int .i64, .str])])], [], true, fun ps => NdF (ndOf (nth ps 0).A) ∧ MgF (ndOf (nth ps 0).A) (mgOf (nth ps 1).A) ∧ (nth (nth ps 0).A 13).L.length ≤ 900, fun _ => [],
  fun ps => [(handR (newT (ndOf (nth ps 0).A) (nth (nth ps 1).A 3).I) (mgOf (nth ps 1).A)).1.rv ((nth (nth ps 0).A 13).L ++ (handR (newT (ndOf (nth ps 0).A) (nth (nth ps 1).A 3).I) (mgOf (nth ps 1).A)).2)]⟩
theorem k_sTake : FnOk Try.prog 126 c_sTake := by
  refine fn_mk [0, 1, 3, 25] [] (env_cons (cs := []) k_sAnswer (env_cons (cs := []) k_sEntries (env_cons (cs := []) k_voted (env_cons (cs := []) k_vote (env_cons (cs := []) k_sFollow (env_nil (tyTab_ok []))))))) mixed Try.func126 rfl (by decide) rfl (by decide) rfl ?_
  intro ps hT hpre W hW
  simp only [c_sTake, TyA, Ty, Tys] at hT hpre
  obtain ⟨_, _, rfl, ⟨_, rfl, _, _, rfl, ⟨n0, rfl, hn0⟩, _, _, rfl, ⟨n1, rfl, hn1⟩, _, _, rfl, ⟨n2, rfl, hn2⟩, _, _, rfl, ⟨n3, rfl, hn3⟩, _, _, rfl, ⟨n4, rfl, hn4⟩, _, _, rfl, ⟨u, rfl⟩, _, _, rfl, ⟨es, rfl, hes, tes⟩, _, _, rfl, ⟨n5, rfl, hn5⟩, _, _, rfl, ⟨n6, rfl, hn6⟩, _, _, rfl, ⟨n7, rfl, hn7⟩, _, _, rfl, ⟨vs, rfl, hvs, tvs⟩, _, _, rfl, ⟨xs, rfl, hxs, txs⟩, _, _, rfl, ⟨ms, rfl, hms, tms⟩, _, _, rfl, ⟨out, rfl, hout, tout⟩, rfl⟩, _, _, rfl, ⟨_, rfl, _, _, rfl, ⟨m0, rfl, hm0⟩, _, _, rfl, ⟨m1, rfl, hm1⟩, _, _, rfl, ⟨m2, rfl, hm2⟩, _, _, rfl, ⟨m3, rfl, hm3⟩, _, _, rfl, ⟨m4, rfl, hm4⟩, _, _, rfl, ⟨m5, rfl, hm5⟩, _, _, rfl, ⟨m6, rfl, hm6⟩, _, _, rfl, ⟨m7, rfl⟩, _, _, rfl, ⟨m8, rfl, hm8, tm8⟩, rfl⟩, rfl⟩ := hT
  simp only [nth_zero, nth_succ, pv_I, pv_L, pv_A, pv_B, ndOf, mgOf] at hpre
  obtain ⟨hF, hM, p1⟩ := hpre
  obtain ⟨nd, hnd⟩ : ∃ nd : ND, nd = ⟨n0, n1, n2, n3, n4, u, es, n5, n6, n7, vs, xs, ms⟩ := ⟨_, rfl⟩
  refine hW.vc [] _ _ ?_
  simp [-List.getD_eq_getElem?_getD, c_sTake, c_sFollow, c_vote, c_voted, c_sEntries, c_sAnswer]
  refine hW.cutS [_, _] _ _ [.bx 0 [.int .i64, .int .i64, .int .i64, .int .i64, .int .i64, .bool, .list (.agg [.int .i64, .str]), .int .i64, .int .i64, .int .i64, .list (.int .i64), .list (.int .i64), .list (.int .i64), .list (.agg [.int .i64, .int .i64, .int .i64, .int .i64, .int .i64, .int .i64, .int .i64, .bool, .list (.agg [.int .i64, .str])])]] (fun ys => ys = [(newT nd m3).rv out]) ?_ ?_
  · refine hW.vc [(1, [], .take 0 <| .take 1 <| .take 2 <| .take 3 <| .take 4 <| .take 5 <| .take 6 <| .take 7 <| .done)] _ _ ?_
    simp [-List.getD_eq_getElem?_getD, c_sTake, c_sFollow, c_vote, c_voted, c_sEntries, c_sAnswer, ndOf, ND.rv, followN]
    have a3 : (xs.length : Int) = n1 := hF.nx
    have a4 : (ms.length : Int) = n1 := hF.ms
    refine ⟨by decide +kernel, fun h => ⟨⟨a3, a4, hF.n1, hF.n5⟩, ?_⟩, fun h => ?_⟩
    · have e : newT nd m3 = ⟨n0, n1, m3, -1, 0, u, es, n5, n6, n7, [], List.replicate n1.toNat (.int .i64 1), List.replicate n1.toNat (.int .i64 0)⟩ := by rw [hnd, newT, if_pos h]; rfl
      rw [e]; and_intros <;> rfl
    · have e : newT nd m3 = ⟨n0, n1, n2, n3, n4, u, es, n5, n6, n7, vs, xs, ms⟩ := by rw [hnd, newT, if_neg (Int.not_lt.2 h)]
      rw [e]; and_intros <;> rfl
  · rintro ys rfl
    refine hW.vc [(1, [], .take 0 <| .take 1 <| .take 2 <| .take 3 <| .take 4 <| .take 5 <| .take 6 <| .take 7 <| .done)] _ _ ?_
    simp [-List.getD_eq_getElem?_getD, c_sTake, c_sFollow, c_vote, c_voted, c_sEntries, c_sAnswer, ndOf, mgOf, ND.rv]
    have hT : NdF (newT nd m3) := newT_F (by rw [hnd]; exact hF) hM.tM
    obtain ⟨mg, hmg⟩ : ∃ mg : MG, mg = ⟨m0, m1, m2, m3, m4, m5, m6, m7, m8⟩ := ⟨_, rfl⟩
    obtain ⟨T, hTd⟩ : ∃ T, T = newT nd m3 := ⟨_, rfl⟩
    rw [← hTd] at hT ⊢
    have hTd' : newT ⟨n0, n1, n2, n3, n4, u, es, n5, n6, n7, vs, xs, ms⟩ m3 = T := by rw [hTd, hnd]
    have eta : (⟨T.id, T.nodes, T.term, T.vote, T.role, T.up, T.log, T.com, T.ela, T.wt, T.vs, T.nx, T.ms⟩ : ND) = T := rfl
    have l6 := hT.l6
    have a2 := hT.n5
    have hTn : T.nodes = n1 := by rw [hTd, hnd, newT]; split <;> rfl
    have hTt : m3 ≤ T.term := by
      rw [hTd, hnd, newT]; split
      · exact Int.le_refl _
      · rename_i h; exact Int.not_lt.1 h
    have hMT : MgF T mg := by
      rw [hmg]
      exact ⟨hM.k1, hM.k4, hM.f0, by rw [hTn]; exact hM.f1, hM.t1, hM.tM, hM.i0, hM.i6, hM.c0, hM.c6, hM.es⟩
    have hm0 : 0 ≤ m1 := hM.f0
    have hm1 : m1 < n1 := hM.f1
    rw [hTd', eta, ← hmg]
    refine ⟨fun k1 => ?_, fun k1 => ⟨fun k2 => ?_, fun k2 => ⟨fun k3 => ?_, fun k3 => ?_⟩⟩⟩
    · rw [handR, if_pos (by rw [hmg]; exact k1)]
      repeat' (first | exact hT | exact hMT | apply And.intro | intro _)
      all_goals first | rfl | omega | assumption | decide +kernel
    · rw [handR, if_neg (by rw [hmg]; exact k1), if_pos (by rw [hmg]; exact k2)]
      repeat' (first | exact hT | exact hMT | apply And.intro | intro _)
      all_goals first | rfl | omega | assumption | decide +kernel
    · rw [handR, if_neg (by rw [hmg]; exact k1), if_neg (by rw [hmg]; exact k2), if_pos (by rw [hmg]; exact k3)]
      repeat' (first | exact hT | exact hMT | apply And.intro | intro _)
      all_goals first | rfl | omega | assumption | decide +kernel
    · rw [handR, if_neg (by rw [hmg]; exact k1), if_neg (by rw [hmg]; exact k2), if_neg (by rw [hmg]; exact k3)]
      repeat' (first | exact hT | exact hMT | apply And.intro | intro _)
      all_goals first | rfl | omega | assumption | decide +kernel

def c_l08Take : FSpec := ⟨[(.rd, .agg [.int .i64, .int .i64, .int .i64, .int .i64, .int .i64, .bool, .list (.agg [.int .i64, .str]), .int .i64, .int .i64, .int .i64, .list (.int .i64), .list (.int .i64), .list (.int .i64)]), (.rd, .agg [.int .i64, .int .i64, .int .i64, .int .i64, .int .i64, .int .i64, .int .i64, .bool, .list (.agg [.int .i64, .str])])], [.agg [.int .i64, .int .i64, .int .i64, .int .i64, .int .i64, .bool, .list (.agg [.int .i64, .str]), .int .i64, .int .i64, .int .i64, .list (.int .i64), .list (.int .i64), .list (.int .i64)], .list (.agg [.int .i64, .int .i64, .int .i64, .int .i64, .int .i64, .int .i64, .int .i64, .bool, .list (.agg [.int .i64, .str])])], true, fun ps => NdF (ndOf (nth ps 0).A) ∧ MgF (ndOf (nth ps 0).A) (mgOf (nth ps 1).A) ∧ (nth (nth ps 0).A 10).L.length ≤ 1048576,
  fun ps => [(handR (newT (ndOf (nth ps 0).A) (nth (nth ps 1).A 3).I) (mgOf (nth ps 1).A)).1.pv, .list (handR (newT (ndOf (nth ps 0).A) (nth (nth ps 1).A 3).I) (mgOf (nth ps 1).A)).2], fun _ => []⟩
theorem k_l08Take : FnOk Try.prog 77 c_l08Take := by
  refine fn_mk [0, 1, 2, 3, 4, 5, 6] [.cell 4 41, .tmp 5] (env_cons (cs := []) k_sTake (env_cons (cs := []) k_l08Own (env_nil (tyTab_ok [])))) mixed Try.func77 rfl (by decide) rfl (by decide) rfl ?_
  intro ps hT hpre W hW
  simp only [c_l08Take, TyA, Ty, Tys] at hT hpre
  obtain ⟨_, _, rfl, ⟨_, rfl, _, _, rfl, ⟨n0, rfl, hn0⟩, _, _, rfl, ⟨n1, rfl, hn1⟩, _, _, rfl, ⟨n2, rfl, hn2⟩, _, _, rfl, ⟨n3, rfl, hn3⟩, _, _, rfl, ⟨n4, rfl, hn4⟩, _, _, rfl, ⟨u, rfl⟩, _, _, rfl, ⟨es, rfl, hes, tes⟩, _, _, rfl, ⟨n5, rfl, hn5⟩, _, _, rfl, ⟨n6, rfl, hn6⟩, _, _, rfl, ⟨n7, rfl, hn7⟩, _, _, rfl, ⟨vs, rfl, hvs, tvs⟩, _, _, rfl, ⟨xs, rfl, hxs, txs⟩, _, _, rfl, ⟨ms, rfl, hms, tms⟩, rfl⟩, _, _, rfl, ⟨_, rfl, _, _, rfl, ⟨m0, rfl, hm0⟩, _, _, rfl, ⟨m1, rfl, hm1⟩, _, _, rfl, ⟨m2, rfl, hm2⟩, _, _, rfl, ⟨m3, rfl, hm3⟩, _, _, rfl, ⟨m4, rfl, hm4⟩, _, _, rfl, ⟨m5, rfl, hm5⟩, _, _, rfl, ⟨m6, rfl, hm6⟩, _, _, rfl, ⟨m7, rfl⟩, _, _, rfl, ⟨m8, rfl, hm8, tm8⟩, rfl⟩, rfl⟩ := hT
  simp only [nth_zero, nth_succ, pv_I, pv_L, pv_A, pv_B, ndOf, mgOf] at hpre
  refine hW.vc [(3, [8], .take 0 <| .take 1 <| .take 2 <| .take 3 <| .take 4 <| .take 5 <| .take 6 <| .alt 7 (.alt 8 (.alt 9 (.done) .stop) .stop) (.alt 8 (.take 7 <| .alt 9 (.done) .stop) .stop))] _ _ ?_
  simp [-List.getD_eq_getElem?_getD, c_l08Take, c_l08Own, c_sTake, c_toNode, c_toNode, ndOf, mgOf, ND.rv, ND.pv]
  obtain ⟨hF, hM, q3⟩ := hpre
  have a1 : es.length ≤ 60 := hF.l6
  have a2 : (xs.length : Int) = n1 := hF.nx
  have a3 : (ms.length : Int) = n1 := hF.ms
  have a4 : n1 ≤ 5 := hF.n5
  exact ⟨⟨by omega, q3, by omega, by omega⟩, ⟨hF, hM⟩, by decide +kernel⟩

def c_sMessageOK : FSpec := c_isMessage
theorem k_sMessageOK : FnOk Try.prog 76 c_sMessageOK := by
  refine fn_mk [0, 1, 2] [.tmp 2] (env_cons (cs := []) k_StateOK (env_cons (cs := []) k_l01In (env_nil (tyTab_ok [])))) mixed Try.func76 rfl (by decide) rfl (by decide) rfl ?_
  intro ps hT hpre W hW
  simp only [c_sMessageOK, TyA, Ty, Tys] at hT hpre
  simp only [c_isMessage, TyA, Ty, Tys] at hT hpre
  obtain ⟨_, _, rfl, ⟨_, rfl, _, _, rfl, ⟨m0, rfl, hm0⟩, _, _, rfl, ⟨m1, rfl, hm1⟩, _, _, rfl, ⟨m2, rfl, hm2⟩, _, _, rfl, ⟨m3, rfl, hm3⟩, _, _, rfl, ⟨m4, rfl, hm4⟩, _, _, rfl, ⟨m5, rfl, hm5⟩, _, _, rfl, ⟨m6, rfl, hm6⟩, _, _, rfl, ⟨m7, rfl⟩, _, _, rfl, ⟨m8, rfl, hm8, tm8⟩, rfl⟩, rfl⟩ := hT
  refine hW.vc [(5, [], .take 0 <| .take 1 <| .take 2 <| .take 3 <| .take 4 <| .take 5 <| .take 6 <| .take 7 <| .take 8 <| .take 9 <| .take 10 <| .take 11 <| .take 12 <| .alt 13 (.take 14 <| .take 15 <| .take 16 <| .take 17 <| .take 18 <| .take 19 <| .take 20 <| .take 21 <| .take 22 <| .take 23 <| .take 24 <| .take 25 <| .take 26 <| .take 27 <| .take 28 <| .take 29 <| .take 30 <| .take 31 <| .take 32 <| .take 33 <| .take 34 <| .take 35 <| .take 36 <| .take 37 <| .take 38 <| .take 39 <| .take 40 <| .alt 41 (.done) .stop) .stop)] _ _ ?_
  simp [-List.getD_eq_getElem?_getD, c_sMessageOK, c_l01In, c_StateOK, c_isMessage, c_within, c_isState, c_within, c_isState, c_isMessage, mgOf]
  refine ⟨fun h => ?_, fun b1 b2 b3 b4 b5 b6 b7 b8 => ⟨fun h _ => ?_, fun h => ⟨by decide +kernel, fun _ _ => ⟨fun a b c => ⟨⟨⟨a, b⟩, c⟩, List.length_pos_iff.2 c⟩, fun _ => ⟨fun a b => ⟨⟨a, b⟩, fun c => ⟨⟨a, b⟩, c⟩⟩, fun a b c => ⟨⟨⟨a, b⟩, c⟩, fun d => ⟨⟨⟨a, b⟩, c⟩, d⟩⟩, ?_⟩⟩⟩⟩⟩
  · have : mgB1 ⟨m0, m1, m2, m3, m4, m5, m6, m7, m8⟩ = false := by
      rcases h with ((((((h | h) | h) | h) | h) | h) | h) | h <;> simp [mgB1, h]
    simp [mgB, this]
  · have h1 : mgB1 ⟨m0, m1, m2, m3, m4, m5, m6, m7, m8⟩ = true := by simp [mgB1, b1, b2, b3, b4, b5, b6, b7, b8]
    have hk : (m0 == 3) = false := by simp [h]
    simp only [mgB, h1, hk, cond_false, Bool.true_and]
    rw [Bool.eq_iff_iff]
    simp
  · have h1 : mgB1 ⟨m0, m1, m2, m3, m4, m5, m6, m7, m8⟩ = true := by simp [mgB1, b1, b2, b3, b4, b5, b6, b7, b8]
    have hk : (m0 == 3) = true := by simp [h]
    rw [wrap64 (n := 60 - m4) (by simp [inB] at b6; omega)]
    have hq : stB m3 0 m8 = entsB m3 m8 := by
      have q1 : inB m3 0 1000 = true := by simp [inB] at b5 ⊢; omega
      have q2 : inB 0 (-1) 4 = true := by decide
      simp [stB, q1, q2]
    simp only [mgB, h1, hk, cond_true, Bool.true_and, mgB2, leB, ltB, hq]
    rw [Bool.eq_iff_iff]
    simp
    exact fun _ _ => And.comm

def c_szMessage : FSpec := ⟨[(.rd, .agg [.int .i64, .int .i64, .int .i64, .int .i64, .int .i64, .int .i64, .int .i64, .bool, .list (.agg [.int .i64, .str])]), (.rd, .int .i64)], [.int .i64], true, fun ps => 0 ≤ (nth ps 1).I, fun ps => [.int .i64 (szGs rowLen (nth (nth ps 0).A 8).L (nth ps 1).I)], fun _ => []⟩
theorem k_szMessage : FnOk Try.prog 43 c_szMessage := by
  refine fn_mk [0, 1, 2, 4] [.tmp 4] (env_cons (cs := []) k_szEntryS (env_nil (tyTab_ok []))) mixed Try.func43 rfl (by decide) rfl (by decide) rfl ?_
  intro ps hT hpre W hW
  simp only [c_szMessage, TyA, Ty, Tys] at hT hpre
  obtain ⟨_, _, rfl, ⟨_, rfl, _, _, rfl, ⟨m0, rfl, hm0⟩, _, _, rfl, ⟨m1, rfl, hm1⟩, _, _, rfl, ⟨m2, rfl, hm2⟩, _, _, rfl, ⟨m3, rfl, hm3⟩, _, _, rfl, ⟨m4, rfl, hm4⟩, _, _, rfl, ⟨m5, rfl, hm5⟩, _, _, rfl, ⟨m6, rfl, hm6⟩, _, _, rfl, ⟨m7, rfl⟩, _, _, rfl, ⟨m8, rfl, hm8, tm8⟩, rfl⟩, _, _, rfl, ⟨l, rfl, hl⟩, rfl⟩ := hT
  simp only [nth_zero, nth_succ, pv_I] at hpre
  have h1 := szGs_le rowLen_nn (es := m8) hpre
  refine hW.vc [] _ _ ?_
  simp [-List.getD_eq_getElem?_getD, c_szMessage, c_szEntryS]
  exact ⟨hpre, fun q => by omega⟩

def c_toMessage : FSpec := ⟨[(.rd, .agg [.int .i64, .int .i64, .int .i64, .int .i64, .int .i64, .int .i64, .int .i64, .bool, .list (.agg [.int .i64, .str])])], [.agg [.int .i64, .int .i64, .int .i64, .int .i64, .int .i64, .int .i64, .int .i64, .bool, .list (.agg [.int .i64, .str])]], true, fun ps => (nth (nth ps 0).A 8).L.length ≤ 1048576, fun ps => [nth ps 0], fun _ => []⟩
theorem k_toMessage : FnOk Try.prog 44 c_toMessage := by
  refine fn_mk [0, 1, 2, 3] [.cell 2 54] (env_cons (cs := []) k_toEntryS (env_nil (tyTab_ok []))) mixed Try.func44 rfl (by decide) rfl (by decide) rfl ?_
  intro ps hT hpre W hW
  simp only [c_toMessage, TyA, Ty, Tys] at hT hpre
  obtain ⟨_, _, rfl, ⟨_, rfl, _, _, rfl, ⟨m0, rfl, hm0⟩, _, _, rfl, ⟨m1, rfl, hm1⟩, _, _, rfl, ⟨m2, rfl, hm2⟩, _, _, rfl, ⟨m3, rfl, hm3⟩, _, _, rfl, ⟨m4, rfl, hm4⟩, _, _, rfl, ⟨m5, rfl, hm5⟩, _, _, rfl, ⟨m6, rfl, hm6⟩, _, _, rfl, ⟨m7, rfl⟩, _, _, rfl, ⟨m8, rfl, hm8, tm8⟩, rfl⟩, rfl⟩ := hT
  simp only [nth_zero, nth_succ, pv_A, pv_L] at hpre
  refine hW.vc [] _ _ ?_
  simp [-List.getD_eq_getElem?_getD, c_toMessage, c_toEntryS]
  exact hpre

def c_markMessage : FSpec := ⟨[(.mt, .agg [.int .i64, .int .i64, .int .i64, .int .i64, .int .i64, .int .i64, .int .i64, .bool, .list (.agg [.int .i64, .str])]), (.rd, .int .i64)], [.int .i64], true, fun ps => 0 ≤ (nth ps 1).I ∧ (nth ps 1).I + 2 * (nth (nth ps 0).A 8).L.length ≤ 1073741823, fun ps => [.int .i64 ((nth ps 1).I + 2 * (nth (nth ps 0).A 8).L.length)],
  fun ps => [.agg [nth (nth ps 0).A 0, nth (nth ps 0).A 1, nth (nth ps 0).A 2, nth (nth ps 0).A 3, nth (nth ps 0).A 4, nth (nth ps 0).A 5, nth (nth ps 0).A 6, nth (nth ps 0).A 7, .list (markR (nth ps 1).I (nth (nth ps 0).A 8).L.length)]]⟩
theorem k_markMessage : FnOk Try.prog 46 c_markMessage := by
  refine fn_mk [0, 1, 2, 4] [.tmp 4] (env_cons (cs := []) k_markEntryS (env_nil (tyTab_ok []))) mixed Try.func46 rfl (by decide) rfl (by decide) rfl ?_
  intro ps hT hpre W hW
  simp only [c_markMessage, TyA, Ty, Tys] at hT hpre
  obtain ⟨_, _, rfl, ⟨_, rfl, _, _, rfl, ⟨m0, rfl, hm0⟩, _, _, rfl, ⟨m1, rfl, hm1⟩, _, _, rfl, ⟨m2, rfl, hm2⟩, _, _, rfl, ⟨m3, rfl, hm3⟩, _, _, rfl, ⟨m4, rfl, hm4⟩, _, _, rfl, ⟨m5, rfl, hm5⟩, _, _, rfl, ⟨m6, rfl, hm6⟩, _, _, rfl, ⟨m7, rfl⟩, _, _, rfl, ⟨m8, rfl, hm8, tm8⟩, rfl⟩, _, _, rfl, ⟨k, rfl, hk⟩, rfl⟩ := hT
  simp only [nth_zero, nth_succ, pv_I, pv_L, pv_A] at hpre
  refine hW.vc [] _ _ ?_
  simp [-List.getD_eq_getElem?_getD, c_markMessage, c_markEntryS]
  exact hpre

end Go.Proofs.Ytmjjdfhpnckacab
end

section
namespace Go.Proofs.Ytmjjdfhpnckacab
set_option maxRecDepth 100000
set_option linter.unusedSimpArgs false

def c_sNodeTake : FSpec := c_iNodeTake
theorem k_sNodeTake : FnOk Try.prog 30 c_sNodeTake := by
  refine fn_mk [0, 1, 2, 3, 4, 5, 6, 7, 8] [.cell 4 41, .tmp 5, .tmp 6] (env_cons (cs := []) k_l08Take (env_cons (cs := []) k_l08Own (env_cons (cs := []) k_sMessageOK (env_cons (cs := []) k_sNodeOK (env_nil (tyTab_ok [])))))) mixed Try.func30 rfl (by decide) rfl (by decide) rfl ?_
  intro ps hT hpre W hW
  simp only [c_sNodeTake, TyA, Ty, Tys] at hT hpre
  simp only [c_iNodeTake, TyA, Ty, Tys] at hT hpre
  obtain ⟨_, _, rfl, ⟨_, rfl, _, _, rfl, ⟨n0, rfl, hn0⟩, _, _, rfl, ⟨n1, rfl, hn1⟩, _, _, rfl, ⟨n2, rfl, hn2⟩, _, _, rfl, ⟨n3, rfl, hn3⟩, _, _, rfl, ⟨n4, rfl, hn4⟩, _, _, rfl, ⟨u, rfl⟩, _, _, rfl, ⟨es, rfl, hes, tes⟩, _, _, rfl, ⟨n5, rfl, hn5⟩, _, _, rfl, ⟨n6, rfl, hn6⟩, _, _, rfl, ⟨n7, rfl, hn7⟩, _, _, rfl, ⟨vs, rfl, hvs, tvs⟩, _, _, rfl, ⟨xs, rfl, hxs, txs⟩, _, _, rfl, ⟨ms, rfl, hms, tms⟩, rfl⟩, _, _, rfl, ⟨_, rfl, _, _, rfl, ⟨m0, rfl, hm0⟩, _, _, rfl, ⟨m1, rfl, hm1⟩, _, _, rfl, ⟨m2, rfl, hm2⟩, _, _, rfl, ⟨m3, rfl, hm3⟩, _, _, rfl, ⟨m4, rfl, hm4⟩, _, _, rfl, ⟨m5, rfl, hm5⟩, _, _, rfl, ⟨m6, rfl, hm6⟩, _, _, rfl, ⟨m7, rfl⟩, _, _, rfl, ⟨m8, rfl, hm8, tm8⟩, rfl⟩, rfl⟩ := hT
  simp only [nth_zero, nth_succ, pv_I, pv_L, pv_A] at hpre
  refine hW.vc [] _ _ ?_
  simp [-List.getD_eq_getElem?_getD, c_sNodeTake, c_sNodeOK, c_sMessageOK, c_l08Own, c_l08Take, c_iNodeTake, c_isNode, c_isMessage, c_toNode, c_isNode, c_isMessage, c_toNode, c_iNodeTake, ndOf, mgOf, ND.pv]
  obtain ⟨nd, hnd⟩ : ∃ nd : ND, nd = ⟨n0, n1, n2, n3, n4, u, es, n5, n6, n7, vs, xs, ms⟩ := ⟨_, rfl⟩
  obtain ⟨mg, hmg⟩ : ∃ mg : MG, mg = ⟨m0, m1, m2, m3, m4, m5, m6, m7, m8⟩ := ⟨_, rfl⟩
  rw [← hnd, ← hmg]
  refine ⟨fun h => ?_, fun h1 h2 => ⟨fun h3 => ?_, fun h3 h4 => ?_⟩⟩
  · have e : tkOf nd mg = (ND.no, [], 1) := by rcases h with h | h <;> simp [tkOf, h]
    rw [e]
    simp [ND.no]
  · have e : tkOf nd mg = (ND.no, [], 4) := by
      have : (decide (mg.to = nd.id) && decide (mg.frm < nd.nodes)) = false := by
        rw [hmg, hnd]
        simp only [Bool.and_eq_false_iff, decide_eq_false_iff_not]
        exact h3.imp id fun h => Int.not_lt.2 h
      simp [tkOf, h1, h2, this]
    rw [e]
    simp [ND.no]
  · have hF := nodeB_F h1
    have hM := mgB_F (n := nd) h2 (by rw [hmg, hnd]; exact h4)
    have f1 : es.length ≤ 60 ∧ (xs.length : Int) ≤ 5 ∧ (ms.length : Int) ≤ 5 := by
      have a1 := hF.l6; have a2 := hF.nx; have a3 := hF.ms; have a4 := hF.n5
      rw [hnd] at a1 a2 a3 a4
      simp only at a1 a2 a3 a4
      exact ⟨a1, by omega, by omega⟩
    have e0 : (decide (mg.to = nd.id) && decide (mg.frm < nd.nodes)) = true := by
      rw [hmg, hnd]
      simp only [Bool.and_eq_true, decide_eq_true_eq]
      exact ⟨h3, h4⟩
    have et : mg.term = m3 := by rw [hmg]
    refine ⟨fun hu => ⟨⟨by omega, hpre, by omega, by omega⟩, ?_⟩, fun hu => ⟨⟨hF, hM, hpre⟩, fun h5 => ⟨⟨by omega, hpre, by omega, by omega⟩, ?_⟩, fun h5 => ?_⟩⟩
    · have e : tkOf nd mg = (nd, [], 13) := by rw [tkOf, h1, h2, e0, show nd.up = false by rw [hnd]; exact hu]; rfl
      rw [e, hnd]; and_intros <;> rfl
    · have e : tkOf nd mg = (nd, [], 3) := by rw [tkOf, h1, h2, e0, show nd.up = true by rw [hnd]; exact hu, et, show nodeB (handR (newT nd m3) mg).1 = false from h5]; rfl
      rw [e, hnd]; and_intros <;> rfl
    · have e : tkOf nd mg = ((handR (newT nd m3) mg).1, (handR (newT nd m3) mg).2, 0) := by rw [tkOf, h1, h2, e0, show nd.up = true by rw [hnd]; exact hu, et, show nodeB (handR (newT nd m3) mg).1 = true from h5]; rfl
      rw [e]; and_intros <;> rfl

end Go.Proofs.Ytmjjdfhpnckacab
end

section
namespace Go.Proofs.Ytmjjdfhpnckacab
set_option maxRecDepth 100000
set_option linter.unusedSimpArgs false

theorem szN_each {n0 n1 n2 n3 n4 n5 n6 n7 : Int} {u : Bool} {es vs xs ms : List PV} {l : Int} (h : 0 ≤ l) (h2 : 0 ≤ szN [.int .i64 n0, .int .i64 n1, .int .i64 n2, .int .i64 n3, .int .i64 n4, .bool u, .list es, .int .i64 n5, .int .i64 n6, .int .i64 n7, .list vs, .list xs, .list ms] l) :
    (es.length : Int) ≤ l ∧ (vs.length : Int) ≤ l ∧ (xs.length : Int) ≤ l ∧ (ms.length : Int) ≤ l := by
  simp only [szN, nth_zero, nth_succ, pv_L] at h2
  unfold szQ at h2
  have a1 := szGs_le rowLen_nn (es := es) h
  split at h2
  · omega
  · rename_i q1
    have a2 := szR1_le (n := vs.length) (Int.not_lt.1 q1)
    split at h2
    · omega
    · rename_i q2
      have a3 := szR1_le (n := xs.length) (Int.not_lt.1 q2)
      split at h2
      · omega
      · rename_i q3
        have a4 := szR1_le (n := ms.length) (Int.not_lt.1 q3)
        omega
theorem sumMs_le {B : Int} : ∀ {es : List PV} {k : Int}, (∀ e ∈ es, msN e ≤ B) → sumMs k es ≤ k + B * es.length
  | [], k, h => by simp [sumMs]
  | e :: es, k, h => by
    have h1 := sumMs_le (es := es) (k := k + msN e) fun x hx => h x (by simp [hx])
    have h2 := h e (by simp)
    simp only [sumMs, List.length_cons, Int.natCast_add, Int.mul_add]
    omega
theorem sumMs_marks : ∀ (es : List PV) (k k' : Int), sumMs k' (markMs k es) = sumMs k' es
  | [], k, k' => rfl
  | e :: es, k, k' => by simp only [markMs, sumMs, msN_mk]; exact sumMs_marks es _ _
theorem repAll_ms (n : ND) : ∀ k, ∀ e ∈ repAll n k, msN e ≤ 8 + 2 * n.log.length
  | 0, e, he => by simp [repAll] at he
  | k + 1, e, he => by
    rw [repAll, List.mem_append] at he
    rcases he with he | he
    · exact repAll_ms n k e he
    · split at he
      · simp at he
      · simp only [List.mem_singleton] at he
        subst he
        simp only [msN, repV, repM, nth_zero, nth_succ, pv_A, pv_L, List.length_drop]
        omega
theorem voteAll_ms (n : ND) : ∀ k, ∀ e ∈ voteAll n k, msN e ≤ 8
  | 0, e, he => by simp [voteAll] at he
  | k + 1, e, he => by
    rw [voteAll, List.mem_append] at he
    rcases he with he | he
    · exact voteAll_ms n k e he
    · split at he
      · simp at he
      · simp only [List.mem_singleton] at he
        subst he
        simp [msN, voteM, nth_zero, nth_succ, pv_A, pv_L]
theorem vo_len {n : Int} : ∀ {es : List PV} {p : Int}, voB n p es = true → p ≤ n - 1 → p + es.length ≤ n - 1
  | [], p, h, hp => by simp; omega
  | e :: es, p, h, hp => by
    simp only [voB, inB, Bool.and_eq_true, decide_eq_true_eq] at h
    have := vo_len h.2 (by omega)
    simp only [List.length_cons]
    omega
/-- What a tick gives is small. -/
def smallR (r : ND × List PV) : Prop := r.1.log.length ≤ 61 ∧ r.1.vs.length ≤ 5 ∧ r.1.nx.length ≤ 5 ∧ r.1.ms.length ≤ 5 ∧ ∀ k, sumMs k r.2 ≤ k + 1000
theorem small_nil {n : ND} (h1 : n.log.length ≤ 61) (h2 : n.vs.length ≤ 5) (h3 : n.nx.length ≤ 5) (h4 : n.ms.length ≤ 5) : smallR (n, []) := ⟨h1, h2, h3, h4, fun k => by simp [sumMs]; omega⟩
theorem small_rep {n : ND} {k : Nat} (hk : k ≤ 5) (h1 : n.log.length ≤ 61) (h2 : n.vs.length ≤ 5) (h3 : n.nx.length ≤ 5) (h4 : n.ms.length ≤ 5) : smallR (n, repAll n k) := by
  refine ⟨h1, h2, h3, h4, fun j => ?_⟩
  have a1 := sumMs_le (k := j) (B := 130) (fun e he => Int.le_trans (repAll_ms n k e he) (by omega))
  have a2 := repAll_len n k
  show sumMs j (repAll n k) ≤ _
  omega
theorem tick_small {n : ND} {d : Int} (h : NdF n) : smallR (tickN n d) := by
  have f1 := h.n1; have f5 := h.n5; have l6 := h.l6; have nx := h.nx; have ms := h.ms
  have vl := vo_len h.vo (by omega)
  by_cases q1 : n.role = 2
  · by_cases q2 : (elaN n).ela < 2
    · rw [tick_a q1 q2]
      exact small_nil (n := elaN n) (by show n.log.length ≤ 61; omega) (by show n.vs.length ≤ 5; omega) (by show n.nx.length ≤ 5; omega) (by show n.ms.length ≤ 5; omega)
    · rw [tick_b q1 q2]
      exact small_rep (by omega) (by show n.log.length ≤ 61; omega) (by show n.vs.length ≤ 5; omega) (by show n.nx.length ≤ 5; omega) (by show n.ms.length ≤ 5; omega)
  · by_cases q2 : (elaN n).ela < n.wt ∨ n.term = 1000
    · rw [tick_c q1 q2]
      exact small_nil (n := elaN n) (by show n.log.length ≤ 61; omega) (by show n.vs.length ≤ 5; omega) (by show n.nx.length ≤ 5; omega) (by show n.ms.length ≤ 5; omega)
    · by_cases q3 : n.nodes = 1
      · rw [tick_d q1 q2 q3]
        have a1 := leadL_len (n.term + 1) n.log
        refine small_rep (by omega) ?_ ?_ ?_ ?_
        · show (leadL (n.term + 1) n.log).length ≤ 61; omega
        · show [PV.int .i64 n.id].length ≤ 5; simp
        · show (List.replicate n.nodes.toNat _).length ≤ 5; rw [List.length_replicate]; omega
        · show (List.replicate n.nodes.toNat _).length ≤ 5; rw [List.length_replicate]; omega
      · rw [tick_e q1 q2 q3]
        refine ⟨?_, ?_, ?_, ?_, fun j => ?_⟩
        · show n.log.length ≤ 61; omega
        · show [PV.int .i64 n.id].length ≤ 5; simp
        · show n.nx.length ≤ 5; omega
        · show n.ms.length ≤ 5; omega
        · have a1 := sumMs_le (k := j) (B := 8) (voteAll_ms (standN n d) n.nodes.toNat)
          have a2 := voteAll_len (standN n d) n.nodes.toNat
          show sumMs j (voteAll (standN n d) n.nodes.toNat) ≤ _
          omega
theorem nt_small {n : ND} {d : Int} : smallR ((ntOf n d).1, (ntOf n d).2.1) := by
  unfold ntOf
  cases h : nodeB n with
  | false => exact small_nil (n := ND.no) (by decide) (by decide) (by decide) (by decide)
  | true =>
    have hF := nodeB_F h
    cases h2 : inB d 0 1000000 with
    | false => exact small_nil (n := ND.no) (by decide) (by decide) (by decide) (by decide)
    | true =>
      cases h3 : n.up with
      | false =>
        have f1 := hF.n1; have f5 := hF.n5; have l6 := hF.l6; have nx := hF.nx; have ms := hF.ms
        have vl := vo_len hF.vo (by omega)
        show smallR (n, [])
        exact small_nil (by omega) (by omega) (by omega) (by omega)
      | true => exact tick_small hF

def c_exNodeTick : FSpec := ⟨[(.rd, .agg [.int .i64, .int .i64, .int .i64, .int .i64, .int .i64, .bool, .list (.agg [.int .i64, .str]), .int .i64, .int .i64, .int .i64, .list (.int .i64), .list (.int .i64), .list (.int .i64)]), (.rd, .int .i64)], [.bool], true, fun _ => True, fun _ => [.bool true], fun _ => []⟩
theorem k_exNodeTick : FnOk Try.prog 4 c_exNodeTick := by
  refine fn_mk [0, 1, 2, 4, 5, 6, 7, 8, 9, 10, 11, 12, 13, 14, 15, 16, 17, 18] [.tmp 4] (env_cons (cs := []) k_heldMessageS (env_cons (cs := []) k_heldNode (env_cons (cs := []) k_markMessageS (env_cons (cs := []) k_markNode (env_cons (cs := []) k_eqMessageS (env_cons (cs := []) k_eqNode (env_cons (cs := []) k_iNodeTick (env_cons (cs := []) k_sNodeTick (env_cons (cs := []) k_toNode (env_cons (cs := []) k_szNode (env_nil (tyTab_ok [])))))))))))) mixed Try.func4 rfl (by decide) rfl (by decide) rfl ?_
  intro ps hT hpre W hW
  simp only [c_exNodeTick, TyA, Ty, Tys] at hT hpre
  obtain ⟨_, _, rfl, ⟨_, rfl, _, _, rfl, ⟨n0, rfl, hn0⟩, _, _, rfl, ⟨n1, rfl, hn1⟩, _, _, rfl, ⟨n2, rfl, hn2⟩, _, _, rfl, ⟨n3, rfl, hn3⟩, _, _, rfl, ⟨n4, rfl, hn4⟩, _, _, rfl, ⟨u, rfl⟩, _, _, rfl, ⟨es, rfl, hes, tes⟩, _, _, rfl, ⟨n5, rfl, hn5⟩, _, _, rfl, ⟨n6, rfl, hn6⟩, _, _, rfl, ⟨n7, rfl, hn7⟩, _, _, rfl, ⟨vs, rfl, hvs, tvs⟩, _, _, rfl, ⟨xs, rfl, hxs, txs⟩, _, _, rfl, ⟨ms, rfl, hms, tms⟩, rfl⟩, _, _, rfl, ⟨d, rfl, hd⟩, rfl⟩ := hT
  have hs := nt_small (n := ⟨n0, n1, n2, n3, n4, u, es, n5, n6, n7, vs, xs, ms⟩) (d := d)
  refine hW.vc [(10, [], .take 0 <| .take 1 <| .alt 2 (.alt 3 (.take 4 <| .done) .stop) .stop)] _ _ ?_
  simp [-List.getD_eq_getElem?_getD, c_exNodeTick, c_szNode, c_toNode, c_sNodeTick, c_iNodeTick, c_eqNode, c_eqMessageS, c_markNode, c_markMessageS, c_heldNode, c_heldMessageS, ND.pv, ndOf, c_iNodeTick, eqNd_refl, eqMs_refl, heldN_mark, markR_len, markI_len, markMs_len, heldMs_mark, sumMs_marks]
  intro h1
  obtain ⟨h2, h3, h4, h5⟩ := szN_each (by omega) h1
  obtain ⟨r, hr⟩ : ∃ r, r = ntOf ⟨n0, n1, n2, n3, n4, u, es, n5, n6, n7, vs, xs, ms⟩ d := ⟨_, rfl⟩
  rw [← hr] at hs ⊢
  obtain ⟨b1, b2, b3, b4, b5⟩ := hs
  simp only at b1 b2 b3 b4 b5
  have c1 := b5 (1 + 2 * (r.1.log.length : Int) + r.1.vs.length + r.1.nx.length + r.1.ms.length)
  have c2 := sumMs_ge r.2.1 (1 + 2 * (r.1.log.length : Int) + r.1.vs.length + r.1.nx.length + r.1.ms.length)
  clear b5
  repeat' (first | refine And.intro ?_ ?_ | intro _)
  all_goals first | omega | decide +kernel | trace_state

end Go.Proofs.Ytmjjdfhpnckacab
end

section
namespace Go.Proofs.Ytmjjdfhpnckacab
set_option maxRecDepth 100000
set_option linter.unusedSimpArgs false

theorem hand_ms (n : ND) (m : MG) : ((handR n m).2.length : Int) ≤ 1 ∨ (handR n m).2.length ≤ (handR n m).1.nodes.toNat := by
  unfold handR
  split
  · exact .inl (by simp)
  · split
    · unfold elecR
      split
      · exact .inl (by simp)
      · split
        · exact .inr (repAll_len _ _)
        · exact .inl (by simp)
    · split
      · exact .inl (by simp)
      · unfold ansR
        split
        · exact .inl (by simp)
        · split
          · exact .inl (by simp)
          · exact .inl (by simp)
theorem hand_mb (n : ND) (m : MG) : ∀ e ∈ (handR n m).2, msN e ≤ 8 + 2 * (handR n m).1.log.length := by
  have e8 : ∀ {k : Nat}, (8 : Int) + 2 * ((([] : List PV).length : Nat) : Int) ≤ 8 + 2 * (k : Int) := by intro k; simp; omega
  unfold handR
  split
  · intro e he
    simp only [List.mem_singleton] at he
    subst he
    simp only [msN, votM, nth_zero, nth_succ, pv_A, pv_L]
    exact e8
  · split
    · unfold elecR
      split
      · intro e he; simp at he
      · split
        · exact repAll_ms _ _
        · intro e he; simp at he
    · split
      · intro e he
        simp only [List.mem_singleton] at he
        subst he
        simp only [msN, takeM, nth_zero, nth_succ, pv_A, pv_L]
        exact e8
      · unfold ansR
        split
        · intro e he; simp at he
        · split
          · intro e he; simp at he
          · intro e he
            simp only [List.mem_singleton] at he
            subst he
            simp only [msN, repV, repM, nth_zero, nth_succ, pv_A, pv_L, List.length_drop]
            omega
theorem hand_small {n : ND} {m : MG} (h : NdF (handR n m).1) : smallR (handR n m) := by
  have f1 := h.n1; have f5 := h.n5; have l6 := h.l6; have nx := h.nx; have ms := h.ms
  have vl := vo_len h.vo (by omega)
  refine ⟨by omega, by omega, by omega, by omega, fun k => ?_⟩
  have a1 := sumMs_le (k := k) (B := 128) (fun e he => Int.le_trans (hand_mb n m e he) (by omega))
  have a2 := hand_ms n m
  omega
theorem tk_small {n : ND} {m : MG} : smallR ((tkOf n m).1, (tkOf n m).2.1) := by
  unfold tkOf
  cases h : nodeB n with
  | false => exact small_nil (n := ND.no) (by decide) (by decide) (by decide) (by decide)
  | true =>
    have hF := nodeB_F h
    have f1 := hF.n1; have f5 := hF.n5; have l6 := hF.l6; have nx := hF.nx; have ms := hF.ms
    have vl := vo_len hF.vo (by omega)
    cases h2 : mgB m with
    | false => exact small_nil (n := ND.no) (by decide) (by decide) (by decide) (by decide)
    | true =>
      cases h3 : (decide (m.to = n.id) && decide (m.frm < n.nodes)) with
      | false => exact small_nil (n := ND.no) (by decide) (by decide) (by decide) (by decide)
      | true =>
        cases h4 : n.up with
        | false => exact small_nil (n := n) (by omega) (by omega) (by omega) (by omega)
        | true =>
          cases h5 : nodeB (handR (newT n m.term) m).1 with
          | false => exact small_nil (n := n) (by omega) (by omega) (by omega) (by omega)
          | true => exact hand_small (nodeB_F h5)

theorem szN_up {v : List PV} {l : Int} (h : 0 ≤ l) : szN v l ≤ l := by
  have a1 := szGs_le rowLen_nn (es := (nth v 6).L) h
  unfold szN szQ
  split
  · omega
  · rename_i q1
    have a2 := szR1_le (n := (nth v 10).L.length) (Int.not_lt.1 q1)
    split
    · omega
    · rename_i q2
      have a3 := szR1_le (n := (nth v 11).L.length) (Int.not_lt.1 q2)
      split
      · omega
      · rename_i q3
        have a4 := szR1_le (n := (nth v 12).L.length) (Int.not_lt.1 q3)
        omega

def c_exNodeTake : FSpec := ⟨[(.rd, .agg [.int .i64, .int .i64, .int .i64, .int .i64, .int .i64, .bool, .list (.agg [.int .i64, .str]), .int .i64, .int .i64, .int .i64, .list (.int .i64), .list (.int .i64), .list (.int .i64)]), (.rd, .agg [.int .i64, .int .i64, .int .i64, .int .i64, .int .i64, .int .i64, .int .i64, .bool, .list (.agg [.int .i64, .str])])], [.bool], true, fun _ => True, fun _ => [.bool true], fun _ => []⟩
set_option maxHeartbeats 4000000 in
theorem k_exNodeTake : FnOk Try.prog 7 c_exNodeTake := by
  refine fn_mk [0, 1, 2, 3, 4, 5, 6, 7, 8, 9, 10, 11, 12, 13, 14, 15, 16, 17, 18, 19] [.tmp 4] (env_cons (cs := []) k_heldMessageS (env_cons (cs := []) k_heldNode (env_cons (cs := []) k_markMessageS (env_cons (cs := []) k_markMessage (env_cons (cs := []) k_markNode (env_cons (cs := []) k_eqMessageS (env_cons (cs := []) k_eqMessage (env_cons (cs := []) k_eqNode (env_cons (cs := []) k_iNodeTake (env_cons (cs := []) k_sNodeTake (env_cons (cs := []) k_toMessage (env_cons (cs := []) k_toNode (env_cons (cs := []) k_szMessage (env_cons (cs := []) k_szNode (env_nil (tyTab_ok [])))))))))))))))) mixed Try.func7 rfl (by decide) rfl (by decide) rfl ?_
  intro ps hT hpre W hW
  simp only [c_exNodeTake, TyA, Ty, Tys] at hT hpre
  obtain ⟨_, _, rfl, ⟨_, rfl, _, _, rfl, ⟨n0, rfl, hn0⟩, _, _, rfl, ⟨n1, rfl, hn1⟩, _, _, rfl, ⟨n2, rfl, hn2⟩, _, _, rfl, ⟨n3, rfl, hn3⟩, _, _, rfl, ⟨n4, rfl, hn4⟩, _, _, rfl, ⟨u, rfl⟩, _, _, rfl, ⟨es, rfl, hes, tes⟩, _, _, rfl, ⟨n5, rfl, hn5⟩, _, _, rfl, ⟨n6, rfl, hn6⟩, _, _, rfl, ⟨n7, rfl, hn7⟩, _, _, rfl, ⟨vs, rfl, hvs, tvs⟩, _, _, rfl, ⟨xs, rfl, hxs, txs⟩, _, _, rfl, ⟨ms, rfl, hms, tms⟩, rfl⟩, _, _, rfl, ⟨_, rfl, _, _, rfl, ⟨m0, rfl, hm0⟩, _, _, rfl, ⟨m1, rfl, hm1⟩, _, _, rfl, ⟨m2, rfl, hm2⟩, _, _, rfl, ⟨m3, rfl, hm3⟩, _, _, rfl, ⟨m4, rfl, hm4⟩, _, _, rfl, ⟨m5, rfl, hm5⟩, _, _, rfl, ⟨m6, rfl, hm6⟩, _, _, rfl, ⟨m7, rfl⟩, _, _, rfl, ⟨m8, rfl, hm8, tm8⟩, rfl⟩, rfl⟩ := hT
  have hs := tk_small (n := ⟨n0, n1, n2, n3, n4, u, es, n5, n6, n7, vs, xs, ms⟩) (m := ⟨m0, m1, m2, m3, m4, m5, m6, m7, m8⟩)
  refine hW.vc [(8, [10], .take 0 <| .take 2 <| .alt 1 (.alt 3 (.alt 4 (.take 5 <| .take 6 <| .alt 7 (.alt 8 (.alt 9 (.alt 10 (.alt 11 (.alt 12 (.done) .stop) .stop) .stop) .stop) (.alt 9 (.alt 8 (.alt 10 (.alt 11 (.alt 12 (.done) .stop) .stop) .stop) (.alt 10 (.take 8 <| .alt 11 (.alt 12 (.done) .stop) .stop) .stop)) .stop)) (.alt 8 (.alt 7 (.alt 9 (.alt 10 (.alt 11 (.alt 12 (.done) .stop) .stop) .stop) .stop) (.alt 9 (.alt 7 (.alt 10 (.alt 11 (.alt 12 (.done) .stop) .stop) .stop) (.alt 10 (.take 7 <| .alt 11 (.alt 12 (.done) .stop) .stop) .stop)) .stop)) (.alt 9 (.alt 7 (.alt 8 (.alt 10 (.alt 11 (.alt 12 (.done) .stop) .stop) .stop) (.alt 10 (.take 8 <| .alt 11 (.alt 12 (.done) .stop) .stop) .stop)) (.alt 8 (.alt 7 (.alt 10 (.alt 11 (.alt 12 (.done) .stop) .stop) .stop) (.alt 10 (.take 7 <| .alt 11 (.alt 12 (.done) .stop) .stop) .stop)) (.alt 10 (.take 7 <| .take 8 <| .alt 11 (.alt 12 (.done) .stop) .stop) .stop))) .stop))) (.alt 9 (.alt 4 (.take 5 <| .take 6 <| .alt 7 (.alt 8 (.alt 10 (.alt 11 (.alt 12 (.done) .stop) .stop) .stop) (.alt 10 (.take 8 <| .alt 11 (.alt 12 (.done) .stop) .stop) .stop)) (.alt 8 (.alt 7 (.alt 10 (.alt 11 (.alt 12 (.done) .stop) .stop) .stop) (.alt 10 (.take 7 <| .alt 11 (.alt 12 (.done) .stop) .stop) .stop)) (.alt 10 (.take 7 <| .take 8 <| .alt 11 (.alt 12 (.done) .stop) .stop) .stop))) .stop) .stop)) (.alt 9 (.alt 3 (.alt 4 (.take 5 <| .take 6 <| .alt 7 (.alt 8 (.alt 10 (.alt 11 (.alt 12 (.done) .stop) .stop) .stop) (.alt 10 (.take 8 <| .alt 11 (.alt 12 (.done) .stop) .stop) .stop)) (.alt 8 (.alt 7 (.alt 10 (.alt 11 (.alt 12 (.done) .stop) .stop) .stop) (.alt 10 (.take 7 <| .alt 11 (.alt 12 (.done) .stop) .stop) .stop)) (.alt 10 (.take 7 <| .take 8 <| .alt 11 (.alt 12 (.done) .stop) .stop) .stop))) .stop) .stop) .stop)) (.alt 9 (.alt 1 (.alt 3 (.alt 4 (.take 5 <| .take 6 <| .alt 7 (.alt 8 (.alt 10 (.alt 11 (.alt 12 (.done) .stop) .stop) .stop) (.alt 10 (.take 8 <| .alt 11 (.alt 12 (.done) .stop) .stop) .stop)) (.alt 8 (.alt 7 (.alt 10 (.alt 11 (.alt 12 (.done) .stop) .stop) .stop) (.alt 10 (.take 7 <| .alt 11 (.alt 12 (.done) .stop) .stop) .stop)) (.alt 10 (.take 7 <| .take 8 <| .alt 11 (.alt 12 (.done) .stop) .stop) .stop))) .stop) .stop) .stop) .stop)), (14, [], .take 0 <| .take 1 <| .alt 2 (.alt 3 (.take 4 <| .done) .stop) .stop), (16, [], .take 0 <| .take 1 <| .alt 2 (.alt 3 (.take 4 <| .done) .stop) .stop), (35, [10], .take 0 <| .take 2 <| .alt 1 (.alt 3 (.alt 4 (.take 5 <| .take 6 <| .alt 7 (.alt 8 (.alt 9 (.alt 10 (.alt 11 (.alt 12 (.done) .stop) .stop) .stop) .stop) (.alt 9 (.alt 8 (.alt 10 (.alt 11 (.alt 12 (.done) .stop) .stop) .stop) (.alt 10 (.take 8 <| .alt 11 (.alt 12 (.done) .stop) .stop) .stop)) .stop)) (.alt 8 (.alt 7 (.alt 9 (.alt 10 (.alt 11 (.alt 12 (.done) .stop) .stop) .stop) .stop) (.alt 9 (.alt 7 (.alt 10 (.alt 11 (.alt 12 (.done) .stop) .stop) .stop) (.alt 10 (.take 7 <| .alt 11 (.alt 12 (.done) .stop) .stop) .stop)) .stop)) (.alt 9 (.alt 7 (.alt 8 (.alt 10 (.alt 11 (.alt 12 (.done) .stop) .stop) .stop) (.alt 10 (.take 8 <| .alt 11 (.alt 12 (.done) .stop) .stop) .stop)) (.alt 8 (.alt 7 (.alt 10 (.alt 11 (.alt 12 (.done) .stop) .stop) .stop) (.alt 10 (.take 7 <| .alt 11 (.alt 12 (.done) .stop) .stop) .stop)) (.alt 10 (.take 7 <| .take 8 <| .alt 11 (.alt 12 (.done) .stop) .stop) .stop))) .stop))) (.alt 9 (.alt 4 (.take 5 <| .take 6 <| .alt 7 (.alt 8 (.alt 10 (.alt 11 (.alt 12 (.done) .stop) .stop) .stop) (.alt 10 (.take 8 <| .alt 11 (.alt 12 (.done) .stop) .stop) .stop)) (.alt 8 (.alt 7 (.alt 10 (.alt 11 (.alt 12 (.done) .stop) .stop) .stop) (.alt 10 (.take 7 <| .alt 11 (.alt 12 (.done) .stop) .stop) .stop)) (.alt 10 (.take 7 <| .take 8 <| .alt 11 (.alt 12 (.done) .stop) .stop) .stop))) .stop) .stop)) (.alt 9 (.alt 3 (.alt 4 (.take 5 <| .take 6 <| .alt 7 (.alt 8 (.alt 10 (.alt 11 (.alt 12 (.done) .stop) .stop) .stop) (.alt 10 (.take 8 <| .alt 11 (.alt 12 (.done) .stop) .stop) .stop)) (.alt 8 (.alt 7 (.alt 10 (.alt 11 (.alt 12 (.done) .stop) .stop) .stop) (.alt 10 (.take 7 <| .alt 11 (.alt 12 (.done) .stop) .stop) .stop)) (.alt 10 (.take 7 <| .take 8 <| .alt 11 (.alt 12 (.done) .stop) .stop) .stop))) .stop) .stop) .stop)) (.alt 9 (.alt 1 (.alt 3 (.alt 4 (.take 5 <| .take 6 <| .alt 7 (.alt 8 (.alt 10 (.alt 11 (.alt 12 (.done) .stop) .stop) .stop) (.alt 10 (.take 8 <| .alt 11 (.alt 12 (.done) .stop) .stop) .stop)) (.alt 8 (.alt 7 (.alt 10 (.alt 11 (.alt 12 (.done) .stop) .stop) .stop) (.alt 10 (.take 7 <| .alt 11 (.alt 12 (.done) .stop) .stop) .stop)) (.alt 10 (.take 7 <| .take 8 <| .alt 11 (.alt 12 (.done) .stop) .stop) .stop))) .stop) .stop) .stop) .stop))] _ _ ?_
  simp (config := { maxSteps := 2000000 }) [-List.getD_eq_getElem?_getD, c_exNodeTake, c_szNode, c_szMessage, c_toNode, c_toMessage, c_sNodeTake, c_iNodeTake, c_eqNode, c_eqMessage, c_eqMessageS, c_markNode, c_markMessage, c_markMessageS, c_heldNode, c_heldMessageS, ND.pv, ndOf, mgOf, c_iNodeTake, eqNd_refl, eqMg_refl, eqMs_refl, heldN_mark, markR_len, markI_len, markMs_len, heldMs_mark, sumMs_marks]
  intro h0
  refine ⟨h0, fun h1 => ?_⟩
  obtain ⟨h2, h3, h4, h5⟩ := szN_each (by omega) h0
  have h6 := (szGs_le rowLen_nn (es := m8) h0).2.2 h1
  have h7 := szN_up (v := [.int .i64 n0, .int .i64 n1, .int .i64 n2, .int .i64 n3, .int .i64 n4, .bool u, .list es, .int .i64 n5, .int .i64 n6, .int .i64 n7, .list vs, .list xs, .list ms]) (l := 1048576) (by omega)
  obtain ⟨r, hr⟩ : ∃ r, r = tkOf ⟨n0, n1, n2, n3, n4, u, es, n5, n6, n7, vs, xs, ms⟩ ⟨m0, m1, m2, m3, m4, m5, m6, m7, m8⟩ := ⟨_, rfl⟩
  rw [← hr] at hs ⊢
  obtain ⟨b1, b2, b3, b4, b5⟩ := hs
  simp only at b1 b2 b3 b4 b5
  have c1 := b5 (1 + 2 * (r.1.log.length : Int) + r.1.vs.length + r.1.nx.length + r.1.ms.length)
  have c2 := sumMs_ge r.2.1 (1 + 2 * (r.1.log.length : Int) + r.1.vs.length + r.1.nx.length + r.1.ms.length)
  clear b5
  repeat' (first | refine And.intro ?_ ?_ | intro _)
  all_goals first | omega | decide +kernel

end Go.Proofs.Ytmjjdfhpnckacab
end

