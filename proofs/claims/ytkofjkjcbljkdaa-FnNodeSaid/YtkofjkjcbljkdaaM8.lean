/-
  Part 8 of the proof of FnNode: a verification-condition generator over the program and the contracts of its functions, in the order of their use.
  Conditions: none.
-/
import Derived.Test.YtkofjkjcbljkdaaM7
import Derived.Shelf.Spec.SlicesInsertGrow
set_option linter.unusedVariables false
set_option linter.unusedSimpArgs false
set_option linter.unusedSectionVars false

section
namespace Go.Proofs.Ytkofjkjcbljkdaa
variable [LaidG]
set_option maxRecDepth 100000
set_option linter.unusedSimpArgs false

def c_l08Nodes : FSpec := ⟨[(.rd, .int .i64)], [.bool], true, fun _ => True, fun ps => [.bool (inB (nth ps 0).I 1 5)], fun _ => []⟩
theorem k_l08Nodes : FnOk Try.prog 75 c_l08Nodes := by
  refine fn_mk [0, 2] [.tmp 2] (env_cons (cs := []) k_l01In (env_nil (tyTab_ok []))) mixed Try.func75 rfl (by decide) rfl (by decide) rfl ?_
  intro ps hT hpre W hW
  simp only [c_l08Nodes, TyA, Ty, Tys] at hT hpre
  obtain ⟨_, _, rfl, ⟨n, rfl, hn⟩, rfl⟩ := hT
  refine hW.vc [] _ _ ?_
  simp [-List.getD_eq_getElem?_getD, c_l08Nodes, c_l01In, c_within, c_within]

def c_l07Entry : FSpec := ⟨[(.rd, .agg [.int .i64, .str])], [.bool], true, fun _ => True, fun ps => [.bool (inB (nth (nth ps 0).A 0).I 1 1000 && leB (nth (nth ps 0).A 1).S.length 400)], fun _ => []⟩
theorem k_l07Entry : FnOk Try.prog 113 c_l07Entry := by
  refine fn_mk [0, 1, 2] [.tmp 2] (env_cons (cs := []) k_l01In (env_nil (tyTab_ok []))) mixed Try.func113 rfl (by decide) rfl (by decide) rfl ?_
  intro ps hT hpre W hW
  simp only [c_l07Entry, TyA, Ty, Tys] at hT hpre
  obtain ⟨_, _, rfl, ⟨_, rfl, _, _, rfl, ⟨y, rfl, hy⟩, _, _, rfl, ⟨c, rfl, hc⟩, rfl⟩, rfl⟩ := hT
  refine hW.vc [] _ _ ?_
  simp [-List.getD_eq_getElem?_getD, c_l07Entry, c_l01In, c_within, c_within, leB]
  exact fun _ => rfl

def c_StateOK : FSpec := c_isState
theorem k_StateOK : FnOk Try.prog 76 c_StateOK := by
  refine fn_mk [0, 1, 2, 3] [.tmp 2] (env_cons (cs := []) k_l07Entry (env_cons (cs := []) k_l01In (env_nil (tyTab_ok [])))) mixed Try.func76 rfl (by decide) rfl (by decide) rfl ?_
  intro ps hT hpre W hW
  simp only [c_StateOK, TyA, Ty, Tys] at hT hpre
  simp only [c_isState, TyA, Ty, Tys] at hT hpre
  obtain ⟨_, _, rfl, ⟨_, rfl, _, _, rfl, ⟨t, rfl, ht⟩, _, _, rfl, ⟨v, rfl, hv⟩, _, _, rfl, ⟨es, rfl, hes, tes⟩, rfl⟩, rfl⟩ := hT
  refine hW.vc [(6, [], .take 0 <| .take 1 <| .take 2 <| .take 3 <| .take 4 <| .alt 5 (.take 6 <| .take 7 <| .take 8 <| .take 9 <| .take 10 <| .take 11 <| .take 12 <| .take 13 <| .take 14 <| .take 15 <| .take 16 <| .take 17 <| .take 18 <| .take 19 <| .take 20 <| .take 21 <| .take 22 <| .take 23 <| .take 24 <| .take 25 <| .take 26 <| .take 27 <| .take 28 <| .take 29 <| .take 30 <| .take 31 <| .take 32 <| .take 33 <| .take 34 <| .take 35 <| .take 36 <| .take 37 <| .done) .stop)] _ _ ?_
  simp [-List.getD_eq_getElem?_getD, c_StateOK, c_l01In, c_l07Entry, c_isState, c_within, c_within]
  refine fun _ => ⟨fun h => ?_, fun h1 h2 h3 => ?_⟩
  · rcases h with (h | h) | h
    · simp [stB, h]
    · simp [stB, h]
    · have : ¬ (es.length : Int) ≤ 60 := by omega
      simp [stB, entsB, leB, this]
  have hq : stB t v es = entB t 0 es := by simp [stB, entsB, leB, h1, h2, h3]
  refine hW.loopS _ _ _ [.sl 3 .dp (.int .i64)] (fun ys => ∃ i : Nat, ys = [.int .i64 i] ∧ i ≤ es.length ∧ entB t 0 es = entB t (pvE es i) (es.drop i)) (fun ys => es.length - (nth ys 0).I.toNat) ?_ ?_
  · simp [-List.getD_eq_getElem?_getD, c_StateOK, c_l01In, c_l07Entry, c_isState, c_within]
    exact ⟨0, rfl, by simp, by simp [pvE]⟩
  · rintro ys ⟨i, rfl, g1, g2⟩
    refine hW.vc [(6, [], .take 0 <| .take 1 <| .take 2 <| .take 3 <| .take 4 <| .alt 5 (.take 6 <| .take 7 <| .take 8 <| .take 9 <| .take 10 <| .take 11 <| .take 12 <| .take 13 <| .take 14 <| .take 15 <| .take 16 <| .take 17 <| .take 18 <| .take 19 <| .take 20 <| .take 21 <| .take 22 <| .take 23 <| .take 24 <| .take 25 <| .take 26 <| .take 27 <| .take 28 <| .take 29 <| .take 30 <| .take 31 <| .take 32 <| .take 33 <| .take 34 <| .take 35 <| .take 36 <| .take 37 <| .done) .stop)] _ _ ?_
    simp [-List.getD_eq_getElem?_getD, c_StateOK, c_l01In, c_l07Entry, c_isState, c_within, c_within]
    have k2 : 0 < i → (IntKind.i64.wrap ((i : Int) - 1)).toNat = i - 1 := fun h => by rw [wrap64 (by omega)]; omega
    have k3 : 0 < i → IntKind.i64.wrap ((i : Int) - 1) = i - 1 := fun h => wrap64 (by omega)
    have k0 : inB t 0 1000 = true → t ≤ 1000 := fun h => by simp [inB] at h; omega
    have k1 := k0 h1
    refine fun _ => ⟨fun g3 => ⟨by decide +kernel, g3, fun _ _ _ => ⟨fun a b => ⟨⟨a, b⟩, g3⟩, fun _ => ⟨fun a b c d => ⟨⟨⟨⟨a, b⟩, c⟩, d⟩, by rw [k3 d]; omega⟩, fun a b c d => ⟨⟨⟨⟨a, b⟩, c⟩, d⟩, by rw [k2 d]; omega⟩, fun _ =>
      ⟨fun a b c d => ⟨⟨⟨⟨a, b⟩, c⟩, d⟩, g3⟩, fun _ => ⟨fun a b c => ⟨⟨⟨a, b⟩, c⟩, fun d => ⟨⟨⟨a, b⟩, c⟩, d⟩⟩, ?_⟩⟩⟩⟩⟩, ?_⟩
    · rw [drop_nth g3, entB] at g2
      refine ⟨fun g4 => ?_, fun a b c g5 => ?_⟩
      · rw [hq, g2]
        rcases g4 with ((g4 | g4) | g4) | ⟨g4, g5⟩
        · have : inB (nth (nth es i).A 0).I 1 t = false := by
            simp [inB] at g4 ⊢; intro q; have := g4 q; omega
          simp [this]
        · simp [g4]
        · have : inB (nth (nth es i).A 0).I 1 t = false := by
            simp [inB]; intro q; omega
          simp [this]
        · rw [k2 g4] at g5
          have : ¬ pvE es i ≤ (nth (nth es i).A 0).I := by rw [pvE_pos g4]; omega
          simp [this, leB]
      · rw [wrap64 (by omega)]
        have c' : inB (nth (nth es i).A 0).I 1 t = true := by simp [inB] at a ⊢; omega
        have k5 : pvE es i ≤ (nth (nth es i).A 0).I := by
          by_cases h0 : 0 < i
          · have := g5 h0
            rw [k2 h0] at this
            rw [pvE_pos h0]; exact this
          · have : pvE es i = 0 := by rw [pvE, if_pos (by omega)]
            rw [this]
            simp [inB] at a; omega
        refine ⟨⟨i + 1, by omega, by omega, ?_⟩, by omega⟩
        rw [g2, b, c', pvE_succ]
        simp [k5, leB]
    · intro g3
      rw [List.drop_eq_nil_of_le g3, entB] at g2
      rw [hq, g2]

def c_l08State : FSpec := ⟨[(.rd, .agg [.int .i64, .int .i64, .int .i64, .int .i64, .int .i64, .bool, .list (.agg [.int .i64, .str]), .int .i64, .int .i64, .int .i64, .list (.int .i64), .list (.int .i64), .list (.int .i64)])], [.agg [.int .i64, .int .i64, .list (.agg [.int .i64, .str])]], false, fun _ => True, fun ps => [.agg [nth (nth ps 0).A 2, nth (nth ps 0).A 3, nth (nth ps 0).A 6]], fun _ => []⟩
theorem k_l08State : FnOk Try.prog 77 c_l08State := by
  refine fn_mk [0, 1, 2] [.cell 2 87] (env_nil (tyTab_ok [])) mixed Try.func77 rfl (by decide) rfl (by decide) rfl ?_
  intro ps hT hpre W hW
  simp only [c_l08State, TyA, Ty, Tys] at hT hpre
  obtain ⟨_, _, rfl, ⟨_, rfl, _, _, rfl, ⟨n0, rfl, hn0⟩, _, _, rfl, ⟨n1, rfl, hn1⟩, _, _, rfl, ⟨n2, rfl, hn2⟩, _, _, rfl, ⟨n3, rfl, hn3⟩, _, _, rfl, ⟨n4, rfl, hn4⟩, _, _, rfl, ⟨u, rfl⟩, _, _, rfl, ⟨es, rfl, hes, tes⟩, _, _, rfl, ⟨n5, rfl, hn5⟩, _, _, rfl, ⟨n6, rfl, hn6⟩, _, _, rfl, ⟨n7, rfl, hn7⟩, _, _, rfl, ⟨vs, rfl, hvs, tvs⟩, _, _, rfl, ⟨xs, rfl, hxs, txs⟩, _, _, rfl, ⟨ms, rfl, hms, tms⟩, rfl⟩, rfl⟩ := hT
  refine hW.vc [] _ _ ?_
  simp [-List.getD_eq_getElem?_getD, c_l08State]

def c_sNodeOK : FSpec := c_isNode
theorem k_sNodeOK : FnOk Try.prog 33 c_sNodeOK := by
  refine fn_mk [0, 1, 2, 3, 4] [.tmp 2] (env_cons (cs := []) k_StateOK (env_cons (cs := []) k_l08State (env_cons (cs := []) k_l01In (env_cons (cs := []) k_l08Nodes (env_nil (tyTab_ok [])))))) mixed Try.func33 rfl (by decide) rfl (by decide) rfl ?_
  intro ps hT hpre W hW
  simp only [c_sNodeOK, TyA, Ty, Tys] at hT hpre
  simp only [c_isNode, TyA, Ty, Tys] at hT hpre
  obtain ⟨_, _, rfl, ⟨_, rfl, _, _, rfl, ⟨n0, rfl, hn0⟩, _, _, rfl, ⟨n1, rfl, hn1⟩, _, _, rfl, ⟨n2, rfl, hn2⟩, _, _, rfl, ⟨n3, rfl, hn3⟩, _, _, rfl, ⟨n4, rfl, hn4⟩, _, _, rfl, ⟨u, rfl⟩, _, _, rfl, ⟨es, rfl, hes, tes⟩, _, _, rfl, ⟨n5, rfl, hn5⟩, _, _, rfl, ⟨n6, rfl, hn6⟩, _, _, rfl, ⟨n7, rfl, hn7⟩, _, _, rfl, ⟨vs, rfl, hvs, tvs⟩, _, _, rfl, ⟨xs, rfl, hxs, txs⟩, _, _, rfl, ⟨ms, rfl, hms, tms⟩, rfl⟩, rfl⟩ := hT
  refine hW.vc [(6, [], .take 0 <| .take 1 <| .take 2 <| .take 3 <| .take 4 <| .take 5 <| .take 6 <| .take 7 <| .take 8 <| .alt 9 (.take 10 <| .take 11 <| .take 12 <| .take 13 <| .take 14 <| .take 15 <| .take 16 <| .take 17 <| .take 18 <| .take 19 <| .take 20 <| .take 21 <| .take 22 <| .alt 23 (.take 24 <| .take 25 <| .done) .stop) .stop), (11, [], .take 0 <| .take 1 <| .take 2 <| .take 3 <| .take 4 <| .take 5 <| .take 6 <| .take 7 <| .alt 8 (.take 9 <| .take 10 <| .take 11 <| .take 12 <| .take 13 <| .take 14 <| .take 15 <| .take 16 <| .take 17 <| .take 18 <| .take 19 <| .take 20 <| .take 21 <| .take 22 <| .take 23 <| .take 24 <| .take 25 <| .take 26 <| .take 27 <| .done) .stop)] _ _ ?_
  simp [-List.getD_eq_getElem?_getD, c_sNodeOK, c_l08Nodes, c_l01In, c_l08State, c_StateOK, c_isNode, c_within, c_isState, c_within, c_isState, ndOf]
  by_cases hA : inB n1 1 5 = true
  case neg =>
    have hno := nd_no (n0 := n0) (n1 := n1) (n2 := n2) (n3 := n3) (n4 := n4) (n5 := n5) (n6 := n6) (n7 := n7) (u := u) (es := es) (vs := vs) (xs := xs) (ms := ms) (by simp [hA])
    refine ⟨fun a => absurd a hA, fun _ => ⟨fun a => absurd a hA, ?_⟩⟩
    simp [hA, hno]
  have k1 : IntKind.i64.wrap (n1 - 1) = n1 - 1 := wrap64 (by simp [inB] at hA; omega)
  rw [k1]
  by_cases hB : inB n0 0 (n1 - 1) = true
  case neg =>
    have hno := nd_no (n0 := n0) (n1 := n1) (n2 := n2) (n3 := n3) (n4 := n4) (n5 := n5) (n6 := n6) (n7 := n7) (u := u) (es := es) (vs := vs) (xs := xs) (ms := ms) (by simp [hB])
    refine ⟨fun _ a => absurd a hB, fun _ => ⟨fun _ a => absurd a hB, ?_⟩⟩
    simp [hB, hno]
  refine ⟨fun _ _ => ⟨⟨hA, hB⟩, fun _ _ _ => ⟨fun a b c d e f g h i j => ⟨⟨⟨⟨⟨⟨⟨⟨⟨⟨a, b⟩, c⟩, d⟩, e⟩, f⟩, g⟩, h⟩, i⟩, j⟩, fun k => ⟨⟨⟨⟨⟨⟨⟨⟨⟨⟨a, b⟩, c⟩, d⟩, e⟩, f⟩, g⟩, h⟩, i⟩, j⟩, k⟩⟩, fun h => nd_no ?_, fun _ h2 h3 h4 h5 h7 h8 h9 h10 h11 h6 => ?_⟩⟩, fun h => absurd hB (by rw [h hA]; simp)⟩
  · rcases h with (((((((((h | h) | h) | h) | h) | h) | h) | h) | h) | h) | h <;> simp [h]
  have b5 : n1 ≤ 5 := by simp [inB] at hA; omega
  have hq := nd_eq (vs := vs) hA h2 h3 h4 h5 h6 h7 h8 h9 h10 h11
  refine hW.loopS _ _ _ [.sl 3 .dp (.int .i64)] (fun ys => ∃ j : Nat, ys = [.int .i64 j] ∧ j ≤ xs.length ∧ nmB es.length xs ms = nmB es.length (xs.drop j) (ms.drop j)) (fun ys => xs.length - (nth ys 0).I.toNat) ?_ ?_
  · simp [-List.getD_eq_getElem?_getD, c_sNodeOK, c_l08Nodes, c_l01In, c_l08State, c_StateOK, c_isNode, c_within, c_isState]
    exact ⟨0, rfl, by simp, by simp⟩
  · rintro ys ⟨j, rfl, q1, q2⟩
    refine hW.vc [(6, [], .take 0 <| .take 1 <| .take 2 <| .take 3 <| .take 4 <| .take 5 <| .take 6 <| .take 7 <| .take 8 <| .alt 9 (.take 10 <| .take 11 <| .take 12 <| .take 13 <| .take 14 <| .take 15 <| .take 16 <| .take 17 <| .take 18 <| .take 19 <| .take 20 <| .take 21 <| .take 22 <| .alt 23 (.take 24 <| .take 25 <| .done) .stop) .stop), (11, [], .take 0 <| .take 1 <| .take 2 <| .take 3 <| .take 4 <| .take 5 <| .take 6 <| .take 7 <| .alt 8 (.take 9 <| .take 10 <| .take 11 <| .take 12 <| .take 13 <| .take 14 <| .take 15 <| .take 16 <| .take 17 <| .take 18 <| .take 19 <| .take 20 <| .take 21 <| .take 22 <| .take 23 <| .take 24 <| .take 25 <| .take 26 <| .take 27 <| .done) .stop)] _ _ ?_
    simp [-List.getD_eq_getElem?_getD, c_sNodeOK, c_l08Nodes, c_l01In, c_l08State, c_StateOK, c_isNode, c_within, c_isState, c_within, ndOf]
    have k6 : IntKind.i64.wrap ((es.length : Int) + 1) = es.length + 1 := wrap64 (by rw [LIM] at hes; omega)
    have k7 : inB (nth xs j).I 1 (es.length + 1) = true → IntKind.i64.wrap ((nth xs j).I - 1) = (nth xs j).I - 1 := fun h => wrap64 (by rw [LIM] at hes; simp [inB] at h; omega)
    rw [k6]
    refine ⟨fun q3 => ⟨by decide +kernel, by omega, fun _ _ => ⟨fun q4 => ⟨q4, by omega⟩, fun _ => ⟨fun q4 => ⟨q4, by omega⟩, fun _ => ⟨fun q4 => ?_, fun q4 q5 => ?_⟩⟩⟩⟩, fun q3 => ?_⟩
    · rw [drop_nth (by omega : j < xs.length), drop_nth (by omega : j < ms.length), nmB] at q2
      rw [hq, q2]
      by_cases q5 : inB (nth xs j).I 1 (es.length + 1) = true
      · rw [k7 q5] at q4
        rcases q4 with q4 | q4 <;> simp [q4]
      · simp [q5]
    · rw [drop_nth (by omega : j < xs.length), drop_nth (by omega : j < ms.length), nmB] at q2
      rw [k7 q4] at q5
      rw [wrap64 (by omega)]
      exact ⟨⟨j + 1, by omega, by omega, by rw [q2, q4, q5]; simp⟩, by omega⟩
    rw [List.drop_eq_nil_of_le (by omega : xs.length ≤ j)] at q2
    have hq' : nodeB ⟨n0, n1, n2, n3, n4, u, es, n5, n6, n7, vs, xs, ms⟩ = voB n1 (-1) vs := by rw [hq, q2]; simp [nmB]
    refine hW.loopS _ _ _ [.sl 4 .dp (.int .i64)] (fun ys => ∃ i : Nat, ys = [.int .i64 i] ∧ i ≤ vs.length ∧ voB n1 (-1) vs = voB n1 (pvV vs i) (vs.drop i)) (fun ys => vs.length - (nth ys 0).I.toNat) ?_ ?_
    · simp [-List.getD_eq_getElem?_getD, c_sNodeOK, c_l08Nodes, c_l01In, c_l08State, c_StateOK, c_isNode, c_within, c_isState]
      exact ⟨0, rfl, by simp, by simp [pvV]⟩
    · rintro ys ⟨i, rfl, g1, g2⟩
      refine hW.vc [(6, [], .take 0 <| .take 1 <| .take 2 <| .take 3 <| .take 4 <| .take 5 <| .take 6 <| .take 7 <| .take 8 <| .alt 9 (.take 10 <| .take 11 <| .take 12 <| .take 13 <| .take 14 <| .take 15 <| .take 16 <| .take 17 <| .take 18 <| .take 19 <| .take 20 <| .take 21 <| .take 22 <| .alt 23 (.take 24 <| .take 25 <| .done) .stop) .stop), (11, [], .take 0 <| .take 1 <| .take 2 <| .take 3 <| .take 4 <| .take 5 <| .take 6 <| .take 7 <| .alt 8 (.take 9 <| .take 10 <| .take 11 <| .take 12 <| .take 13 <| .take 14 <| .take 15 <| .take 16 <| .take 17 <| .take 18 <| .take 19 <| .take 20 <| .take 21 <| .take 22 <| .take 23 <| .take 24 <| .take 25 <| .take 26 <| .take 27 <| .done) .stop)] _ _ ?_
      simp [-List.getD_eq_getElem?_getD, c_sNodeOK, c_l08Nodes, c_l01In, c_l08State, c_StateOK, c_isNode, c_within, c_isState, c_within, ndOf]
      rw [k1]
      have hv' : vs.length ≤ 140737488355328 := hvs
      have k2 : 0 < i → (IntKind.i64.wrap ((i : Int) - 1)).toNat = i - 1 := fun h => by rw [wrap64 (by omega)]; omega
      have k3 : 0 < i → IntKind.i64.wrap ((i : Int) - 1) = i - 1 := fun h => wrap64 (by omega)
      refine fun _ => ⟨fun g3 => ⟨by decide +kernel, g3, fun _ => ⟨fun a b => ⟨⟨a, b⟩, by rw [k3 b]; omega⟩, fun a b => ⟨⟨a, b⟩, by rw [k2 b]; omega⟩, fun _ => ⟨fun a b => ⟨⟨a, b⟩, g3⟩, fun _ => ⟨fun a => ⟨a, fun b => ⟨a, b⟩⟩, ?_⟩⟩⟩⟩, fun g3 => ?_⟩
      · rw [drop_nth g3, voB] at g2
        refine ⟨fun g4 => ?_, fun g4 g5 => ?_⟩
        · rw [hq', g2]
          rcases g4 with g4 | ⟨g4, g5⟩
          · simp [g4]
          · rw [k2 g4] at g5
            have : ¬ pvV vs i < (nth vs i).I := by rw [pvV_pos g4]; omega
            simp [this]
        · rw [wrap64 (by omega)]
          have k5 : pvV vs i < (nth vs i).I := by
            by_cases h0 : 0 < i
            · have := g5 h0
              rw [k2 h0] at this
              rw [pvV_pos h0]; exact this
            · have : pvV vs i = -1 := by rw [pvV, if_pos (by omega)]
              rw [this]
              simp [inB] at g4; omega
          refine ⟨⟨i + 1, by omega, by omega, ?_⟩, by omega⟩
          rw [g2, g4, pvV_succ]
          simp [k5]
      · rw [hq', g2, List.drop_eq_nil_of_le g3, voB]

def c_l08Own : FSpec := c_toNode
theorem k_l08Own : FnOk Try.prog 35 c_l08Own := by
  refine fn_mk [0, 1, 2] [.cell 2 26] (env_nil (tyTab_ok [])) mixed Try.func35 rfl (by decide) rfl (by decide) rfl ?_
  intro ps hT hpre W hW
  simp only [c_l08Own, TyA, Ty, Tys] at hT hpre
  simp only [c_toNode, TyA, Ty, Tys] at hT hpre
  obtain ⟨_, _, rfl, ⟨_, rfl, _, _, rfl, ⟨n0, rfl, hn0⟩, _, _, rfl, ⟨n1, rfl, hn1⟩, _, _, rfl, ⟨n2, rfl, hn2⟩, _, _, rfl, ⟨n3, rfl, hn3⟩, _, _, rfl, ⟨n4, rfl, hn4⟩, _, _, rfl, ⟨u, rfl⟩, _, _, rfl, ⟨es, rfl, hes, tes⟩, _, _, rfl, ⟨n5, rfl, hn5⟩, _, _, rfl, ⟨n6, rfl, hn6⟩, _, _, rfl, ⟨n7, rfl, hn7⟩, _, _, rfl, ⟨vs, rfl, hvs, tvs⟩, _, _, rfl, ⟨xs, rfl, hxs, txs⟩, _, _, rfl, ⟨ms, rfl, hms, tms⟩, rfl⟩, rfl⟩ := hT
  simp only [nth_zero, nth_succ, pv_A, pv_L] at hpre
  refine hW.vc [] _ _ ?_
  simp [-List.getD_eq_getElem?_getD, c_l08Own, c_toNode]
  exact ⟨by omega, by omega, by omega, by omega⟩

def c_l08Term : FSpec := ⟨[(.rd, .agg [.int .i64, .int .i64, .int .i64, .int .i64, .int .i64, .bool, .list (.agg [.int .i64, .str]), .int .i64, .int .i64, .int .i64, .list (.int .i64), .list (.int .i64), .list (.int .i64)]), (.rd, .int .i64)], [.int .i64], true, fun ps => 0 ≤ (nth ps 1).I ∧ (nth ps 1).I ≤ (nth (nth ps 0).A 6).L.length, fun ps => [.int .i64 (tmAt (nth (nth ps 0).A 6).L (nth ps 1).I)], fun _ => []⟩
theorem k_l08Term : FnOk Try.prog 61 c_l08Term := by
  refine fn_mk [0, 1, 2, 4] [.tmp 4] (env_nil (tyTab_ok [])) mixed Try.func61 rfl (by decide) rfl (by decide) rfl ?_
  intro ps hT hpre W hW
  simp only [c_l08Term, TyA, Ty, Tys] at hT hpre
  obtain ⟨_, _, rfl, ⟨_, rfl, _, _, rfl, ⟨n0, rfl, hn0⟩, _, _, rfl, ⟨n1, rfl, hn1⟩, _, _, rfl, ⟨n2, rfl, hn2⟩, _, _, rfl, ⟨n3, rfl, hn3⟩, _, _, rfl, ⟨n4, rfl, hn4⟩, _, _, rfl, ⟨u, rfl⟩, _, _, rfl, ⟨es, rfl, hes, tes⟩, _, _, rfl, ⟨n5, rfl, hn5⟩, _, _, rfl, ⟨n6, rfl, hn6⟩, _, _, rfl, ⟨n7, rfl, hn7⟩, _, _, rfl, ⟨vs, rfl, hvs, tvs⟩, _, _, rfl, ⟨xs, rfl, hxs, txs⟩, _, _, rfl, ⟨ms, rfl, hms, tms⟩, rfl⟩, _, _, rfl, ⟨p, rfl, hp⟩, rfl⟩ := hT
  simp only [nth_zero, nth_succ, pv_A, pv_L, pv_I] at hpre
  refine hW.vc [] _ _ ?_
  simp [-List.getD_eq_getElem?_getD, c_l08Term]
  refine ⟨fun h => by rw [tmAt, if_pos h], fun h => ?_⟩
  rw [LIM] at hes
  rw [wrap64 (by omega)]
  exact ⟨⟨by omega, by omega⟩, by omega, fun _ => by rw [tmAt, if_neg h]⟩

def c_send : FSpec := ⟨[(.bx, .box [.int .i64, .int .i64, .int .i64, .int .i64, .int .i64, .bool, .list (.agg [.int .i64, .str]), .int .i64, .int .i64, .int .i64, .list (.int .i64), .list (.int .i64), .list (.int .i64), .list (.agg [.int .i64, .int .i64, .int .i64, .int .i64, .int .i64, .int .i64, .int .i64, .bool, .list (.agg [.int .i64, .str])])]), (.ow, .agg [.int .i64, .int .i64, .int .i64, .int .i64, .int .i64, .int .i64, .int .i64, .bool, .list (.agg [.int .i64, .str])])], [], true, fun ps => (nth (nth ps 0).A 13).L.length ≤ 1000, fun _ => [],
  fun ps => [.agg [nth (nth ps 0).A 0, nth (nth ps 0).A 1, nth (nth ps 0).A 2, nth (nth ps 0).A 3, nth (nth ps 0).A 4, nth (nth ps 0).A 5, nth (nth ps 0).A 6, nth (nth ps 0).A 7, nth (nth ps 0).A 8, nth (nth ps 0).A 9, nth (nth ps 0).A 10, nth (nth ps 0).A 11, nth (nth ps 0).A 12, .list ((nth (nth ps 0).A 13).L ++ [.agg [nth (nth ps 1).A 0, nth (nth ps 0).A 0, nth (nth ps 1).A 2, nth (nth ps 0).A 2, nth (nth ps 1).A 4, nth (nth ps 1).A 5, nth (nth ps 1).A 6, nth (nth ps 1).A 7, nth (nth ps 1).A 8]])]]⟩
theorem k_send : FnOk Try.prog 138 c_send := by
  refine fn_mk [0, 1, 3] [] (env_nil (tyTab_ok [])) mixed Try.func138 rfl (by decide) rfl (by decide) rfl ?_
  intro ps hT hpre W hW
  simp only [c_send, TyA, Ty, Tys] at hT hpre
  obtain ⟨_, _, rfl, ⟨_, rfl, _, _, rfl, ⟨n0, rfl, hn0⟩, _, _, rfl, ⟨n1, rfl, hn1⟩, _, _, rfl, ⟨n2, rfl, hn2⟩, _, _, rfl, ⟨n3, rfl, hn3⟩, _, _, rfl, ⟨n4, rfl, hn4⟩, _, _, rfl, ⟨u, rfl⟩, _, _, rfl, ⟨es, rfl, hes, tes⟩, _, _, rfl, ⟨n5, rfl, hn5⟩, _, _, rfl, ⟨n6, rfl, hn6⟩, _, _, rfl, ⟨n7, rfl, hn7⟩, _, _, rfl, ⟨vs, rfl, hvs, tvs⟩, _, _, rfl, ⟨xs, rfl, hxs, txs⟩, _, _, rfl, ⟨ms, rfl, hms, tms⟩, _, _, rfl, ⟨out, rfl, hout, tout⟩, rfl⟩, _, _, rfl, ⟨_, rfl, _, _, rfl, ⟨m0, rfl, hm0⟩, _, _, rfl, ⟨m1, rfl, hm1⟩, _, _, rfl, ⟨m2, rfl, hm2⟩, _, _, rfl, ⟨m3, rfl, hm3⟩, _, _, rfl, ⟨m4, rfl, hm4⟩, _, _, rfl, ⟨m5, rfl, hm5⟩, _, _, rfl, ⟨m6, rfl, hm6⟩, _, _, rfl, ⟨m7, rfl⟩, _, _, rfl, ⟨m8, rfl, hm8, tm8⟩, rfl⟩, rfl⟩ := hT
  simp only [nth_zero, nth_succ, pv_A, pv_L, pv_I] at hpre
  refine hW.vc [(5, [7, 10], .take 0 <| .take 1 <| .take 2 <| .take 3 <| .take 4 <| .take 5 <| .alt 6 (.alt 7 (.take 8 <| .take 9 <| .alt 10 (.done) .stop) .stop) .stop)] _ _ ?_
  simp [-List.getD_eq_getElem?_getD, c_send]
  exact fun _ => ⟨fun h => ⟨by decide +kernel, by omega, fun _ => h⟩, fun h => ⟨by decide +kernel, by omega⟩⟩

end Go.Proofs.Ytkofjkjcbljkdaa
end

section
namespace Go.Proofs.Ytkofjkjcbljkdaa
variable [LaidG]
set_option maxRecDepth 100000
set_option linter.unusedSimpArgs false

def c_tell : FSpec := ⟨[(.bx, .box [.int .i64, .int .i64, .int .i64, .int .i64, .int .i64, .bool, .list (.agg [.int .i64, .str]), .int .i64, .int .i64, .int .i64, .list (.int .i64), .list (.int .i64), .list (.int .i64), .list (.agg [.int .i64, .int .i64, .int .i64, .int .i64, .int .i64, .int .i64, .int .i64, .bool, .list (.agg [.int .i64, .str])])]), (.rd, .int .i64)], [], true, fun ps => (nth (nth ps 0).A 13).L.length ≤ 1000 ∧ repOk (ndOf (nth ps 0).A) (nth ps 1).I, fun _ => [],
  fun ps => [.agg [nth (nth ps 0).A 0, nth (nth ps 0).A 1, nth (nth ps 0).A 2, nth (nth ps 0).A 3, nth (nth ps 0).A 4, nth (nth ps 0).A 5, nth (nth ps 0).A 6, nth (nth ps 0).A 7, nth (nth ps 0).A 8, nth (nth ps 0).A 9, nth (nth ps 0).A 10, nth (nth ps 0).A 11, nth (nth ps 0).A 12, .list ((nth (nth ps 0).A 13).L ++ [repV (ndOf (nth ps 0).A) (nth ps 1).I])]]⟩
set_option maxHeartbeats 4000000 in
theorem k_tell : FnOk Try.prog 133 c_tell := by
  refine fn_mk [0, 1, 4] [] (env_cons (cs := []) k_send (env_cons (cs := []) k_l08Term (env_nil (tyTab_ok [])))) mixed Try.func133 rfl (by decide) rfl (by decide) rfl ?_
  intro ps hT hpre W hW
  simp only [c_tell, TyA, Ty, Tys] at hT hpre
  obtain ⟨_, _, rfl, ⟨_, rfl, _, _, rfl, ⟨n0, rfl, hn0⟩, _, _, rfl, ⟨n1, rfl, hn1⟩, _, _, rfl, ⟨n2, rfl, hn2⟩, _, _, rfl, ⟨n3, rfl, hn3⟩, _, _, rfl, ⟨n4, rfl, hn4⟩, _, _, rfl, ⟨u, rfl⟩, _, _, rfl, ⟨es, rfl, hes, tes⟩, _, _, rfl, ⟨n5, rfl, hn5⟩, _, _, rfl, ⟨n6, rfl, hn6⟩, _, _, rfl, ⟨n7, rfl, hn7⟩, _, _, rfl, ⟨vs, rfl, hvs, tvs⟩, _, _, rfl, ⟨xs, rfl, hxs, txs⟩, _, _, rfl, ⟨ms, rfl, hms, tms⟩, _, _, rfl, ⟨out, rfl, hout, tout⟩, rfl⟩, _, _, rfl, ⟨to, rfl, hto⟩, rfl⟩ := hT
  simp only [nth_zero, nth_succ, pv_A, pv_L, pv_I, pv_B, ndOf, repOk] at hpre
  refine hW.vc [(1, [22, 24], .take 0 <| .take 1 <| .take 2 <| .take 3 <| .take 4 <| .take 5 <| .take 6 <| .take 7 <| .take 9 <| .take 10 <| .take 11 <| .take 12 <| .take 15 <| .take 16 <| .take 17 <| .take 18 <| .take 19 <| .take 20 <| .alt 8 (.alt 13 (.alt 14 (.alt 21 (.alt 22 (.take 23 <| .alt 24 (.done) .stop) .stop) .stop) (.alt 21 (.alt 14 (.alt 22 (.take 23 <| .alt 24 (.done) .stop) .stop) .stop) .stop)) (.alt 14 (.alt 13 (.alt 21 (.alt 22 (.take 23 <| .alt 24 (.done) .stop) .stop) .stop) (.alt 21 (.alt 13 (.alt 22 (.take 23 <| .alt 24 (.done) .stop) .stop) (.alt 22 (.take 13 <| .take 23 <| .alt 24 (.done) .stop) .stop)) .stop)) (.alt 21 (.alt 13 (.alt 14 (.alt 22 (.take 23 <| .alt 24 (.done) .stop) .stop) .stop) (.alt 14 (.alt 13 (.alt 22 (.take 23 <| .alt 24 (.done) .stop) .stop) (.alt 22 (.take 13 <| .take 23 <| .alt 24 (.done) .stop) .stop)) .stop)) .stop))) (.alt 13 (.alt 8 (.alt 14 (.alt 21 (.alt 22 (.take 23 <| .alt 24 (.done) .stop) .stop) .stop) (.alt 21 (.alt 14 (.alt 22 (.take 23 <| .alt 24 (.done) .stop) .stop) .stop) .stop)) (.alt 14 (.alt 8 (.alt 21 (.alt 22 (.take 23 <| .alt 24 (.done) .stop) .stop) .stop) (.alt 21 (.alt 8 (.alt 22 (.take 23 <| .alt 24 (.done) .stop) .stop) .stop) .stop)) (.alt 21 (.alt 8 (.alt 14 (.alt 22 (.take 23 <| .alt 24 (.done) .stop) .stop) .stop) (.alt 14 (.alt 8 (.alt 22 (.take 23 <| .alt 24 (.done) .stop) .stop) .stop) .stop)) .stop))) (.alt 14 (.alt 8 (.alt 13 (.alt 21 (.alt 22 (.take 23 <| .alt 24 (.done) .stop) .stop) .stop) (.alt 21 (.alt 13 (.alt 22 (.take 23 <| .alt 24 (.done) .stop) .stop) (.alt 22 (.take 13 <| .take 23 <| .alt 24 (.done) .stop) .stop)) .stop)) (.alt 13 (.alt 8 (.alt 21 (.alt 22 (.take 23 <| .alt 24 (.done) .stop) .stop) .stop) (.alt 21 (.alt 8 (.alt 22 (.take 23 <| .alt 24 (.done) .stop) .stop) .stop) .stop)) (.alt 21 (.alt 8 (.alt 13 (.alt 22 (.take 23 <| .alt 24 (.done) .stop) .stop) (.alt 22 (.take 13 <| .take 23 <| .alt 24 (.done) .stop) .stop)) (.alt 13 (.alt 8 (.alt 22 (.take 23 <| .alt 24 (.done) .stop) .stop) .stop) .stop)) .stop))) (.alt 21 (.alt 8 (.alt 13 (.alt 14 (.alt 22 (.take 23 <| .alt 24 (.done) .stop) .stop) .stop) (.alt 14 (.alt 13 (.alt 22 (.take 23 <| .alt 24 (.done) .stop) .stop) (.alt 22 (.take 13 <| .take 23 <| .alt 24 (.done) .stop) .stop)) .stop)) (.alt 13 (.alt 8 (.alt 14 (.alt 22 (.take 23 <| .alt 24 (.done) .stop) .stop) .stop) (.alt 14 (.alt 8 (.alt 22 (.take 23 <| .alt 24 (.done) .stop) .stop) .stop) .stop)) (.alt 14 (.alt 8 (.alt 13 (.alt 22 (.take 23 <| .alt 24 (.done) .stop) .stop) (.alt 22 (.take 13 <| .take 23 <| .alt 24 (.done) .stop) .stop)) (.alt 13 (.alt 8 (.alt 22 (.take 23 <| .alt 24 (.done) .stop) .stop) .stop) .stop)) .stop))) .stop))))] _ _ ?_
  simp [-List.getD_eq_getElem?_getD, c_tell, c_l08Term, c_send, ndOf]
  obtain ⟨p0, p1, p2, p3, p4, p5⟩ := hpre
  rw [wrap64 (n := (nth xs to.toNat).I - 1) (by omega)]
  have e : ((nth xs to.toNat).I - 1).toNat = (nth xs to.toNat).I.toNat - 1 := by omega
  have e2 : PV.agg [PV.int IntKind.i64 3, PV.int IntKind.i64 n0, PV.int IntKind.i64 to, PV.int IntKind.i64 n2, PV.int IntKind.i64 ((nth xs to.toNat).I - 1), PV.int IntKind.i64 (tmAt es ((nth xs to.toNat).I - 1)), PV.int IntKind.i64 n5, PV.bool false,
      PV.list (List.take (es.length - ((nth xs to.toNat).I - 1).toNat) (List.drop ((nth xs to.toNat).I - 1).toNat es))] = repV ⟨n0, n1, n2, n3, n4, u, es, n5, n6, n7, vs, xs, ms⟩ to := by
    rw [List.take_of_length_le (by simp), e]; rfl
  exact ⟨⟨p1, p2⟩, by omega, fun _ => ⟨by decide +kernel, ⟨⟨by omega, by omega⟩, fun _ => ⟨by omega, p0, e2⟩⟩, ⟨by omega, by omega⟩, fun _ => ⟨⟨by omega, by omega⟩, by omega, p0, e2⟩⟩⟩

def c_all : FSpec := ⟨[(.bx, .box [.int .i64, .int .i64, .int .i64, .int .i64, .int .i64, .bool, .list (.agg [.int .i64, .str]), .int .i64, .int .i64, .int .i64, .list (.int .i64), .list (.int .i64), .list (.int .i64), .list (.agg [.int .i64, .int .i64, .int .i64, .int .i64, .int .i64, .int .i64, .int .i64, .bool, .list (.agg [.int .i64, .str])])])], [], true, fun ps => (nth (nth ps 0).A 13).L.length ≤ 990 ∧ repsOk (ndOf (nth ps 0).A), fun _ => [],
  fun ps => [.agg [nth (nth ps 0).A 0, nth (nth ps 0).A 1, nth (nth ps 0).A 2, nth (nth ps 0).A 3, nth (nth ps 0).A 4, nth (nth ps 0).A 5, nth (nth ps 0).A 6, nth (nth ps 0).A 7, nth (nth ps 0).A 8, nth (nth ps 0).A 9, nth (nth ps 0).A 10, nth (nth ps 0).A 11, nth (nth ps 0).A 12, .list ((nth (nth ps 0).A 13).L ++ repAll (ndOf (nth ps 0).A) (nth (nth ps 0).A 1).I.toNat)]]⟩
theorem k_all : FnOk Try.prog 106 c_all := by
  refine fn_mk [0, 2] [] (env_cons (cs := []) k_tell (env_nil (tyTab_ok []))) mixed Try.func106 rfl (by decide) rfl (by decide) rfl ?_
  intro ps hT hpre W hW
  simp only [c_all, TyA, Ty, Tys] at hT hpre
  obtain ⟨_, _, rfl, ⟨_, rfl, _, _, rfl, ⟨n0, rfl, hn0⟩, _, _, rfl, ⟨n1, rfl, hn1⟩, _, _, rfl, ⟨n2, rfl, hn2⟩, _, _, rfl, ⟨n3, rfl, hn3⟩, _, _, rfl, ⟨n4, rfl, hn4⟩, _, _, rfl, ⟨u, rfl⟩, _, _, rfl, ⟨es, rfl, hes, tes⟩, _, _, rfl, ⟨n5, rfl, hn5⟩, _, _, rfl, ⟨n6, rfl, hn6⟩, _, _, rfl, ⟨n7, rfl, hn7⟩, _, _, rfl, ⟨vs, rfl, hvs, tvs⟩, _, _, rfl, ⟨xs, rfl, hxs, txs⟩, _, _, rfl, ⟨ms, rfl, hms, tms⟩, _, _, rfl, ⟨out, rfl, hout, tout⟩, rfl⟩, rfl⟩ := hT
  simp only [nth_zero, nth_succ, pv_A, pv_L, pv_I, pv_B, ndOf, repsOk] at hpre
  refine hW.vc [] _ _ ?_
  simp [-List.getD_eq_getElem?_getD, c_all, c_tell, ndOf]
  obtain ⟨p0, p1, p2, p3⟩ := hpre
  obtain ⟨nd, hnd⟩ : ∃ nd : ND, nd = ⟨n0, n1, n2, n3, n4, u, es, n5, n6, n7, vs, xs, ms⟩ := ⟨_, rfl⟩
  refine hW.loopS _ _ _ [.bx 0 [.int .i64, .int .i64, .int .i64, .int .i64, .int .i64, .bool, .list (.agg [.int .i64, .str]), .int .i64, .int .i64, .int .i64, .list (.int .i64), .list (.int .i64), .list (.int .i64), .list (.agg [.int .i64, .int .i64, .int .i64, .int .i64, .int .i64, .int .i64, .int .i64, .bool, .list (.agg [.int .i64, .str])])], .sl 2 .dp (.int .i64)] (fun ys => ∃ i : Nat, ys = [.agg [.int .i64 n0, .int .i64 n1, .int .i64 n2, .int .i64 n3, .int .i64 n4, .bool u, .list es, .int .i64 n5, .int .i64 n6, .int .i64 n7, .list vs, .list xs, .list ms, .list (out ++ repAll nd i)], .int .i64 i] ∧ (i : Int) ≤ n1) (fun ys => n1.toNat - (nth ys 1).I.toNat) ?_ ?_
  · simp [-List.getD_eq_getElem?_getD, c_all, c_tell]
    exact ⟨0, ⟨by simp [repAll], rfl⟩, by omega⟩
  · rintro ys ⟨i, rfl, g1⟩
    refine hW.vc [] _ _ ?_
    simp [-List.getD_eq_getElem?_getD, c_all, c_tell, ndOf]
    have hl := repAll_len nd i
    rw [← hnd, wrap64 (n := (i : Int) + 1) (by omega)]
    refine ⟨fun q2 => ⟨fun q3 => ⟨⟨by omega, by rw [hnd]; exact p3 i q2⟩, ⟨i + 1, ⟨?_, rfl⟩, by omega⟩, by omega⟩, fun q3 => ⟨⟨i + 1, ⟨?_, rfl⟩, by omega⟩, by omega⟩⟩, fun q2 => ?_⟩
    · rw [repAll, if_neg (by rw [hnd]; exact q3)]
    · rw [repAll, if_pos (by rw [hnd]; exact q3), List.append_nil]
    · have : i = n1.toNat := by omega
      rw [this]

end Go.Proofs.Ytkofjkjcbljkdaa
end

section
namespace Go.Proofs.Ytkofjkjcbljkdaa
variable [LaidG]
set_option maxRecDepth 100000
set_option linter.unusedSimpArgs false

/-- Terms that do not fall, none above t. -/
def monoP (t : Int) (es : List PV) : Prop := ∀ j, j < es.length → (nth (nth es j).A 0).I ≤ t ∧ ∀ i, i ≤ j → (nth (nth es i).A 0).I ≤ (nth (nth es j).A 0).I
theorem entB_mono {t : Int} : ∀ {es : List PV} {p : Int}, entB t p es = true → ∀ j, j < es.length → p ≤ (nth (nth es j).A 0).I ∧ (nth (nth es j).A 0).I ≤ t ∧ ∀ i, i ≤ j → (nth (nth es i).A 0).I ≤ (nth (nth es j).A 0).I
  | [], p, h, j, hj => by simp at hj
  | e :: es, p, h, j, hj => by
    simp only [entB, Bool.and_eq_true, leB, inB, decide_eq_true_eq] at h
    obtain ⟨⟨⟨h1, h2⟩, h3⟩, h4⟩ := h
    cases j with
    | zero =>
      rw [nth_zero]
      refine ⟨h3, h2.2, fun i hi => ?_⟩
      have : i = 0 := by omega
      subst this
      rw [nth_zero]; exact Int.le_refl _
    | succ j =>
      obtain ⟨a1, a2, a3⟩ := entB_mono h4 j (by simpa using hj)
      rw [nth_succ]
      refine ⟨Int.le_trans h3 a1, a2, fun i hi => ?_⟩
      cases i with
      | zero => rw [nth_zero]; exact a1
      | succ i => rw [nth_succ]; exact a3 i (by omega)
theorem mono_of {t p : Int} {es : List PV} (h : entB t p es = true) : monoP t es := fun j hj => (entB_mono h j hj).2
theorem mono_le {t t' : Int} {es : List PV} (h : monoP t es) (ht : t ≤ t') : monoP t' es := fun j hj => ⟨Int.le_trans (h j hj).1 ht, (h j hj).2⟩
theorem nth_app_l {a b : List PV} {i : Nat} (h : i < a.length) : nth (a ++ b) i = nth a i := by simp [nth, List.getElem?_append_left h]
theorem nth_app_r {a : List PV} {x : PV} : nth (a ++ [x]) a.length = x := by simp [nth]
theorem mono_lead {t : Int} {es : List PV} (h : monoP t es) : monoP t (leadL t es) := by
  unfold leadL
  split
  · intro j hj
    rw [List.length_append, List.length_singleton] at hj
    by_cases h1 : j < es.length
    · rw [nth_app_l h1]
      exact ⟨(h j h1).1, fun i hi => by rw [nth_app_l (by omega)]; exact (h j h1).2 i hi⟩
    · have : j = es.length := by omega
      subst this
      rw [nth_app_r]
      refine ⟨Int.le_refl _, fun i hi => ?_⟩
      by_cases h2 : i < es.length
      · rw [nth_app_l h2]; exact (h i h2).1
      · have : i = es.length := by omega
        subst this
        rw [nth_app_r]; exact Int.le_refl _
  · exact h
/-- Below an elder term nothing is committed. -/
theorem advG_stop {n : ND} (hm : monoP n.term n.log) (h0 : 0 ≤ n.com) : ∀ {p : Nat}, p ≤ n.log.length → tmAt n.log p ≠ n.term → advG n p = n.com
  | 0, _, _ => rfl
  | p + 1, hp, ht => by
    by_cases h1 : ((p + 1 : Nat) : Int) ≤ n.com
    · exact advG_low h1 h0
    · rw [advG_up (by omega) h0, if_neg (fun h => ht h.1), Nat.add_sub_cancel]
      cases p with
      | zero => rfl
      | succ p =>
        refine advG_stop hm h0 (by omega) ?_
        have e1 : tmAt n.log ((p + 1 + 1 : Nat) : Int) = (nth (nth n.log (p + 1)).A 0).I := by
          have e : (((p + 1 + 1 : Nat) : Int) - 1).toNat = p + 1 := by omega
          rw [tmAt, if_neg (by omega), e]
        have e2 : tmAt n.log ((p + 1 : Nat) : Int) = (nth (nth n.log p).A 0).I := by
          have e : (((p + 1 : Nat) : Int) - 1).toNat = p := by omega
          rw [tmAt, if_neg (by omega), e]
        rw [e1] at ht
        rw [e2]
        have := hm (p + 1) (by omega)
        have := this.2 p (by omega)
        omega

def c_sAdvance : FSpec := ⟨[(.bx, .box [.int .i64, .int .i64, .int .i64, .int .i64, .int .i64, .bool, .list (.agg [.int .i64, .str]), .int .i64, .int .i64, .int .i64, .list (.int .i64), .list (.int .i64), .list (.int .i64), .list (.agg [.int .i64, .int .i64, .int .i64, .int .i64, .int .i64, .int .i64, .int .i64, .bool, .list (.agg [.int .i64, .str])])])], [], true, fun ps => 0 ≤ (nth (nth ps 0).A 7).I ∧ ((nth (nth ps 0).A 12).L.length : Int) = (nth (nth ps 0).A 1).I ∧ (nth (nth ps 0).A 1).I ≤ 5 ∧ (nth (nth ps 0).A 6).L.length ≤ 1024 ∧ monoP (nth (nth ps 0).A 2).I (nth (nth ps 0).A 6).L, fun _ => [],
  fun ps => [.agg [nth (nth ps 0).A 0, nth (nth ps 0).A 1, nth (nth ps 0).A 2, nth (nth ps 0).A 3, nth (nth ps 0).A 4, nth (nth ps 0).A 5, nth (nth ps 0).A 6, .int .i64 (advG (ndOf (nth ps 0).A) (nth (nth ps 0).A 6).L.length), nth (nth ps 0).A 8, nth (nth ps 0).A 9, nth (nth ps 0).A 10, nth (nth ps 0).A 11, nth (nth ps 0).A 12, nth (nth ps 0).A 13]]⟩
theorem k_sAdvance : FnOk Try.prog 105 c_sAdvance := by
  refine fn_mk [0, 2, 3, 4] [] (env_cons (cs := []) k_l01Bit (env_nil (tyTab_ok []))) mixed Try.func105 rfl (by decide) rfl (by decide) rfl ?_
  intro ps hT hpre W hW
  simp only [c_sAdvance, TyA, Ty, Tys] at hT hpre
  obtain ⟨_, _, rfl, ⟨_, rfl, _, _, rfl, ⟨n0, rfl, hn0⟩, _, _, rfl, ⟨n1, rfl, hn1⟩, _, _, rfl, ⟨n2, rfl, hn2⟩, _, _, rfl, ⟨n3, rfl, hn3⟩, _, _, rfl, ⟨n4, rfl, hn4⟩, _, _, rfl, ⟨u, rfl⟩, _, _, rfl, ⟨es, rfl, hes, tes⟩, _, _, rfl, ⟨n5, rfl, hn5⟩, _, _, rfl, ⟨n6, rfl, hn6⟩, _, _, rfl, ⟨n7, rfl, hn7⟩, _, _, rfl, ⟨vs, rfl, hvs, tvs⟩, _, _, rfl, ⟨xs, rfl, hxs, txs⟩, _, _, rfl, ⟨ms, rfl, hms, tms⟩, _, _, rfl, ⟨out, rfl, hout, tout⟩, rfl⟩, rfl⟩ := hT
  simp only [nth_zero, nth_succ, pv_I, pv_L, pv_A] at hpre
  refine hW.vc [(1, [], .take 0 <| .take 1 <| .take 2 <| .take 3 <| .take 4 <| .take 5 <| .take 6 <| .take 7 <| .take 8 <| .take 9 <| .take 10 <| .take 11 <| .take 12 <| .take 13 <| .take 14 <| .take 15 <| .take 16 <| .take 17 <| .take 18 <| .take 19 <| .take 20 <| .take 21 <| .take 22 <| .take 23 <| .take 24 <| .done)] _ _ ?_
  simp [-List.getD_eq_getElem?_getD, c_sAdvance, c_l01Bit, c_bit, c_bit, ndOf]
  obtain ⟨p1, p2, p3, p4, p5⟩ := hpre
  obtain ⟨nd, hnd⟩ : ∃ nd : ND, nd = ⟨n0, n1, n2, n3, n4, u, es, n5, n6, n7, vs, xs, ms⟩ := ⟨_, rfl⟩
  have hc : nd.com = n5 := by rw [hnd]
  have hl : nd.log = es := by rw [hnd]
  have ht : nd.term = n2 := by rw [hnd]
  have hn : nd.nodes = n1 := by rw [hnd]
  have hi : nd.id = n0 := by rw [hnd]
  have hm : nd.ms = ms := by rw [hnd]
  refine fun _ => hW.loopS _ _ _ [.sl 2 .dp (.int .i64)] (fun ys => ∃ p : Nat, ys = [.int .i64 p] ∧ p ≤ es.length ∧ advG nd es.length = advG nd p) (fun ys => (nth ys 0).I.toNat) ?_ ?_
  · simp [-List.getD_eq_getElem?_getD, c_sAdvance, c_l01Bit, c_bit]
    exact ⟨_, rfl, by omega, rfl⟩
  · rintro ys ⟨p, rfl, g1, g2⟩
    refine hW.vc [(1, [], .take 0 <| .take 1 <| .take 2 <| .take 3 <| .take 4 <| .take 5 <| .take 6 <| .take 7 <| .take 8 <| .take 9 <| .take 10 <| .take 11 <| .take 12 <| .take 13 <| .take 14 <| .take 15 <| .take 16 <| .take 17 <| .take 18 <| .take 19 <| .take 20 <| .take 21 <| .take 22 <| .take 23 <| .take 24 <| .done)] _ _ ?_
    simp [-List.getD_eq_getElem?_getD, c_sAdvance, c_l01Bit, c_bit, c_bit, ndOf]
    have hu : n5 < p → advG nd p = if tmAt es p = n2 ∧ n1 < 2 * cntG n0 p ms ms.length then (p : Int) else advG nd (p - 1) := fun h => by
      rw [advG_up (by rw [hc]; exact h) (by rw [hc]; exact p1), hl, ht, hn, hi, hm]
    have hw : n5 < p → IntKind.i64.wrap ((p : Int) - 1) = ((p - 1 : Nat) : Int) := fun h => by rw [wrap64 (by omega)]; omega
    have hw' : n5 < p → (IntKind.i64.wrap ((p : Int) - 1)).toNat = p - 1 := fun h => by rw [hw h]; rfl
    have htm : n5 < p → tmAt es p = (nth (nth es (p - 1)).A 0).I := fun h => by
      have e : (((p : Nat) : Int) - 1).toNat = p - 1 := by omega
      rw [tmAt, if_neg (by omega), e]
    rw [← hnd]
    refine ⟨by decide +kernel, fun h => ⟨h, by rw [hw h]; omega⟩, fun h => ⟨h, by rw [hw' h]; omega⟩, fun _ => ⟨fun g3 g4 => ?_, fun g3 => ?_⟩⟩
    · rw [hw' g3, ← htm g3] at g4
      refine hW.loopS _ _ _ [.sl 4 .dp (.int .i64), .sl 3 .dp (.int .i64)] (fun ys => ∃ i : Nat, ys = [.int .i64 i, .int .i64 (cntG n0 p ms i)] ∧ i ≤ ms.length) (fun ys => ms.length - (nth ys 0).I.toNat) ?_ ?_
      · simp [-List.getD_eq_getElem?_getD, c_sAdvance, c_l01Bit, c_bit]
        exact ⟨0, ⟨rfl, rfl⟩, by omega⟩
      · rintro ys ⟨i, rfl, q1⟩
        refine hW.vc [(1, [], .take 0 <| .take 1 <| .take 2 <| .take 3 <| .take 4 <| .take 5 <| .take 6 <| .take 7 <| .take 8 <| .take 9 <| .take 10 <| .take 11 <| .take 12 <| .take 13 <| .take 14 <| .take 15 <| .take 16 <| .take 17 <| .take 18 <| .take 19 <| .take 20 <| .take 21 <| .take 22 <| .take 23 <| .take 24 <| .done)] _ _ ?_
        simp [-List.getD_eq_getElem?_getD, c_sAdvance, c_l01Bit, c_bit, c_bit, ndOf]
        have hb := cntG_le n0 p ms i
        have hb1 := cntG_le n0 p ms (i + 1)
        have hn' : cntG n0 p ms (i + 1) = cntG n0 p ms i + bitI (!decide ((i : Int) = n0) && decide ((p : Int) ≤ (nth ms i).I)) := by
          rw [cntG]
          by_cases h1 : (i : Int) = n0
          · simp [h1, bitI]
          · by_cases h2 : (p : Int) ≤ (nth ms i).I
            · simp [h1, h2, bitI]
            · simp [h1, h2, bitI]
        rw [← hnd, g2]
        refine ⟨fun q2 => ⟨fun a => ⟨a, by omega⟩, fun _ => ⟨⟨i + 1, ⟨wrap64 (by omega), by rw [← hn', wrap64 (by omega)]⟩, by omega⟩, by rw [wrap64 (by omega)]; omega⟩⟩, fun q2 => ?_⟩
        have : i = ms.length := by omega
        subst this
        rw [wrap64 (n := 2 * _) (by omega)]
        refine ⟨fun b => by rw [hu g3, if_pos ⟨g4, b⟩], fun b => ⟨⟨p - 1, hw g3, by omega, by rw [hu g3, if_neg (fun h => by omega)]⟩, by rw [hw' g3]; omega⟩⟩
    · rw [g2]
      by_cases h5 : n5 < p
      · have := g3 h5
        rw [hw' h5, ← htm h5] at this
        rw [advG_stop (by rw [ht, hl]; exact p5) (by rw [hc]; exact p1) (by rw [hl]; exact g1) (by rw [hl, ht]; exact this), hc]
      · rw [advG_low (by rw [hc]; omega) (by rw [hc]; exact p1), hc]

theorem rep_set {x : PV} {xs : List PV} {i : Nat} (h : i < xs.length) : List.replicate i x ++ (xs.drop i).set 0 x = List.replicate (i + 1) x ++ xs.drop (i + 1) := by
  rw [drop_nth h, List.set_cons_zero, List.replicate_succ', List.append_assoc]; rfl

def ND.rv (n : ND) (out : List PV) : PV := .agg [.int .i64 n.id, .int .i64 n.nodes, .int .i64 n.term, .int .i64 n.vote, .int .i64 n.role, .bool n.up, .list n.log, .int .i64 n.com, .int .i64 n.ela, .int .i64 n.wt, .list n.vs, .list n.nx, .list n.ms, .list out]
def sleadOk (n : ND) : Prop := leadOk n ∧ (n.nx.length : Int) = n.nodes ∧ (n.ms.length : Int) = n.nodes ∧ monoP n.term n.log
def c_sLead : FSpec := ⟨[(.bx, .box [.int .i64, .int .i64, .int .i64, .int .i64, .int .i64, .bool, .list (.agg [.int .i64, .str]), .int .i64, .int .i64, .int .i64, .list (.int .i64), .list (.int .i64), .list (.int .i64), .list (.agg [.int .i64, .int .i64, .int .i64, .int .i64, .int .i64, .int .i64, .int .i64, .bool, .list (.agg [.int .i64, .str])])])], [], true, fun ps => sleadOk (ndOf (nth ps 0).A) ∧ (nth (nth ps 0).A 13).L.length ≤ 990, fun _ => [],
  fun ps => [(leadA (ndOf (nth ps 0).A)).rv ((nth (nth ps 0).A 13).L ++ repAll (leadA (ndOf (nth ps 0).A)) (nth (nth ps 0).A 1).I.toNat)]⟩
theorem k_sLead : FnOk Try.prog 139 c_sLead := by
  refine fn_mk [0, 2] [] (env_cons (cs := []) k_all (env_cons (cs := []) k_sAdvance (env_nil (tyTab_ok [])))) mixed Try.func139 rfl (by decide) rfl (by decide) rfl ?_
  intro ps hT hpre W hW
  simp only [c_sLead, TyA, Ty, Tys] at hT hpre
  obtain ⟨_, _, rfl, ⟨_, rfl, _, _, rfl, ⟨n0, rfl, hn0⟩, _, _, rfl, ⟨n1, rfl, hn1⟩, _, _, rfl, ⟨n2, rfl, hn2⟩, _, _, rfl, ⟨n3, rfl, hn3⟩, _, _, rfl, ⟨n4, rfl, hn4⟩, _, _, rfl, ⟨u, rfl⟩, _, _, rfl, ⟨es, rfl, hes, tes⟩, _, _, rfl, ⟨n5, rfl, hn5⟩, _, _, rfl, ⟨n6, rfl, hn6⟩, _, _, rfl, ⟨n7, rfl, hn7⟩, _, _, rfl, ⟨vs, rfl, hvs, tvs⟩, _, _, rfl, ⟨xs, rfl, hxs, txs⟩, _, _, rfl, ⟨ms, rfl, hms, tms⟩, _, _, rfl, ⟨out, rfl, hout, tout⟩, rfl⟩, rfl⟩ := hT
  simp only [nth_zero, nth_succ, pv_I, pv_L, pv_A, pv_B, ndOf] at hpre
  refine hW.vc [(5, [14], .take 0 <| .take 1 <| .take 2 <| .take 3 <| .take 4 <| .take 5 <| .take 6 <| .take 7 <| .take 8 <| .take 9 <| .take 10 <| .take 11 <| .take 12 <| .take 13 <| .alt 14 (.done) .stop), (8, [13, 17], .take 0 <| .take 1 <| .take 2 <| .take 3 <| .take 4 <| .take 5 <| .take 6 <| .take 7 <| .take 8 <| .take 9 <| .take 10 <| .take 11 <| .alt 12 (.alt 13 (.take 14 <| .take 15 <| .take 16 <| .alt 17 (.done) .stop) .stop) .stop)] _ _ ?_
  simp [-List.getD_eq_getElem?_getD, c_sLead, c_sAdvance, c_all, ndOf, ND.rv]
  have hk := leadA_ok hpre.1.1
  obtain ⟨⟨⟨p1, p2, p3, p4⟩, p5, p6, p7⟩, p8⟩ := hpre
  simp only at p1 p2 p3 p4 p5 p6 p7
  have hA : es.length < 60 → leadA ⟨n0, n1, n2, n3, n4, u, es, n5, n6, n7, vs, xs, ms⟩ = ⟨n0, n1, n2, n3, 2, u, es ++ [.agg [.int .i64 n2, .str []]],
        advG ⟨n0, n1, n2, n3, 2, u, es ++ [.agg [.int .i64 n2, .str []]], n5, 0, n7, vs, List.replicate n1.toNat (.int .i64 (es.length + 1)), List.replicate n1.toNat (.int .i64 0)⟩ (es.length + 1), 0, n7, vs,
        List.replicate n1.toNat (.int .i64 (es.length + 1)), List.replicate n1.toNat (.int .i64 0)⟩ := fun h' => by
    simp only [leadA, leadN, leadL, if_pos h', List.length_append, List.length_singleton]
  have hA' : ¬ es.length < 60 → leadA ⟨n0, n1, n2, n3, n4, u, es, n5, n6, n7, vs, xs, ms⟩ = ⟨n0, n1, n2, n3, 2, u, es,
        advG ⟨n0, n1, n2, n3, 2, u, es, n5, 0, n7, vs, List.replicate n1.toNat (.int .i64 (es.length + 1)), List.replicate n1.toNat (.int .i64 0)⟩ es.length, 0, n7, vs,
        List.replicate n1.toNat (.int .i64 (es.length + 1)), List.replicate n1.toNat (.int .i64 0)⟩ := fun h' => by
    simp only [leadA, leadN, leadL, if_neg h']
  have hmo := mono_lead p7
  obtain ⟨LA, hLA⟩ : ∃ LA : ND, LA = leadA ⟨n0, n1, n2, n3, n4, u, es, n5, n6, n7, vs, xs, ms⟩ := ⟨_, rfl⟩
  rw [← hLA] at hA hA' hk
  refine hW.loopS _ _ _ [.bx 0 [.int .i64, .int .i64, .int .i64, .int .i64, .int .i64, .bool, .list (.agg [.int .i64, .str]), .int .i64, .int .i64, .int .i64, .list (.int .i64), .list (.int .i64), .list (.int .i64), .list (.agg [.int .i64, .int .i64, .int .i64, .int .i64, .int .i64, .int .i64, .int .i64, .bool, .list (.agg [.int .i64, .str])])], .sl 2 .dp (.int .i64)] (fun ys => ∃ i : Nat, ys = [.agg [.int .i64 n0, .int .i64 n1, .int .i64 n2, .int .i64 n3, .int .i64 2, .bool u, .list es, .int .i64 n5, .int .i64 0, .int .i64 n7, .list vs, .list (List.replicate i (.int .i64 (es.length + 1)) ++ xs.drop i), .list (List.replicate i (.int .i64 0) ++ ms.drop i), .list out], .int .i64 i] ∧ (i : Int) ≤ n1) (fun ys => n1.toNat - (nth ys 1).I.toNat) ?_ ?_
  · simp [-List.getD_eq_getElem?_getD, c_sLead, c_sAdvance, c_all]
    exact ⟨0, ⟨⟨by simp, by simp⟩, rfl⟩, by omega⟩
  · rintro ys ⟨i, rfl, g1⟩
    refine hW.vc [(5, [14], .take 0 <| .take 1 <| .take 2 <| .take 3 <| .take 4 <| .take 5 <| .take 6 <| .take 7 <| .take 8 <| .take 9 <| .take 10 <| .take 11 <| .take 12 <| .take 13 <| .alt 14 (.done) .stop), (8, [13, 17], .take 0 <| .take 1 <| .take 2 <| .take 3 <| .take 4 <| .take 5 <| .take 6 <| .take 7 <| .take 8 <| .take 9 <| .take 10 <| .take 11 <| .alt 12 (.alt 13 (.take 14 <| .take 15 <| .take 16 <| .alt 17 (.done) .stop) .stop) .stop)] _ _ ?_
    simp [-List.getD_eq_getElem?_getD, c_sLead, c_sAdvance, c_all, ndOf, ND.rv]
    rw [wrap64 (n := (es.length : Int) + 1) (by omega), wrap64 (n := (i : Int) + 1) (by omega)]
    refine ⟨fun g2 => ⟨by decide +kernel, fun _ => ⟨by omega, by omega, by omega, by omega, ⟨i + 1, ⟨⟨rep_set (by omega), rep_set (by omega)⟩, rfl⟩, by omega⟩, by omega⟩⟩, fun g2 _ => ?_⟩
    have hi : i = n1.toNat := by omega
    have d1 : xs.drop i = [] := List.drop_eq_nil_of_le (by omega)
    have d2 : ms.drop i = [] := List.drop_eq_nil_of_le (by omega)
    have d3 : (i : Int) + ((ms.length - i : Nat) : Int) = n1 := by omega
    rw [d1, d2, d3, List.append_nil, List.append_nil, ← hLA]
    clear d1 d2 d3
    subst hi
    refine ⟨fun h => ?_, fun h => ?_⟩
    · have h' : es.length < 60 := by omega
      rw [leadL, if_pos h'] at hmo
      rw [hA h'] at hk ⊢
      exact ⟨by decide +kernel, by omega, fun _ => ⟨⟨p3, rfl, p2, by omega, hmo⟩, ⟨p8, hk⟩, rfl, rfl, rfl, rfl, rfl, rfl, rfl, rfl, rfl, rfl, rfl, rfl, rfl, rfl⟩⟩
    · have h' : ¬ es.length < 60 := by omega
      rw [leadL, if_neg h'] at hmo
      rw [hA' h'] at hk ⊢
      exact ⟨⟨p3, rfl, p2, by omega, hmo⟩, ⟨p8, hk⟩, rfl, rfl, rfl, rfl, rfl, rfl, rfl, rfl, rfl, rfl, rfl, rfl, rfl, rfl⟩

theorem NdF.ela' {n : ND} (h : NdF n) : NdF (elaN n) := by
  have h0 := h.e0
  have h1 := h.e1
  have e : 0 ≤ (elaN n).ela ∧ (elaN n).ela ≤ 1000 := by simp only [elaN]; split <;> omega
  exact ⟨h.n1, h.n5, h.i0, h.i1, h.t0, h.t1, h.en, h.l6, h.r0, h.r2, h.ur, h.c0, h.c1, e.1, e.2, h.w5, h.w1, h.nx, h.ms, h.vo, h.nm, h.vt⟩

def c_stand : FSpec := ⟨[(.bx, .box [.int .i64, .int .i64, .int .i64, .int .i64, .int .i64, .bool, .list (.agg [.int .i64, .str]), .int .i64, .int .i64, .int .i64, .list (.int .i64), .list (.int .i64), .list (.int .i64), .list (.agg [.int .i64, .int .i64, .int .i64, .int .i64, .int .i64, .int .i64, .int .i64, .bool, .list (.agg [.int .i64, .str])])]), (.rd, .int .i64)], [], true, fun ps => NdF (ndOf (nth ps 0).A) ∧ (nth (nth ps 0).A 2).I ≤ 999 ∧ 0 ≤ (nth ps 1).I ∧ (nth ps 1).I ≤ 1000000 ∧ (nth (nth ps 0).A 13).L.length ≤ 900, fun _ => [],
  fun ps => [(standR (ndOf (nth ps 0).A) (nth ps 1).I).1.rv ((nth (nth ps 0).A 13).L ++ (standR (ndOf (nth ps 0).A) (nth ps 1).I).2)]⟩
theorem k_stand : FnOk Try.prog 119 c_stand := by
  refine fn_mk [0, 1, 4] [] (env_cons (cs := []) k_send (env_cons (cs := []) k_l08Term (env_cons (cs := []) k_sLead (env_nil (tyTab_ok []))))) mixed Try.func119 rfl (by decide) rfl (by decide) rfl ?_
  intro ps hT hpre W hW
  simp only [c_stand, TyA, Ty, Tys] at hT hpre
  obtain ⟨_, _, rfl, ⟨_, rfl, _, _, rfl, ⟨n0, rfl, hn0⟩, _, _, rfl, ⟨n1, rfl, hn1⟩, _, _, rfl, ⟨n2, rfl, hn2⟩, _, _, rfl, ⟨n3, rfl, hn3⟩, _, _, rfl, ⟨n4, rfl, hn4⟩, _, _, rfl, ⟨u, rfl⟩, _, _, rfl, ⟨es, rfl, hes, tes⟩, _, _, rfl, ⟨n5, rfl, hn5⟩, _, _, rfl, ⟨n6, rfl, hn6⟩, _, _, rfl, ⟨n7, rfl, hn7⟩, _, _, rfl, ⟨vs, rfl, hvs, tvs⟩, _, _, rfl, ⟨xs, rfl, hxs, txs⟩, _, _, rfl, ⟨ms, rfl, hms, tms⟩, _, _, rfl, ⟨out, rfl, hout, tout⟩, rfl⟩, _, _, rfl, ⟨d, rfl, hd⟩, rfl⟩ := hT
  simp only [nth_zero, nth_succ, pv_I, pv_L, pv_A, pv_B, ndOf] at hpre
  refine hW.vc [(12, [20], .take 0 <| .take 1 <| .take 2 <| .take 3 <| .take 4 <| .take 5 <| .take 6 <| .take 7 <| .take 8 <| .take 9 <| .take 10 <| .take 11 <| .take 12 <| .take 13 <| .take 14 <| .take 15 <| .take 16 <| .take 17 <| .alt 18 (.take 19 <| .alt 20 (.done) .stop) .stop)] _ _ ?_
  simp [-List.getD_eq_getElem?_getD, c_stand, c_sLead, c_l08Term, c_send, ndOf, ND.rv]
  obtain ⟨hF, q0, q1, q2, q3⟩ := hpre
  have f1 : 1 ≤ n1 ∧ n1 ≤ 5 ∧ 0 ≤ n0 ∧ n0 ≤ n1 - 1 ∧ 0 ≤ n2 ∧ n2 ≤ 1000 ∧ es.length ≤ 60 ∧ 0 ≤ n5 ∧ 0 ≤ n6 ∧ n6 ≤ 1000 := ⟨hF.n1, hF.n5, hF.i0, hF.i1, hF.t0, hF.t1, hF.l6, hF.c0, hF.e0, hF.e1⟩
  have ht : 0 ≤ d.tmod 8 ∧ d.tmod 8 < 8 := ⟨Int.tmod_nonneg _ q1, Int.tmod_lt_of_pos _ (by omega)⟩
  have e2 : IntKind.i64.wrap (n2 + 1) = n2 + 1 := wrap64 (by omega)
  have e3 : IntKind.i64.wrap (5 + d.tmod 8) = 5 + d.tmod 8 := wrap64 (by omega)
  obtain ⟨nd, hnd⟩ : ∃ nd : ND, nd = ⟨n0, n1, n2, n3, n4, u, es, n5, n6, n7, vs, xs, ms⟩ := ⟨_, rfl⟩
  rw [e2, e3, ← hnd]
  refine ⟨fun h => ?_, fun h => ?_⟩
  · have hR : standR nd d = (leadA (standN nd d), repAll (leadA (standN nd d)) nd.nodes.toNat) := by rw [standR, if_pos (by rw [hnd]; exact h)]
    rw [hR, hnd]
    exact ⟨⟨⟨⟨hF.n1, hF.n5, hF.c0, hF.l6⟩, hF.nx, hF.ms, mono_le (mono_of hF.en) (by show n2 ≤ n2 + 1; omega)⟩, by omega⟩, rfl, rfl, rfl, rfl, rfl, rfl, rfl, rfl, rfl, rfl, rfl, rfl, rfl, rfl⟩
  · have hR : standR nd d = (standN nd d, voteAll (standN nd d) nd.nodes.toNat) := by rw [standR, if_neg (by rw [hnd]; exact h)]
    have hS : standN nd d = ⟨n0, n1, n2 + 1, n0, 1, u, es, n5, 0, 5 + d.tmod 8, [.int .i64 n0], xs, ms⟩ := by rw [hnd]; rfl
    have hN : nd.nodes = n1 := by rw [hnd]
    obtain ⟨sd, hsd⟩ : ∃ sd : ND, sd = standN nd d := ⟨_, rfl⟩
    rw [← hsd] at hR hS
    refine hW.loopS _ _ _ [.bx 0 [.int .i64, .int .i64, .int .i64, .int .i64, .int .i64, .bool, .list (.agg [.int .i64, .str]), .int .i64, .int .i64, .int .i64, .list (.int .i64), .list (.int .i64), .list (.int .i64), .list (.agg [.int .i64, .int .i64, .int .i64, .int .i64, .int .i64, .int .i64, .int .i64, .bool, .list (.agg [.int .i64, .str])])], .sl 4 .dp (.int .i64)] (fun ys => ∃ i : Nat, ys = [.agg [.int .i64 n0, .int .i64 n1, .int .i64 (n2 + 1), .int .i64 n0, .int .i64 1, .bool u, .list es, .int .i64 n5, .int .i64 0, .int .i64 (5 + d.tmod 8), .list [.int .i64 n0], .list xs, .list ms, .list (out ++ voteAll sd i)], .int .i64 i] ∧ (i : Int) ≤ n1) (fun ys => n1.toNat - (nth ys 1).I.toNat) ?_ ?_
    · simp [-List.getD_eq_getElem?_getD, c_stand, c_sLead, c_l08Term, c_send]
      exact ⟨0, ⟨by simp [voteAll], rfl⟩, by omega⟩
    · rintro ys ⟨i, rfl, g1⟩
      refine hW.vc [(12, [20], .take 0 <| .take 1 <| .take 2 <| .take 3 <| .take 4 <| .take 5 <| .take 6 <| .take 7 <| .take 8 <| .take 9 <| .take 10 <| .take 11 <| .take 12 <| .take 13 <| .take 14 <| .take 15 <| .take 16 <| .take 17 <| .alt 18 (.take 19 <| .alt 20 (.done) .stop) .stop)] _ _ ?_
      simp [-List.getD_eq_getElem?_getD, c_stand, c_sLead, c_l08Term, c_send, ndOf, ND.rv]
      have hl := voteAll_len sd i
      rw [wrap64 (n := (i : Int) + 1) (by omega)]
      refine ⟨fun g2 => ⟨fun g3 => ⟨by decide +kernel, fun _ => ⟨by omega, ⟨i + 1, ⟨?_, rfl⟩, by omega⟩, by omega⟩⟩, fun g3 => ⟨⟨i + 1, ⟨?_, rfl⟩, by omega⟩, by omega⟩⟩, fun g2 => ?_⟩
      · rw [voteAll, if_neg (by rw [hS]; exact g3), hS]; rfl
      · rw [voteAll, if_pos (by rw [hS]; exact g3), List.append_nil]
      · have : i = n1.toNat := by omega
        rw [← hnd, hR, hN, this, hS]
        exact ⟨rfl, rfl, rfl, rfl, rfl, rfl, rfl, rfl, rfl, rfl, rfl, rfl, rfl, rfl⟩

def c_sTick : FSpec := ⟨[(.bx, .box [.int .i64, .int .i64, .int .i64, .int .i64, .int .i64, .bool, .list (.agg [.int .i64, .str]), .int .i64, .int .i64, .int .i64, .list (.int .i64), .list (.int .i64), .list (.int .i64), .list (.agg [.int .i64, .int .i64, .int .i64, .int .i64, .int .i64, .int .i64, .int .i64, .bool, .list (.agg [.int .i64, .str])])]), (.rd, .int .i64)], [], true, fun ps => NdF (ndOf (nth ps 0).A) ∧ 0 ≤ (nth ps 1).I ∧ (nth ps 1).I ≤ 1000000 ∧ (nth (nth ps 0).A 13).L.length ≤ 900, fun _ => [],
  fun ps => [(tickN (ndOf (nth ps 0).A) (nth ps 1).I).1.rv ((nth (nth ps 0).A 13).L ++ (tickN (ndOf (nth ps 0).A) (nth ps 1).I).2)]⟩
theorem k_sTick : FnOk Try.prog 81 c_sTick := by
  refine fn_mk [0, 1] [] (env_cons (cs := []) k_stand (env_cons (cs := []) k_all (env_nil (tyTab_ok [])))) mixed Try.func81 rfl (by decide) rfl (by decide) rfl ?_
  intro ps hT hpre W hW
  simp only [c_sTick, TyA, Ty, Tys] at hT hpre
  obtain ⟨_, _, rfl, ⟨_, rfl, _, _, rfl, ⟨n0, rfl, hn0⟩, _, _, rfl, ⟨n1, rfl, hn1⟩, _, _, rfl, ⟨n2, rfl, hn2⟩, _, _, rfl, ⟨n3, rfl, hn3⟩, _, _, rfl, ⟨n4, rfl, hn4⟩, _, _, rfl, ⟨u, rfl⟩, _, _, rfl, ⟨es, rfl, hes, tes⟩, _, _, rfl, ⟨n5, rfl, hn5⟩, _, _, rfl, ⟨n6, rfl, hn6⟩, _, _, rfl, ⟨n7, rfl, hn7⟩, _, _, rfl, ⟨vs, rfl, hvs, tvs⟩, _, _, rfl, ⟨xs, rfl, hxs, txs⟩, _, _, rfl, ⟨ms, rfl, hms, tms⟩, _, _, rfl, ⟨out, rfl, hout, tout⟩, rfl⟩, _, _, rfl, ⟨d, rfl, hd⟩, rfl⟩ := hT
  simp only [nth_zero, nth_succ, pv_I, pv_L, pv_A, pv_B, ndOf] at hpre
  refine hW.vc [(5, [], .take 0 <| .take 1 <| .take 2 <| .take 3 <| .take 4 <| .take 5 <| .take 6 <| .take 7 <| .take 8 <| .take 9 <| .take 10 <| .take 11 <| .take 12 <| .take 13 <| .take 14 <| .take 15 <| .take 16 <| .take 17 <| .take 18 <| .done)] _ _ ?_
  simp [-List.getD_eq_getElem?_getD, c_sTick, c_all, c_stand, ndOf, ND.rv]
  obtain ⟨hF, q1, q2, q3⟩ := hpre
  have f1 : 1 ≤ n1 ∧ n1 ≤ 5 ∧ 0 ≤ n0 ∧ n0 ≤ n1 - 1 ∧ 0 ≤ n2 ∧ n2 ≤ 1000 ∧ es.length ≤ 60 ∧ 0 ≤ n5 ∧ 0 ≤ n6 ∧ n6 ≤ 1000 := ⟨hF.n1, hF.n5, hF.i0, hF.i1, hF.t0, hF.t1, hF.l6, hF.c0, hF.e0, hF.e1⟩
  have e1 : IntKind.i64.wrap (n6 + 1) = n6 + 1 := wrap64 (by omega)
  obtain ⟨nd, hnd⟩ : ∃ nd : ND, nd = ⟨n0, n1, n2, n3, n4, u, es, n5, n6, n7, vs, xs, ms⟩ := ⟨_, rfl⟩
  have hF2 : NdF (elaN nd) := by rw [hnd]; exact hF.ela'
  have hr : repsOk { nd with ela := 0 } := by rw [hnd]; exact hF.reps
  have q5 : (elaN nd).ela = (if n6 + 1 < 1000 then n6 + 1 else 1000) := by
    rw [hnd]
    show (if 1000 < n6 + 1 then 1000 else n6 + 1) = _
    split <;> split <;> omega
  have hq : nd.role = n4 ∧ nd.wt = n7 ∧ nd.term = n2 ∧ nd.nodes = n1 := by rw [hnd]; exact ⟨rfl, rfl, rfl, rfl⟩
  obtain ⟨q6, q7, q8, q9⟩ := hq
  rw [e1, ← q5, ← hnd]
  obtain ⟨E, hE⟩ : ∃ E, E = elaN nd := ⟨_, rfl⟩
  have hEl : E = ⟨n0, n1, n2, n3, n4, u, es, n5, E.ela, n7, vs, xs, ms⟩ := by rw [hE, hnd]; rfl
  rw [← hE] at hF2 ⊢
  refine ⟨fun h1 => ⟨fun h2 => ?_, fun h2 => ?_⟩, fun h1 => ⟨by decide +kernel, fun h2 h3 => ?_, fun h2 => ?_⟩⟩
  · rw [tick_b (by rw [q6]; exact h1) (by rw [← hE]; omega)]
    refine ⟨⟨by omega, ?_⟩, ?_⟩
    · rw [hnd] at hr; exact hr
    · rw [hnd]; exact ⟨rfl, rfl, rfl, rfl, rfl, rfl, rfl, rfl, rfl, rfl, rfl, rfl, rfl, rfl⟩
  · rw [tick_a (by rw [q6]; exact h1) (by rw [← hE]; exact h2), ← hE, hEl]
    exact ⟨rfl, rfl, rfl, rfl, rfl, rfl, rfl, rfl, rfl, rfl, rfl, rfl, rfl, rfl⟩
  · have hT : tickN nd d = standR nd d := by rw [tickN, if_neg (by rw [q6]; exact h1), if_neg (by rw [← hE, q7, q8]; omega)]
    have hSR : standR E d = standR nd d := by rw [hE]; rfl
    rw [hT, ← hEl, ← hSR]
    exact ⟨⟨hF2, by omega, q1, q2, q3⟩, rfl, rfl, rfl, rfl, rfl, rfl, rfl, rfl, rfl, rfl, rfl, rfl, rfl, rfl⟩
  · rw [tick_c (by rw [q6]; exact h1) (by rw [← hE, q7, q8]; omega), ← hE, hEl]
    exact ⟨rfl, rfl, rfl, rfl, rfl, rfl, rfl, rfl, rfl, rfl, rfl, rfl, rfl, rfl⟩

def c_l08Tick : FSpec := ⟨[(.rd, .agg [.int .i64, .int .i64, .int .i64, .int .i64, .int .i64, .bool, .list (.agg [.int .i64, .str]), .int .i64, .int .i64, .int .i64, .list (.int .i64), .list (.int .i64), .list (.int .i64)]), (.rd, .int .i64)], [.agg [.int .i64, .int .i64, .int .i64, .int .i64, .int .i64, .bool, .list (.agg [.int .i64, .str]), .int .i64, .int .i64, .int .i64, .list (.int .i64), .list (.int .i64), .list (.int .i64)], .list (.agg [.int .i64, .int .i64, .int .i64, .int .i64, .int .i64, .int .i64, .int .i64, .bool, .list (.agg [.int .i64, .str])])], true, fun ps => NdF (ndOf (nth ps 0).A) ∧ 0 ≤ (nth ps 1).I ∧ (nth ps 1).I ≤ 1000000 ∧ (nth (nth ps 0).A 10).L.length ≤ 1048576,
  fun ps => [(tickN (ndOf (nth ps 0).A) (nth ps 1).I).1.pv, .list (tickN (ndOf (nth ps 0).A) (nth ps 1).I).2], fun _ => []⟩
theorem k_l08Tick : FnOk Try.prog 42 c_l08Tick := by
  refine fn_mk [0, 1, 2, 4, 5, 6] [.cell 4 26, .tmp 5] (env_cons (cs := []) k_sTick (env_cons (cs := []) k_l08Own (env_nil (tyTab_ok [])))) mixed Try.func42 rfl (by decide) rfl (by decide) rfl ?_
  intro ps hT hpre W hW
  simp only [c_l08Tick, TyA, Ty, Tys] at hT hpre
  obtain ⟨_, _, rfl, ⟨_, rfl, _, _, rfl, ⟨n0, rfl, hn0⟩, _, _, rfl, ⟨n1, rfl, hn1⟩, _, _, rfl, ⟨n2, rfl, hn2⟩, _, _, rfl, ⟨n3, rfl, hn3⟩, _, _, rfl, ⟨n4, rfl, hn4⟩, _, _, rfl, ⟨u, rfl⟩, _, _, rfl, ⟨es, rfl, hes, tes⟩, _, _, rfl, ⟨n5, rfl, hn5⟩, _, _, rfl, ⟨n6, rfl, hn6⟩, _, _, rfl, ⟨n7, rfl, hn7⟩, _, _, rfl, ⟨vs, rfl, hvs, tvs⟩, _, _, rfl, ⟨xs, rfl, hxs, txs⟩, _, _, rfl, ⟨ms, rfl, hms, tms⟩, rfl⟩, _, _, rfl, ⟨d, rfl, hd⟩, rfl⟩ := hT
  simp only [nth_zero, nth_succ, pv_I, pv_L, pv_A, pv_B, ndOf] at hpre
  refine hW.vc [(3, [8], .take 0 <| .take 1 <| .take 2 <| .take 3 <| .take 4 <| .take 5 <| .take 6 <| .alt 7 (.alt 8 (.alt 9 (.done) .stop) .stop) (.alt 8 (.take 7 <| .alt 9 (.done) .stop) .stop))] _ _ ?_
  simp [-List.getD_eq_getElem?_getD, c_l08Tick, c_l08Own, c_sTick, c_toNode, c_toNode, ndOf, ND.rv, ND.pv]
  obtain ⟨hF, q1, q2, q3⟩ := hpre
  have a1 : es.length ≤ 60 := hF.l6
  have a2 : (xs.length : Int) = n1 := hF.nx
  have a3 : (ms.length : Int) = n1 := hF.ms
  have a4 : n1 ≤ 5 := hF.n5
  exact ⟨⟨by omega, q3, by omega, by omega⟩, ⟨hF, q1, q2⟩, by decide +kernel⟩

def c_sNodeTick : FSpec := c_iNodeTick
theorem k_sNodeTick : FnOk Try.prog 14 c_sNodeTick := by
  refine fn_mk [0, 1, 2, 4, 5, 6, 7, 8] [.cell 4 26, .tmp 5, .tmp 6] (env_cons (cs := []) k_l08Tick (env_cons (cs := []) k_l08Own (env_cons (cs := []) k_l01In (env_cons (cs := []) k_sNodeOK (env_nil (tyTab_ok [])))))) mixed Try.func14 rfl (by decide) rfl (by decide) rfl ?_
  intro ps hT hpre W hW
  simp only [c_sNodeTick, TyA, Ty, Tys] at hT hpre
  simp only [c_iNodeTick, TyA, Ty, Tys] at hT hpre
  obtain ⟨_, _, rfl, ⟨_, rfl, _, _, rfl, ⟨n0, rfl, hn0⟩, _, _, rfl, ⟨n1, rfl, hn1⟩, _, _, rfl, ⟨n2, rfl, hn2⟩, _, _, rfl, ⟨n3, rfl, hn3⟩, _, _, rfl, ⟨n4, rfl, hn4⟩, _, _, rfl, ⟨u, rfl⟩, _, _, rfl, ⟨es, rfl, hes, tes⟩, _, _, rfl, ⟨n5, rfl, hn5⟩, _, _, rfl, ⟨n6, rfl, hn6⟩, _, _, rfl, ⟨n7, rfl, hn7⟩, _, _, rfl, ⟨vs, rfl, hvs, tvs⟩, _, _, rfl, ⟨xs, rfl, hxs, txs⟩, _, _, rfl, ⟨ms, rfl, hms, tms⟩, rfl⟩, _, _, rfl, ⟨d, rfl, hd⟩, rfl⟩ := hT
  simp only [nth_zero, nth_succ, pv_I, pv_L, pv_A] at hpre
  refine hW.vc [] _ _ ?_
  simp [-List.getD_eq_getElem?_getD, c_sNodeTick, c_sNodeOK, c_l01In, c_l08Own, c_l08Tick, c_iNodeTick, c_isNode, c_within, c_toNode, c_isNode, c_within, c_toNode, c_iNodeTick, ndOf, ND.pv]
  obtain ⟨nd, hnd⟩ : ∃ nd : ND, nd = ⟨n0, n1, n2, n3, n4, u, es, n5, n6, n7, vs, xs, ms⟩ := ⟨_, rfl⟩
  rw [← hnd]
  refine ⟨fun h1 => ?_, fun h1 => ⟨fun h2 => ?_, fun h2 => ?_⟩⟩
  · have e : ntOf nd d = (ND.no, [], 1) := by rw [ntOf, h1]; rfl
    rw [e]
    simp [ND.no]
  · have e : ntOf nd d = (ND.no, [], 4) := by rw [ntOf, h1, h2]; rfl
    rw [e]
    simp [ND.no]
  · have hF := nodeB_F h1
    have f1 : es.length ≤ 60 ∧ (xs.length : Int) ≤ 5 ∧ (ms.length : Int) ≤ 5 := by
      have a1 := hF.l6; have a2 := hF.nx; have a3 := hF.ms; have a4 := hF.n5
      rw [hnd] at a1 a2 a3 a4
      simp only at a1 a2 a3 a4
      exact ⟨a1, by omega, by omega⟩
    refine ⟨fun hu => ⟨⟨by omega, hpre, by omega, by omega⟩, ?_⟩, fun hu => ⟨⟨hF, ?_⟩, ?_⟩⟩
    · have e : ntOf nd d = (nd, [], 13) := by rw [ntOf, h1, h2, show nd.up = false by rw [hnd]; exact hu]; rfl
      rw [e, hnd]; exact ⟨⟨rfl, rfl, rfl, rfl, rfl, rfl, rfl, rfl, rfl, rfl, rfl, rfl, rfl⟩, rfl, rfl⟩
    · simp [inB] at h2; exact ⟨by omega, by omega, hpre⟩
    · have e : ntOf nd d = ((tickN nd d).1, (tickN nd d).2, 0) := by rw [ntOf, h1, h2, show nd.up = true by rw [hnd]; exact hu]; rfl
      rw [e]; exact ⟨⟨rfl, rfl, rfl, rfl, rfl, rfl, rfl, rfl, rfl, rfl, rfl, rfl, rfl⟩, rfl, rfl⟩

end Go.Proofs.Ytkofjkjcbljkdaa
end

section
namespace Go.Proofs.Ytkofjkjcbljkdaa
variable [LaidG]
set_option maxRecDepth 100000
set_option linter.unusedSimpArgs false

/-- A message. -/
structure MG where
  kind : Int
  frm : Int
  to : Int
  term : Int
  idx : Int
  lt : Int
  com : Int
  ok : Bool
  es : List PV
def mgOf (v : List PV) : MG := ⟨(nth v 0).I, (nth v 1).I, (nth v 2).I, (nth v 3).I, (nth v 4).I, (nth v 5).I, (nth v 6).I, (nth v 7).B, (nth v 8).L⟩
def MG.pv (m : MG) : PV := .agg [.int .i64 m.kind, .int .i64 m.frm, .int .i64 m.to, .int .i64 m.term, .int .i64 m.idx, .int .i64 m.lt, .int .i64 m.com, .bool m.ok, .list m.es]

/-- A follower. -/
def followN (n : ND) : ND := { n with role := 0, vs := [], nx := List.replicate n.nodes.toNat (.int .i64 1), ms := List.replicate n.nodes.toNat (.int .i64 0) }
def c_follow : FSpec := ⟨[(.bx, .box [.int .i64, .int .i64, .int .i64, .int .i64, .int .i64, .bool, .list (.agg [.int .i64, .str]), .int .i64, .int .i64, .int .i64, .list (.int .i64), .list (.int .i64), .list (.int .i64)])], [], true, fun ps => 1 ≤ (nth (nth ps 0).A 1).I ∧ (nth (nth ps 0).A 1).I ≤ 5, fun _ => [], fun ps => [(followN (ndOf (nth ps 0).A)).pv]⟩
theorem k_follow : FnOk Try.prog 67 c_follow := by
  refine fn_mk [0] [] (env_cons (cs := []) k_reset (env_nil (tyTab_ok []))) mixed Try.func67 rfl (by decide) rfl (by decide) rfl ?_
  intro ps hT hpre W hW
  simp only [c_follow, TyA, Ty, Tys] at hT hpre
  obtain ⟨_, _, rfl, ⟨_, rfl, _, _, rfl, ⟨n0, rfl, hn0⟩, _, _, rfl, ⟨n1, rfl, hn1⟩, _, _, rfl, ⟨n2, rfl, hn2⟩, _, _, rfl, ⟨n3, rfl, hn3⟩, _, _, rfl, ⟨n4, rfl, hn4⟩, _, _, rfl, ⟨u, rfl⟩, _, _, rfl, ⟨es, rfl, hes, tes⟩, _, _, rfl, ⟨n5, rfl, hn5⟩, _, _, rfl, ⟨n6, rfl, hn6⟩, _, _, rfl, ⟨n7, rfl, hn7⟩, _, _, rfl, ⟨vs, rfl, hvs, tvs⟩, _, _, rfl, ⟨xs, rfl, hxs, txs⟩, _, _, rfl, ⟨ms, rfl, hms, tms⟩, rfl⟩, rfl⟩ := hT
  simp only [nth_zero, nth_succ, pv_I, pv_L, pv_A] at hpre
  refine hW.vc [] _ _ ?_
  simp [-List.getD_eq_getElem?_getD, c_follow, c_reset, ndOf, ND.pv, followN]
  exact hpre

/-- A log is at least as new as another. -/
def upB1 (es : List PV) (idx lt : Int) : Bool := decide (tmAt es es.length < lt) || decide (lt = tmAt es es.length) && decide ((es.length : Int) ≤ idx)
def c_isUpToDate : FSpec := ⟨[(.rd, .box [.int .i64, .int .i64, .int .i64, .int .i64, .int .i64, .bool, .list (.agg [.int .i64, .str]), .int .i64, .int .i64, .int .i64, .list (.int .i64), .list (.int .i64), .list (.int .i64)]), (.rd, .int .i64), (.rd, .int .i64)], [.bool], true, fun ps => (nth (nth ps 0).A 6).L.length ≤ 1048576, fun ps => [.bool (upB1 (nth (nth ps 0).A 6).L (nth ps 1).I (nth ps 2).I)], fun _ => []⟩
theorem k_isUpToDate : FnOk Try.prog 44 c_isUpToDate := by
  refine fn_mk [0, 1, 2, 6, 7] [.tmp 6] (env_cons (cs := []) k_termAt (env_nil (tyTab_ok []))) mixed Try.func44 rfl (by decide) rfl (by decide) rfl ?_
  intro ps hT hpre W hW
  simp only [c_isUpToDate, TyA, Ty, Tys] at hT hpre
  obtain ⟨_, _, rfl, ⟨_, rfl, _, _, rfl, ⟨n0, rfl, hn0⟩, _, _, rfl, ⟨n1, rfl, hn1⟩, _, _, rfl, ⟨n2, rfl, hn2⟩, _, _, rfl, ⟨n3, rfl, hn3⟩, _, _, rfl, ⟨n4, rfl, hn4⟩, _, _, rfl, ⟨u, rfl⟩, _, _, rfl, ⟨es, rfl, hes, tes⟩, _, _, rfl, ⟨n5, rfl, hn5⟩, _, _, rfl, ⟨n6, rfl, hn6⟩, _, _, rfl, ⟨n7, rfl, hn7⟩, _, _, rfl, ⟨vs, rfl, hvs, tvs⟩, _, _, rfl, ⟨xs, rfl, hxs, txs⟩, _, _, rfl, ⟨ms, rfl, hms, tms⟩, rfl⟩, _, _, rfl, ⟨x, rfl, hx⟩, _, _, rfl, ⟨t, rfl, ht⟩, rfl⟩ := hT
  simp only [nth_zero, nth_succ, pv_I, pv_L, pv_A] at hpre
  refine hW.vc [] _ _ ?_
  simp [-List.getD_eq_getElem?_getD, c_isUpToDate, c_termAt]
  exact fun _ _ => ⟨fun a => ⟨a, fun b => ⟨a, b⟩⟩, rfl⟩

def c_cmpNaN : FSpec := ⟨[(.rd, .int .i64)], [.bool], true, fun _ => True, fun _ => [.bool false], fun _ => []⟩
theorem k_cmpNaN : FnOk Try.prog 135 c_cmpNaN := by
  refine fn_mk [0, 2] [.tmp 2] (env_nil (tyTab_ok [])) mixed Try.func135 rfl (by decide) rfl (by decide) rfl ?_
  intro ps hT hpre W hW
  simp only [c_cmpNaN, TyA, Ty, Tys] at hT hpre
  obtain ⟨_, _, rfl, ⟨x, rfl, hx⟩, rfl⟩ := hT
  refine hW.vc [] _ _ ?_
  simp [-List.getD_eq_getElem?_getD, c_cmpNaN]
def c_slNaN : FSpec := c_cmpNaN
theorem k_slNaN : FnOk Try.prog 110 c_slNaN := by
  refine fn_mk [0, 2] [.tmp 2] (env_nil (tyTab_ok [])) mixed Try.func110 rfl (by decide) rfl (by decide) rfl ?_
  intro ps hT hpre W hW
  simp only [c_slNaN, TyA, Ty, Tys] at hT hpre
  simp only [c_cmpNaN, TyA, Ty, Tys] at hT hpre
  obtain ⟨_, _, rfl, ⟨x, rfl, hx⟩, rfl⟩ := hT
  refine hW.vc [] _ _ ?_
  simp [-List.getD_eq_getElem?_getD, c_slNaN, c_cmpNaN]
def c_cmpLess : FSpec := ⟨[(.rd, .int .i64), (.rd, .int .i64)], [.bool], true, fun _ => True, fun ps => [.bool (ltB (nth ps 0).I (nth ps 1).I)], fun _ => []⟩
theorem k_cmpLess : FnOk Try.prog 109 c_cmpLess := by
  refine fn_mk [0, 1, 4] [.tmp 4] (env_cons (cs := []) k_cmpNaN (env_nil (tyTab_ok []))) mixed Try.func109 rfl (by decide) rfl (by decide) rfl ?_
  intro ps hT hpre W hW
  simp only [c_cmpLess, TyA, Ty, Tys] at hT hpre
  obtain ⟨_, _, rfl, ⟨x, rfl, hx⟩, _, _, rfl, ⟨y, rfl, hy⟩, rfl⟩ := hT
  refine hW.vc [] _ _ ?_
  simp [-List.getD_eq_getElem?_getD, c_cmpLess, c_cmpNaN, ltB]
  rfl

/-- Where a vote stands or would stand. -/
def posV (x : Int) : List PV → Nat
  | [] => 0
  | e :: es => if e.I < x then posV x es + 1 else 0
def hasV (x : Int) (es : List PV) : Bool := decide (posV x es < es.length) && decide ((nth es (posV x es)).I = x)
theorem posV_le (x : Int) : ∀ es, posV x es ≤ es.length
  | [] => Nat.le_refl _
  | e :: es => by
    have := posV_le x es
    rw [posV]
    split <;> simp <;> omega
/-- Ahead of the place all are less, from it on none in a list that rises. -/
theorem posV_iff {n x : Int} : ∀ {es : List PV} {p : Int}, voB n p es = true → ∀ i, i < es.length → ((nth es i).I < x ↔ i < posV x es)
  | [], p, h, i, hi => by simp at hi
  | e :: es, p, h, i, hi => by
    simp only [voB, Bool.and_eq_true, decide_eq_true_eq] at h
    have up : ∀ {es : List PV} {q : Int}, voB n q es = true → ∀ i, i < es.length → q < (nth es i).I := by
      intro es
      induction es with
      | nil => intro q _ i hi; simp at hi
      | cons e es ih =>
        intro q h i hi
        simp only [voB, Bool.and_eq_true, decide_eq_true_eq] at h
        cases i with
        | zero => rw [nth_zero]; omega
        | succ i =>
          rw [nth_succ]
          have := ih h.2 i (by simpa using hi)
          omega
    rw [posV]
    by_cases h1 : e.I < x
    · rw [if_pos h1]
      cases i with
      | zero => rw [nth_zero]; exact ⟨fun _ => by omega, fun _ => h1⟩
      | succ i =>
        rw [nth_succ, posV_iff h.2 i (by simpa using hi)]
        omega
    · rw [if_neg h1]
      refine ⟨fun h2 => ?_, fun h2 => by omega⟩
      cases i with
      | zero => rw [nth_zero] at h2; exact absurd h2 h1
      | succ i =>
        rw [nth_succ] at h2
        have := up h.2 i (by simpa using hi)
        omega

def c_BinarySearch : FSpec := ⟨[(.rd, .list (.int .i64)), (.rd, .int .i64)], [.int .i64, .bool], true, fun ps => (nth ps 0).L.length ≤ 1048576 ∧ voB 5 (-1) (nth ps 0).L = true, fun ps => [.int .i64 (posV (nth ps 1).I (nth ps 0).L), .bool (hasV (nth ps 1).I (nth ps 0).L)], fun _ => []⟩
theorem k_BinarySearch : FnOk Try.prog 69 c_BinarySearch := by
  refine fn_mk [0, 1, 4, 5, 6, 7, 8, 9] [.tmp 4, .tmp 5] (env_cons (cs := []) k_slNaN (env_cons (cs := []) k_cmpLess (env_nil (tyTab_ok [])))) mixed Try.func69 rfl (by decide) rfl (by decide) rfl ?_
  intro ps hT hpre W hW
  simp only [c_BinarySearch, TyA, Ty, Tys] at hT hpre
  obtain ⟨_, _, rfl, ⟨es, rfl, hes, tes⟩, _, _, rfl, ⟨x, rfl, hx⟩, rfl⟩ := hT
  simp only [nth_zero, nth_succ, pv_I, pv_L] at hpre
  obtain ⟨p1, p2⟩ := hpre
  refine hW.vc [] _ _ ?_
  simp [-List.getD_eq_getElem?_getD, c_BinarySearch, c_cmpLess, c_slNaN, c_cmpNaN, c_cmpNaN]
  refine fun _ => hW.loopS _ _ _ [.sl 7 .dp (.int .i64), .sl 8 .dp (.int .i64)] (fun ys => ∃ i j : Nat, ys = [.int .i64 i, .int .i64 j] ∧ i ≤ posV x es ∧ posV x es ≤ j ∧ j ≤ es.length) (fun ys => (nth ys 1).I.toNat - (nth ys 0).I.toNat) ?_ ?_
  · simp [-List.getD_eq_getElem?_getD, c_BinarySearch, c_cmpLess, c_slNaN, c_cmpNaN]
    exact ⟨0, _, ⟨rfl, rfl⟩, by omega, posV_le x es, by omega⟩
  · rintro ys ⟨i, j, rfl, g1, g2, g3⟩
    refine hW.vc [] _ _ ?_
    simp [-List.getD_eq_getElem?_getD, c_BinarySearch, c_cmpLess, c_slNaN, c_cmpNaN, c_cmpNaN]
    have em : IntKind.i64.wrap (shrI IntKind.u64 (IntKind.u64.wrap (IntKind.i64.wrap ((i : Int) + (j : Int)))) 1) = (((i + j) / 2 : Nat) : Int) := by
      rw [wrap64 (n := (i : Int) + j) (by omega), wrapU64 (by omega)]
      have e1 : shrI IntKind.u64 ((i : Int) + j) 1 = (((i + j) / 2 : Nat) : Int) := by
        show Int.fdiv ((i : Int) + j) 2 = _
        rw [Int.fdiv_eq_ediv_of_nonneg _ (by omega)]
        omega
      rw [e1, wrap64 (by omega)]
    obtain ⟨h, hh⟩ : ∃ h, h = (i + j) / 2 := ⟨_, rfl⟩
    rw [← hh] at em
    rw [em]
    refine ⟨fun q1 => ?_, fun q1 => ?_⟩
    · have b1 : i ≤ h ∧ h < j := by omega
      have b2 := posV_iff (x := x) p2 h (by omega)
      refine ⟨⟨by omega, by omega⟩, by omega, fun _ => ⟨fun q2 => ?_, fun q2 => ?_⟩⟩
      · rw [Int.toNat_natCast, ltB, decide_eq_true_eq, b2] at q2
        rw [wrap64 (by omega)]
        exact ⟨⟨h + 1, j, ⟨rfl, rfl⟩, by omega, by omega, by omega⟩, by omega⟩
      · rw [Int.toNat_natCast, ltB, decide_eq_false_iff_not, b2] at q2
        exact ⟨⟨i, h, ⟨rfl, rfl⟩, by omega, by omega, by omega⟩, by omega⟩
    · have e : i = posV x es := by omega
      refine fun _ => ⟨fun a b => ⟨⟨a, b⟩, a⟩, fun _ => ⟨fun a => ⟨a, fun b => ⟨a, b⟩⟩, by rw [e], by rw [e, hasV]⟩⟩

end Go.Proofs.Ytkofjkjcbljkdaa
end

section
namespace Go.Proofs.Ytkofjkjcbljkdaa
variable [LaidG]
set_option maxRecDepth 100000
set_option linter.unusedSimpArgs false

/-- A log that takes entries in from a place on. -/
def mergeL (log : List PV) (k : Nat) : List PV → List PV
  | [] => log
  | e :: es => if k < log.length ∧ (nth (nth log k).A 0).I = (nth e.A 0).I then mergeL log (k + 1) es else log.take k ++ (e :: es)
def mnI (a b : Int) : Int := if b < a then b else a
def mxI (a b : Int) : Int := if a < b then b else a
def takeNo (n : ND) (m : MG) : Bool := decide (m.term < n.term) || decide ((n.log.length : Int) < m.idx) || decide (¬ tmAt n.log m.idx = m.lt)
def takeF (n : ND) (m : MG) : ND := if m.term = n.term then { followN n with ela := 0 } else n
def takeE (n : ND) (m : MG) : ND := { n with log := mergeL n.log m.idx.toNat m.es, com := mxI n.com (mnI m.com (m.idx + m.es.length)) }
def takeM (n : ND) (m : MG) (ix : Int) (ok : Bool) : PV := .agg [.int .i64 4, .int .i64 n.id, .int .i64 m.frm, .int .i64 n.term, .int .i64 ix, .int .i64 0, .int .i64 0, .bool ok, .list []]
def takeR (n : ND) (m : MG) : ND × Int × Bool :=
  cond (takeNo n m) (takeF n m, mxI 0 (mnI n.log.length (m.idx - 1)), false) (takeE (takeF n m) m, m.idx + m.es.length, true)
theorem takeR_no {n : ND} {m : MG} (h : (m.term < n.term ∨ (n.log.length : Int) < m.idx) ∨ ¬ tmAt n.log m.idx = m.lt) : takeR n m = (takeF n m, mxI 0 (mnI n.log.length (m.idx - 1)), false) := by
  have : takeNo n m = true := by rcases h with (h | h) | h <;> simp [takeNo, h]
  rw [takeR, this]; rfl
theorem takeR_yes {n : ND} {m : MG} (h1 : n.term ≤ m.term) (h2 : m.idx ≤ n.log.length) (h3 : tmAt n.log m.idx = m.lt) : takeR n m = (takeE (takeF n m) m, m.idx + m.es.length, true) := by
  have : takeNo n m = false := by simp [takeNo, h3]; omega
  rw [takeR, this]; rfl
def tkOk (n : ND) (m : MG) : Prop := NdF n ∧ 0 ≤ m.idx ∧ m.idx ≤ 60 ∧ m.es.length ≤ 60 ∧ m.term ≤ n.term
def c_take : FSpec := ⟨[(.bx, .box [.int .i64, .int .i64, .int .i64, .int .i64, .int .i64, .bool, .list (.agg [.int .i64, .str]), .int .i64, .int .i64, .int .i64, .list (.int .i64), .list (.int .i64), .list (.int .i64)]), (.rd, .agg [.int .i64, .int .i64, .int .i64, .int .i64, .int .i64, .int .i64, .int .i64, .bool, .list (.agg [.int .i64, .str])])], [.agg [.int .i64, .int .i64, .int .i64, .int .i64, .int .i64, .int .i64, .int .i64, .bool, .list (.agg [.int .i64, .str])]], true, fun ps => tkOk (ndOf (nth ps 0).A) (mgOf (nth ps 1).A), fun ps => [takeM (ndOf (nth ps 0).A) (mgOf (nth ps 1).A) (takeR (ndOf (nth ps 0).A) (mgOf (nth ps 1).A)).2.1 (takeR (ndOf (nth ps 0).A) (mgOf (nth ps 1).A)).2.2],
  fun ps => [(takeR (ndOf (nth ps 0).A) (mgOf (nth ps 1).A)).1.pv]⟩
theorem k_take : FnOk Try.prog 72 c_take := by
  refine fn_mk [0, 1, 3, 4, 5, 6, 7, 8, 9, 62, 63, 64] [.cell 4 30] (env_cons (cs := []) k_termAt (env_cons (cs := []) k_message (env_cons (cs := []) k_follow (env_nil (tyTab_ok []))))) mixed Try.func72 rfl (by decide) rfl (by decide) rfl ?_
  intro ps hT hpre W hW
  simp only [c_take, TyA, Ty, Tys] at hT hpre
  obtain ⟨_, _, rfl, ⟨_, rfl, _, _, rfl, ⟨n0, rfl, hn0⟩, _, _, rfl, ⟨n1, rfl, hn1⟩, _, _, rfl, ⟨n2, rfl, hn2⟩, _, _, rfl, ⟨n3, rfl, hn3⟩, _, _, rfl, ⟨n4, rfl, hn4⟩, _, _, rfl, ⟨u, rfl⟩, _, _, rfl, ⟨es, rfl, hes, tes⟩, _, _, rfl, ⟨n5, rfl, hn5⟩, _, _, rfl, ⟨n6, rfl, hn6⟩, _, _, rfl, ⟨n7, rfl, hn7⟩, _, _, rfl, ⟨vs, rfl, hvs, tvs⟩, _, _, rfl, ⟨xs, rfl, hxs, txs⟩, _, _, rfl, ⟨ms, rfl, hms, tms⟩, rfl⟩, _, _, rfl, ⟨_, rfl, _, _, rfl, ⟨m0, rfl, hm0⟩, _, _, rfl, ⟨m1, rfl, hm1⟩, _, _, rfl, ⟨m2, rfl, hm2⟩, _, _, rfl, ⟨m3, rfl, hm3⟩, _, _, rfl, ⟨m4, rfl, hm4⟩, _, _, rfl, ⟨m5, rfl, hm5⟩, _, _, rfl, ⟨m6, rfl, hm6⟩, _, _, rfl, ⟨m7, rfl⟩, _, _, rfl, ⟨m8, rfl, hm8, tm8⟩, rfl⟩, rfl⟩ := hT
  simp only [nth_zero, nth_succ, pv_I, pv_L, pv_A, pv_B, ndOf, mgOf] at hpre
  refine hW.vc [(2, [], .take 0 <| .take 1 <| .take 2 <| .take 3 <| .take 4 <| .take 5 <| .take 6 <| .done), (6, [], .take 0 <| .take 1 <| .take 2 <| .take 3 <| .take 4 <| .take 5 <| .take 6 <| .take 7 <| .take 8 <| .take 9 <| .take 10 <| .take 11 <| .take 12 <| .take 13 <| .take 14 <| .take 15 <| .take 16 <| .take 18 <| .take 19 <| .alt 17 (.take 20 <| .take 21 <| .done) .stop), (13, [], .take 0 <| .take 1 <| .take 2 <| .take 3 <| .take 4 <| .take 5 <| .take 6 <| .take 7 <| .take 8 <| .take 9 <| .take 10 <| .take 11 <| .take 12 <| .take 13 <| .take 14 <| .take 15 <| .take 16 <| .take 17 <| .take 18 <| .take 19 <| .done), (14, [11, 14], .take 0 <| .take 1 <| .take 2 <| .take 3 <| .take 4 <| .take 5 <| .take 7 <| .take 8 <| .take 9 <| .alt 6 (.alt 10 (.alt 11 (.take 12 <| .take 13 <| .alt 14 (.done) .stop) .stop) .stop) (.alt 10 (.alt 6 (.alt 11 (.take 12 <| .take 13 <| .alt 14 (.done) .stop) .stop) .stop) .stop)), (16, [7, 9], .take 0 <| .take 2 <| .take 6 <| .alt 1 (.alt 3 (.alt 4 (.take 5 <| .alt 7 (.take 8 <| .alt 9 (.done) .stop) .stop) (.alt 7 (.take 4 <| .take 5 <| .take 8 <| .alt 9 (.done) .stop) .stop)) (.alt 7 (.take 3 <| .take 4 <| .take 5 <| .take 8 <| .alt 9 (.done) .stop) .stop)) (.alt 3 (.alt 1 (.alt 4 (.take 5 <| .alt 7 (.take 8 <| .alt 9 (.done) .stop) .stop) (.alt 7 (.take 4 <| .take 5 <| .take 8 <| .alt 9 (.done) .stop) .stop)) (.alt 4 (.alt 1 (.take 5 <| .alt 7 (.take 8 <| .alt 9 (.done) .stop) .stop) (.alt 7 (.take 1 <| .take 5 <| .take 8 <| .alt 9 (.done) .stop) .stop)) (.alt 7 (.take 1 <| .take 4 <| .take 5 <| .take 8 <| .alt 9 (.done) .stop) .stop))) (.alt 7 (.take 1 <| .take 3 <| .take 4 <| .take 5 <| .take 8 <| .alt 9 (.done) .stop) .stop))), (17, [13], .take 0 <| .take 1 <| .take 2 <| .take 3 <| .take 4 <| .take 5 <| .take 6 <| .take 7 <| .take 8 <| .take 9 <| .take 10 <| .take 11 <| .take 12 <| .alt 13 (.done) .stop)] _ _ ?_
  simp [-List.getD_eq_getElem?_getD, c_take, c_follow, c_message, c_termAt, ndOf, mgOf, ND.pv, takeM, followN]
  obtain ⟨hF, p1, p2, p3, p4⟩ := hpre
  simp only at p1 p2 p3 p4
  obtain ⟨nd, hnd⟩ : ∃ nd : ND, nd = ⟨n0, n1, n2, n3, n4, u, es, n5, n6, n7, vs, xs, ms⟩ := ⟨_, rfl⟩
  obtain ⟨mg, hmg⟩ : ∃ mg : MG, mg = ⟨m0, m1, m2, m3, m4, m5, m6, m7, m8⟩ := ⟨_, rfl⟩
  have l6 : es.length ≤ 60 := hF.l6
  have k1 : IntKind.i64.wrap (m4 - 1) = m4 - 1 := wrap64 (by omega)
  rw [k1, ← hnd, ← hmg]
  have hno : ((m3 < n2 ∨ (es.length : Int) < m4) ∨ ¬ tmAt es m4 = m5) → takeR nd mg = (takeF nd mg, mxI 0 (mnI es.length (m4 - 1)), false) := fun h => by
    rw [takeR_no (by rw [hnd, hmg]; exact h), hnd, hmg]
  have hF1 : m3 = n2 → takeF nd mg = ⟨n0, n1, n2, n3, 0, u, es, n5, 0, n7, [], List.replicate n1.toNat (.int .i64 1), List.replicate n1.toNat (.int .i64 0)⟩ := fun h => by
    rw [hnd, hmg, takeF, if_pos h]; rfl
  have hF2 : ¬ m3 = n2 → takeF nd mg = ⟨n0, n1, n2, n3, n4, u, es, n5, n6, n7, vs, xs, ms⟩ := fun h => by
    rw [hnd, hmg, takeF, if_neg h]
  refine fun _ => ⟨by decide +kernel, fun h1 => ⟨⟨hF.n1, hF.n5⟩, by decide +kernel, fun _ h => ⟨p1, h⟩, fun h2 => ?_, fun h2 h3 h4 _ => ?_⟩, fun h1 => ⟨by decide +kernel, fun _ h => ⟨p1, h⟩, fun h2 => ?_, fun h2 => absurd h2 (by omega)⟩⟩
  · rw [hno h2, hF1 h1]
    exact ⟨⟨rfl, rfl⟩, rfl, rfl, rfl, rfl, rfl, rfl, rfl, rfl, rfl, rfl, rfl, rfl, rfl⟩
  · have hT : takeR nd mg = (takeE (takeF nd mg) mg, m4 + m8.length, true) := by
      rw [takeR_yes (by rw [hnd, hmg]; exact h2) (by rw [hnd, hmg]; exact h3) (by rw [hnd, hmg]; exact h4), hmg]
    rw [hF1 h1, hmg] at hT
    simp only [takeE] at hT
    rw [← hmg] at hT
    refine hW.loopS _ _ _ [.sl 64 .dp (.int .i64)] (fun ys => ∃ i : Nat, ys = [.int .i64 i] ∧ i ≤ m8.length ∧ m4.toNat + i ≤ es.length ∧ mergeL es m4.toNat m8 = mergeL es (m4.toNat + i) (m8.drop i)) (fun ys => m8.length - (nth ys 0).I.toNat) ?_ ?_
    · simp [-List.getD_eq_getElem?_getD, c_take, c_follow, c_message, c_termAt]
      exact ⟨0, rfl, by omega, by omega, rfl⟩
    · rintro ys ⟨i, rfl, g1, g2, g3⟩
      refine hW.vc [(2, [], .take 0 <| .take 1 <| .take 2 <| .take 3 <| .take 4 <| .take 5 <| .take 6 <| .done), (6, [], .take 0 <| .take 1 <| .take 2 <| .take 3 <| .take 4 <| .take 5 <| .take 6 <| .take 7 <| .take 8 <| .take 9 <| .take 10 <| .take 11 <| .take 12 <| .take 13 <| .take 14 <| .take 15 <| .take 16 <| .take 18 <| .take 19 <| .alt 17 (.take 20 <| .take 21 <| .done) .stop), (13, [], .take 0 <| .take 1 <| .take 2 <| .take 3 <| .take 4 <| .take 5 <| .take 6 <| .take 7 <| .take 8 <| .take 9 <| .take 10 <| .take 11 <| .take 12 <| .take 13 <| .take 14 <| .take 15 <| .take 16 <| .take 17 <| .take 18 <| .take 19 <| .done), (14, [11, 14], .take 0 <| .take 1 <| .take 2 <| .take 3 <| .take 4 <| .take 5 <| .take 7 <| .take 8 <| .take 9 <| .alt 6 (.alt 10 (.alt 11 (.take 12 <| .take 13 <| .alt 14 (.done) .stop) .stop) .stop) (.alt 10 (.alt 6 (.alt 11 (.take 12 <| .take 13 <| .alt 14 (.done) .stop) .stop) .stop) .stop)), (16, [7, 9], .take 0 <| .take 2 <| .take 6 <| .alt 1 (.alt 3 (.alt 4 (.take 5 <| .alt 7 (.take 8 <| .alt 9 (.done) .stop) .stop) (.alt 7 (.take 4 <| .take 5 <| .take 8 <| .alt 9 (.done) .stop) .stop)) (.alt 7 (.take 3 <| .take 4 <| .take 5 <| .take 8 <| .alt 9 (.done) .stop) .stop)) (.alt 3 (.alt 1 (.alt 4 (.take 5 <| .alt 7 (.take 8 <| .alt 9 (.done) .stop) .stop) (.alt 7 (.take 4 <| .take 5 <| .take 8 <| .alt 9 (.done) .stop) .stop)) (.alt 4 (.alt 1 (.take 5 <| .alt 7 (.take 8 <| .alt 9 (.done) .stop) .stop) (.alt 7 (.take 1 <| .take 5 <| .take 8 <| .alt 9 (.done) .stop) .stop)) (.alt 7 (.take 1 <| .take 4 <| .take 5 <| .take 8 <| .alt 9 (.done) .stop) .stop))) (.alt 7 (.take 1 <| .take 3 <| .take 4 <| .take 5 <| .take 8 <| .alt 9 (.done) .stop) .stop))), (17, [13], .take 0 <| .take 1 <| .take 2 <| .take 3 <| .take 4 <| .take 5 <| .take 6 <| .take 7 <| .take 8 <| .take 9 <| .take 10 <| .take 11 <| .take 12 <| .alt 13 (.done) .stop)] _ _ ?_
      simp [-List.getD_eq_getElem?_getD, c_take, c_follow, c_message, c_termAt, ndOf, mgOf, ND.pv, takeM, followN]
      have e1 : IntKind.i64.wrap (m4 + (i : Int)) = ((m4.toNat + i : Nat) : Int) := by rw [wrap64 (by omega)]; omega
      have e2 : IntKind.i64.wrap (m4 + (m8.length : Int)) = m4 + m8.length := wrap64 (by omega)
      rw [e1, e2, wrap64 (n := (i : Int) + 1) (by omega), ← hnd, ← hmg, hT]
      obtain ⟨k, hk⟩ : ∃ k, k = m4.toNat + i := ⟨_, rfl⟩
      rw [← hk] at g2 g3 ⊢
      simp [mxI, mnI, g3]
      have hm : i < m8.length → es.length ≤ k ∨ ¬(nth (nth es k).A 0).I = (nth (nth m8 i).A 0).I → es.take k ++ (m8.drop i).take (m8.length - i) = mergeL es k (m8.drop i) := fun q1 q2 => by
        rw [List.take_of_length_le (l := m8.drop i) (by simp), drop_nth q1, mergeL, if_neg (fun h => q2.elim (fun h1 => absurd h.1 (Nat.not_lt.2 h1)) (fun h1 => h1 h.2))]
      refine ⟨fun q1 => ⟨q1, fun _ _ _ => ⟨by decide +kernel, fun _ _ => ⟨fun q2 => ⟨by decide +kernel, ⟨g2, fun _ => ⟨by omega, fun _ => ⟨by omega, fun _ => ⟨by decide +kernel, fun _ => ⟨by decide +kernel, hm q1 q2, rfl⟩⟩⟩⟩⟩, by omega, fun _ => ⟨g2, fun _ => ⟨by omega, fun _ => ⟨by decide +kernel, fun _ => ⟨by decide +kernel, hm q1 q2, rfl⟩⟩⟩⟩⟩, fun q2 q3 => ⟨⟨i + 1, rfl, by omega, by omega, ?_⟩, by omega⟩⟩⟩⟩, fun q1 => ⟨by decide +kernel, fun _ => ⟨by decide +kernel, ?_, rfl⟩⟩⟩
      · have e : k + 1 = m4.toNat + (i + 1) := by omega
        rw [drop_nth q1, mergeL, if_pos ⟨q2, q3⟩, e]
      · rw [List.drop_eq_nil_of_le q1, mergeL]
  · rw [hno h2, hF2 h1]
    exact ⟨⟨rfl, rfl⟩, rfl, rfl, rfl, rfl, rfl, rfl, rfl, rfl, rfl, rfl, rfl, rfl, rfl⟩

end Go.Proofs.Ytkofjkjcbljkdaa
end

section
namespace Go.Proofs.Ytkofjkjcbljkdaa
variable [LaidG]
open Go.Shelf Go.RowKit Go.Lib
set_option linter.unusedVariables false
section
variable {P : Program} {ρ : Ren} {w : World}

/-- Cells that are set one by one. -/
theorem setCells_all (b t : Nat) (fr : Nat × Nat) : ∀ (vs : List Value) (o : Nat) (c : Array Value) (w : World), w.heap[b]? = some (.cells c t fr) → o + vs.length ≤ c.size →
    (w.setCells b o vs).heap[b]? = some (.cells (c.toList.take o ++ vs ++ c.toList.drop (o + vs.length)).toArray t fr) ∧ (∀ k, k ≠ b → (w.setCells b o vs).heap[k]? = w.heap[k]?) ∧
      (w.setCells b o vs).os = w.os ∧ (w.setCells b o vs).tape = w.tape ∧ (w.setCells b o vs).output = w.output ∧ (w.setCells b o vs).heap.size = w.heap.size
  | [], o, c, w, h, hl => by
    refine ⟨?_, fun _ _ => rfl, rfl, rfl, rfl, rfl⟩
    show w.heap[b]? = _
    rw [h]; simp
  | v :: vs, o, c, w, h, hl => by
    simp only [List.length_cons] at hl
    have hlt : o < c.size := by omega
    have hheap : (w.setCell ⟨b, o, none⟩ v).heap[b]? = some (.cells (c.setIfInBounds o v) t fr) := by
      simp [World.setCell, Array.getElem?_modify, h]
    have hoth : ∀ k, k ≠ b → (w.setCell ⟨b, o, none⟩ v).heap[k]? = w.heap[k]? := by
      intro k hk; simp [World.setCell, Array.getElem?_modify, Ne.symm hk]
    obtain ⟨r2, r3, r4, r5, r6, r7⟩ := setCells_all b t fr vs (o + 1) (c.setIfInBounds o v) _ hheap (by simp; omega)
    rw [World.setCells]
    refine ⟨?_, fun k hk => (r3 k hk).trans (hoth k hk), r4, r5, r6, ?_⟩
    · rw [r2]
      congr 3
      have e1 : (c.setIfInBounds o v).toList = c.toList.set o v := by simp
      rw [e1]
      have e2 : (c.toList.set o v).take (o + 1) = c.toList.take o ++ [v] := by
        rw [List.take_succ_eq_append_getElem (by simpa using hlt)]
        simp [List.take_set_of_le]
      have e3 : (c.toList.set o v).drop (o + 1 + vs.length) = c.toList.drop (o + (v :: vs).length) := by
        rw [List.drop_set_of_lt (by omega)]
        congr 1; simp; omega
      rw [e2, e3]; simp
    · rw [r7]; simp [World.setCell]

theorem flatT_int (n : Nat) : flatT (.int .i64) n = List.replicate n (.int .i64) := by
  induction n with
  | zero => rfl
  | succ n ih => rw [List.replicate_succ, ← ih]; rfl
theorem flatP_int {es : List PV} (h : ∀ e ∈ es, Shp (.int .i64) e) : flatP es = es := by
  induction es with
  | nil => rfl
  | cons e es ih =>
    have h1 : e.leaves = [e] := by
      have := h e (by simp)
      cases e <;> first | rfl | exact absurd rfl (this _)
    rw [flatP, List.flatMap_cons, h1, ← flatP, ih fun x hx => h x (by simp [hx])]; rfl
/-- A list of numbers of its own. -/
theorem own_int {v : Value} {es : List PV} {f : List Nat} (h : OwnD w v (.int .i64) es f) : (es = [] ∧ f = [] ∧ ∃ a, v = .slice a 0 0) ∨
    ∃ b cs, f = [b] ∧ Room w v 1 false es.length b cs ∧ (∀ e ∈ es, Shp (.int .i64) e) ∧ Lv w (flatT (.int .i64) es.length) (flatP es) cs [] := by
  rcases h with h | ⟨b, f1, cs, rfl, hR, hS, hL⟩
  · exact .inl h
  · have hLv := hL.lv
    have hf1 : f1 = [] := flat_fp hLv (flatT_ty rfl _)
    subst hf1
    exact .inr ⟨b, cs, rfl, hR, hS, hLv⟩

theorem cells_at {b o : Nat} {c : Array Value} {t : TypeId} {fr : Nat × Nat} {cs : List Value} (hb : w.heap[b]? = some (.cells c t fr)) (hc : (c.toList.drop o).take cs.length = cs) : ∀ j v, cs[j]? = some v → w.cell? ⟨b, o + j, none⟩ = some v := by
  intro j v hj
  rw [cell_of_row w b _ c t fr hb]
  have hlt : j < cs.length := (List.getElem?_eq_some_iff.1 hj).1
  have h1 : ((c.toList.drop o).take cs.length)[j]? = some v := by rw [hc]; exact hj
  rw [List.getElem?_take, if_pos hlt, List.getElem?_drop] at h1
  simpa using h1

def c_Insert : FSpec := ⟨[(.ow, .list (.int .i64)), (.rd, .int .i64), (.ow, .list (.int .i64))], [.list (.int .i64)], true, fun ps => 0 ≤ (nth ps 1).I ∧ (nth ps 1).I ≤ (nth ps 0).L.length ∧ (nth ps 0).L.length ≤ 1000 ∧ (nth ps 2).L.length = 1,
  fun ps => [.list ((nth ps 0).L.take (nth ps 1).I.toNat ++ (nth ps 2).L ++ (nth ps 0).L.drop (nth ps 1).I.toNat)], fun _ => []⟩

/-- The result, from its cells. -/
theorem ins_ret {w' : World} {b o cap : Nat} {c : Array Value} {t : TypeId} {fr : Nat × Nat} {es new : List PV} {cs nv : List Value} {i : Nat} (hi : i ≤ es.length)
    (hb : w'.heap[b]? = some (.cells c t fr)) (hc : (c.toList.drop o).take (cs.length + nv.length) = cs.take i ++ nv ++ cs.drop i) (hcl : cs.length = es.length) (hnl : nv.length = new.length) (hcap : o + cap ≤ c.size) (hle : es.length + new.length ≤ cap) (hmx : cap ≤ maxLen) (hlim : es.length + new.length ≤ LIM) (hfz : NoFz false c.size fr)
    (hS : ∀ e ∈ es, Shp (.int .i64) e) (hS2 : ∀ e ∈ new, Shp (.int .i64) e) (hL : Lv w' (flatT (.int .i64) es.length) (flatP es) cs []) (hL2 : Lv w' (flatT (.int .i64) new.length) (flatP new) nv []) :
    RetVs w' [.list (.int .i64)] [.list (es.take i ++ new ++ es.drop i)] [.slice (some ⟨b, o, none⟩) (es.length + new.length) cap] [b] := by
  have hSn : ∀ e ∈ es.take i ++ new ++ es.drop i, Shp (.int .i64) e := by
    intro e he
    simp only [List.mem_append] at he
    rcases he with (he | he) | he
    · exact hS e (List.mem_of_mem_take he)
    · exact hS2 e he
    · exact hS e (List.mem_of_mem_drop he)
  have hlen : (es.take i ++ new ++ es.drop i).length = es.length + new.length := by
    simp only [List.length_append, List.length_take, List.length_drop]; omega
  have hlenc : (cs.take i ++ nv ++ cs.drop i).length = cs.length + nv.length := by
    simp only [List.length_append, List.length_take, List.length_drop]; omega
  have hO : OwnD w' (.slice (some ⟨b, o, none⟩) (es.length + new.length) cap) (.int .i64) (es.take i ++ new ++ es.drop i) [b] := by
    refine ownS_D rfl (.inr ⟨b, [], cs.take i ++ nv ++ cs.drop i, rfl, ⟨⟨o, cap, c, t, fr, by rw [hlen], hb, by rw [show (PTy.int .i64).wd = 1 from rfl]; omega, by rw [hlen]; exact hle, hmx, hfz, by rw [hlenc]; exact hc⟩, by rw [hlenc, hlen, show (PTy.int .i64).wd = 1 from rfl]; omega, by rw [hlen]; exact hlim⟩, hSn, ?_⟩)
    rw [hlen]
    rw [flatP_int hSn]
    rw [flatP_int hS] at hL
    rw [flatP_int hS2] at hL2
    rw [flatT_int] at hL hL2 ⊢
    have e1 : List.replicate es.length (PTy.int .i64) = List.replicate i (PTy.int .i64) ++ List.replicate (es.length - i) (PTy.int .i64) := by
      rw [List.replicate_append_replicate]; congr 1; omega
    obtain ⟨v1, v2, f1, f2, e2, e3, a1, a2⟩ := hL.split e1 (List.take_append_drop i es).symm (by simp; omega)
    have e4 : f1 = [] ∧ f2 = [] := by
      have := e3.symm
      simpa using this
    obtain ⟨rfl, rfl⟩ := e4
    have e5 : v1.length = i := by rw [a1.lens.2, List.length_take]; omega
    have h6 : cs.take i = v1 := by rw [e2, ← e5, List.take_left]
    have h7 : cs.drop i = v2 := by rw [e2, ← e5, List.drop_left]
    rw [h6, h7]
    have h8 := (a1.append hL2).append a2
    simp only [List.append_nil] at h8
    rw [List.replicate_append_replicate, List.replicate_append_replicate] at h8
    rw [show es.length + new.length = i + new.length + (es.length - i) by omega]
    exact h8
  have := RetVs.cons (w := w') (t := .list (.int .i64)) (p := .list (es.take i ++ new ++ es.drop i)) (v := .slice (some ⟨b, o, none⟩) (es.length + new.length) cap) (f := [b]) (g := []) ⟨[[b]], .list hO .nil, rfl⟩ .nil
  simpa using this

theorem ins_list {c pre cs post nv : List Value} {i o : Nat} (hc : c = pre ++ cs ++ post) (ho : pre.length = o) (hi : i ≤ cs.length) (hn : nv.length = 1) (hp : 1 ≤ post.length) :
    (((c.take (o + (i + 1)) ++ cs.drop i ++ c.drop (o + (i + 1) + (cs.drop i).length)).take (o + i) ++ nv ++ (c.take (o + (i + 1)) ++ cs.drop i ++ c.drop (o + (i + 1) + (cs.drop i).length)).drop (o + i + nv.length)).drop o).take (cs.length + nv.length) = cs.take i ++ nv ++ cs.drop i := by
  have hl : c.length = o + cs.length + post.length := by rw [hc]; simp [ho]; omega
  have e0 : (c.take (o + (i + 1))).length = o + (i + 1) := by rw [List.length_take]; omega
  have e1 : (c.take (o + (i + 1)) ++ cs.drop i ++ c.drop (o + (i + 1) + (cs.drop i).length)).take (o + i) = pre ++ cs.take i := by
    rw [List.append_assoc, List.take_append_of_le_length (by omega), List.take_take, Nat.min_eq_left (by omega), hc, List.append_assoc, List.take_append, List.take_of_length_le (by omega), ho, Nat.add_sub_cancel_left, List.take_append_of_le_length hi]
  have e2 : (c.take (o + (i + 1)) ++ cs.drop i ++ c.drop (o + (i + 1) + (cs.drop i).length)).drop (o + i + nv.length) = cs.drop i ++ c.drop (o + (i + 1) + (cs.drop i).length) := by
    rw [List.append_assoc, List.drop_left' (by rw [e0, hn]; omega)]
  rw [e1, e2]
  have e3 : pre ++ cs.take i ++ nv ++ (cs.drop i ++ c.drop (o + (i + 1) + (cs.drop i).length)) = pre ++ ((cs.take i ++ nv ++ cs.drop i) ++ c.drop (o + (i + 1) + (cs.drop i).length)) := by simp
  rw [e3, List.drop_left' ho, List.take_left' (by simp only [List.length_append, List.length_take, List.length_drop]; omega)]
theorem grow_list {cs z nv : List Value} {i : Nat} (hi : i ≤ cs.length) (hn : nv.length = 1) (hz : cs.length + 1 - i ≤ z.length) :
    (((cs.take i ++ z).take i ++ nv ++ (cs.take i ++ z).drop (i + nv.length)).take (i + 1) ++ cs.drop i ++ ((cs.take i ++ z).take i ++ nv ++ (cs.take i ++ z).drop (i + nv.length)).drop (i + 1 + (cs.drop i).length)).take (cs.length + nv.length) = cs.take i ++ nv ++ cs.drop i := by
  have e0 : (cs.take i).length = i := by rw [List.length_take]; omega
  rw [List.take_left' e0, List.take_left' (l₁ := cs.take i ++ nv) (by rw [List.length_append, e0, hn]), List.take_left' (by simp only [List.length_append, List.length_take, List.length_drop]; omega)]

/-- slices.Insert keeps its contract. -/
theorem meets_insert (L : Lays2.n21 P ρ) : Meets P (ρ.f 21) c_Insert := by
  intro w ps vs fs fl ms hA hnd hdj hpre hgl
  clear hgl
  cases hA with
  | ow h1 hA => cases hA with
  | rd h2 hA => cases hA with
  | ow h3 hA =>
  cases hA
  obtain ⟨es, rfl, h1⟩ := h1
  obtain ⟨new, rfl, h3⟩ := h3
  obtain ⟨h2, rfl⟩ := h2
  cases h2 with | int hk h2 =>
  cases h2
  rename_i v1 f1 v3 f3 k
  obtain ⟨p1, p2, p3, p4⟩ := hpre
  simp only [nth, List.getD_cons_zero, List.getD_cons_succ, PV.L, PV.I] at p1 p2 p3 p4
  obtain ⟨i, rfl⟩ : ∃ i : Nat, k = i := ⟨k.toNat, by omega⟩
  rcases own_int h3 with ⟨e, _⟩ | ⟨vb, nv, rfl, ⟨⟨vo, vc, cB, tB, frB, rfl, hbB, hcapB, hleB, hmxB, hfzB, hcB⟩, hnl, hlimB⟩, hSB, hLB⟩
  · subst e; simp at p4
  have hm1 : nv.length = 1 := by rw [hnl]; omega
  have hnl' : nv.length = new.length := by omega
  have h1v := lv_one hLB
  have hvs := cells_at hbB hcB
  have hLIM : LIM = 140737488355328 := rfl
  have hMX : maxLen = 9223372036854775807 := rfl
  have hbBw : vb < w.heap.size := (Array.getElem?_eq_some_iff.1 hbB).1
  rw [p4]
  have fin : ∀ {w' : World} {b o cap : Nat} {c : Array Value} {t : TypeId} {fr : Nat × Nat} {cs : List Value}, cs.length = es.length → w'.heap[b]? = some (.cells c t fr) → (c.toList.drop o).take (cs.length + nv.length) = cs.take i ++ nv ++ cs.drop i → o + cap ≤ c.size → es.length + 1 ≤ cap → cap ≤ maxLen → NoFz false c.size fr →
      (∀ e ∈ es, Shp (.int .i64) e) → Lv w (flatT (.int .i64) es.length) (flatP es) cs [] → Fr w (f1 ++ ([vb] ++ [])) w' → (b ∈ f1 ∨ w.heap.size ≤ b) →
      ∃ rvs, (Ending.returned (.slice (some ⟨b, o, none⟩) (es.length + 1) cap)) = .returned (packR rvs) ∧ Done w c_Insert [.list es, .int .i64 i, .list new] [v1, .int .i64 i, .slice (some ⟨vb, vo, none⟩) 1 vc] ([] ++ []) (f1 ++ ([vb] ++ [])) rvs w' := by
    intro w' b o cap c t fr cs hcl hb hc hcap hle hmx hfz hS hL hFr hbm
    refine ⟨[.slice (some ⟨b, o, none⟩) (es.length + 1) cap], rfl, hFr, .inl ⟨rfl, [b], [], ?_, .ow (.rd (.ow .nil)), by simp, fun x hx => ?_⟩⟩
    · have := ins_ret (w' := w') (new := new) (nv := nv) (es := es) (by omega) hb hc hcl hnl' hcap (by omega) hmx (by omega) hfz hS hSB (hL.frame (by simp)) (hLB.frame (by simp))
      rw [p4] at this
      exact this
    · rw [List.append_nil, List.mem_singleton] at hx
      subst hx
      rcases hbm with h | h
      · exact .inl (by simp [h])
      · exact .inr h
  rcases own_int h1 with ⟨rfl, rfl, a, rfl⟩ | ⟨b, cs, rfl, ⟨⟨o, cap, c, t, fr, rfl, hb, hcap, hle, hmx, hfz, hcs⟩, hcl, hlim⟩, hS, hLc⟩
  · -- nothing there
    have hi : i = 0 := by simp at p2; omega
    subst hi
    refine (Any2.slices_Insert_int_end_grow L a 0 0 vb vo 1 vc [] nv w (by omega) (by omega) (by omega) (by omega) rfl hm1 (fun _ => rfl) (fun a e j v hj => by simp at hj) hvs h1v).mono ?_
    rintro e w' ⟨rfl, rfl⟩
    have hge := grownCap_ge w (0 + 1) 0 (ρ.t 3)
    have hcm := grownCap_le_maxLen w (0 + 1) 0 (ρ.t 3) (by omega)
    exact fin (cs := []) rfl (heap_alloc_new w.drew _) (by simp [hm1]) (by simp [size_zeroCells, hm1, Value.cells]; omega) (by simpa using hge) hcm (NoFz.none _ _) (by simp) .nil
      ⟨rfl, rfl, rfl, by simp [World.alloc], fun k hk _ => drew_alloc_old w _ hk⟩ (.inr (Nat.le_refl _))
  · have hcl' : cs.length = es.length := by omega
    have h1c := lv_one hLc
    have hcsa := cells_at hb hcs
    have hbw : b < w.heap.size := (Array.getElem?_eq_some_iff.1 hb).1
    have hne : vb ≠ b := by
      intro e; subst e
      simp at hnd
    have hcell : ∀ j, j < c.size → (w.cell? ⟨b, j, none⟩).isSome = true := fun j hj => by rw [cell_of_row w b _ c t fr hb]; simp [hj]
    have hfro : ∀ j, j < c.size → w.frozen? ⟨b, j, none⟩ = false := fun j hj => by
      have := hfz.1 j hj
      simp only [World.frozen?, hb, Bool.and_eq_false_iff, decide_eq_false_iff_not]
      omega
    obtain ⟨post, hct, hol⟩ : ∃ post, c.toList = c.toList.take o ++ cs ++ post ∧ (c.toList.take o).length = o := by
      refine ⟨(c.toList.drop o).drop cs.length, ?_, by rw [List.length_take, Array.length_toList]; omega⟩
      conv => lhs; rw [← List.take_append_drop o c.toList, ← List.take_append_drop cs.length (c.toList.drop o), hcs]
      rw [List.append_assoc]
    have hpl : c.size = o + cs.length + post.length := by
      have := congrArg List.length hct
      simp only [Array.length_toList, List.length_append] at this hol
      rw [← Array.length_toList] at this
      rw [← Array.length_toList]
      omega
    have hge := grownCap_ge w (es.length + 1) cap (ρ.t 3)
    have hcm := grownCap_le_maxLen w (es.length + 1) cap (ρ.t 3) (by omega)
    have hbf : b ∈ [b] ∨ w.heap.size ≤ b := .inl (by simp)
    have hFr : ∀ {w' : World}, (∀ k, k ≠ b → w'.heap[k]? = w.heap[k]?) → w'.os = w.os → w'.tape = w.tape → w'.output = w.output → w'.heap.size = w.heap.size → Fr w ([b] ++ ([vb] ++ [])) w' := fun q1 q2 q3 q4 q5 =>
      ⟨q2, q3, q4, Nat.le_of_eq q5.symm, fun k _ hk => q1 k fun e => hk (by simp [e])⟩
    by_cases hi : i = es.length
    · subst hi
      by_cases hr : es.length + 1 ≤ cap
      · refine (Any2.slices_Insert_int_end_room L b o es.length cap vb vo 1 vc nv w (by omega) hr (by omega) hm1 (fun j hj => hcell _ (by omega)) (fun j hj => hfro _ (by omega)) hvs h1v).mono ?_
        rintro e w' ⟨rfl, rfl⟩
        obtain ⟨r2, r3, r4, r5, r6, r7⟩ := setCells_all b t fr nv (o + es.length) c w hb (by omega)
        refine fin hcl' r2 ?_ ?_ hr hmx ?_ hS hLc (hFr r3 r4 r5 r6 r7) hbf
        · have e1 : c.toList.take (o + es.length) = c.toList.take o ++ cs := by
            rw [List.take_add, ← hcl', hcs]
          rw [List.toList_toArray, e1, List.take_of_length_le (l := cs) (by omega), show cs.drop es.length = [] from List.drop_eq_nil_of_le (by omega), List.append_nil]
          rw [show c.toList.take o ++ cs ++ nv ++ c.toList.drop (o + es.length + nv.length) = c.toList.take o ++ ((cs ++ nv) ++ c.toList.drop (o + es.length + nv.length)) by simp, List.drop_left' hol, List.take_left' (by simp)]
        · simp only [List.size_toArray, List.length_append, List.length_take, List.length_drop, Array.length_toList]; omega
        · refine hfz.cast ?_
          simp only [List.size_toArray, List.length_append, List.length_take, List.length_drop, Array.length_toList]; omega
      · refine (Any2.slices_Insert_int_end_grow L (some ⟨b, o, none⟩) es.length cap vb vo 1 vc cs nv w (by omega) hle (by omega) (by omega) hcl' hm1 (fun e => (by cases e)) (fun a e j v hj => by cases e; rw [Addr.add_lit]; exact hcsa j v hj) hvs h1v).mono ?_
        rintro e w' ⟨rfl, rfl⟩
        refine fin hcl' (heap_alloc_new w.drew _) ?_ ?_ hge hcm (NoFz.none _ _) hS hLc ⟨rfl, rfl, rfl, by simp [World.alloc], fun k hk _ => drew_alloc_old w _ hk⟩ (.inr (Nat.le_refl _))
        · rw [List.take_of_length_le (l := cs) (by omega), show cs.drop es.length = [] from List.drop_eq_nil_of_le (by omega), List.append_nil]
          simp only [Array.toList_append, List.drop_zero]
          rw [List.take_left' (by simp)]
        · simp [size_zeroCells, hm1, Value.cells]; omega
    · have hi' : i < es.length := by omega
      by_cases hr : es.length + 1 ≤ cap
      · refine (Any2.slices_Insert_int_shift L b o es.length cap i vb vo 1 vc cs nv w hi' (by omega) hr (by omega) hne hcl' hm1 hcsa (fun j hj => hcell _ (by omega)) (fun j hj => hfro _ (by omega)) hvs h1c h1v tB t cB.size c.size
          (by simp [World.shape?, hbB]) (by simp [World.shape?, hb]) (by omega) ?_ ?_).mono ?_
        · have := hfzB.1 vo (by omega)
          simp only [World.frozen?, hbB, Bool.and_eq_false_iff, decide_eq_false_iff_not]
          omega
        · have := hfzB.2 rfl
          simp only [World.frozen?, hbB, Bool.and_eq_false_iff, decide_eq_false_iff_not]
          omega
        rintro e w' ⟨rfl, rfl⟩
        have hdl : (cs.drop i).length = es.length - i := by rw [List.length_drop]; omega
        obtain ⟨r2, r3, r4, r5, r6, r7⟩ := setCells_all b t fr (cs.drop i) (o + (i + 1)) c w.drew hb (by omega)
        obtain ⟨s2, s3, s4, s5, s6, s7⟩ := setCells_all b t fr nv (o + i) _ _ r2 (by simp only [List.size_toArray, List.length_append, List.length_take, List.length_drop, Array.length_toList]; omega)
        refine fin hcl' s2 ?_ ?_ hr hmx ?_ hS hLc (hFr (fun k hk => (s3 k hk).trans (r3 k hk)) (s4.trans r4) (s5.trans r5) (s6.trans r6) (s7.trans r7)) hbf
        · exact ins_list hct hol (by omega) hm1 (by omega)
        · simp only [List.size_toArray, List.length_append, List.length_take, List.length_drop, Array.length_toList]; omega
        · refine hfz.cast ?_
          simp only [List.size_toArray, List.length_append, List.length_take, List.length_drop, Array.length_toList]; omega
      · refine (Any2.slices_Insert_int_grow L b o es.length cap i vb vo 1 vc cs nv w hi' (by omega) hle (by omega) (by omega) hcl' hm1 hcsa hvs h1c h1v).mono ?_
        rintro e w' ⟨rfl, rfl⟩
        obtain ⟨G, hG⟩ : ∃ G, G = grownCap w (es.length + 1) cap (ρ.t 3) := ⟨_, rfl⟩
        rw [← hG] at hge hcm ⊢
        have hdl : (cs.drop i).length = es.length - i := by rw [List.length_drop]; omega
        obtain ⟨Z, hZ⟩ : ∃ Z, Z = Builtin.zeroCells (Value.int .i64 0).cells (es.length + 1 - i) ++ Builtin.zeroCells (Value.int .i64 0).cells (G - (es.length + 1)) := ⟨_, rfl⟩
        have hZl : Z.size = G - i := by rw [hZ]; simp [size_zeroCells, Value.cells]; omega
        rw [Array.append_assoc, ← hZ]
        have ha : ∀ k, k < w.heap.size → (w.alloc (.cells ((cs.take i).toArray ++ Z) (ρ.t 3))).drew.heap[k]? = w.heap[k]? := fun k hk => drew_alloc_old w _ hk
        have hnew : (w.alloc (.cells ((cs.take i).toArray ++ Z) (ρ.t 3))).drew.heap[w.heap.size]? = some (.cells ((cs.take i).toArray ++ Z) (ρ.t 3) (0, 0)) := heap_alloc_new w _
        have hcl0 : ((cs.take i).toArray ++ Z).size = G := by simp [hZl]; omega
        obtain ⟨r2, r3, r4, r5, r6, r7⟩ := setCells_all w.heap.size _ _ nv i _ _ hnew (by omega)
        obtain ⟨s2, s3, s4, s5, s6, s7⟩ := setCells_all w.heap.size _ _ (cs.drop i) (i + 1) _ ((w.alloc (.cells ((cs.take i).toArray ++ Z) (ρ.t 3))).drew.setCells w.heap.size i nv).drew r2 (by simp only [List.size_toArray, List.length_append, List.length_take, List.length_drop, Array.length_toList]; omega)
        refine fin hcl' s2 ?_ ?_ hge hcm (NoFz.none _ _) hS hLc ⟨s4.trans r4, s5.trans r5, s6.trans r6, ?_, fun k hk _ => ?_⟩ (.inr (Nat.le_refl _))
        · have hzl : cs.length + 1 - i ≤ Z.toList.length := by have h0 : Z.toList.length = Z.size := Array.length_toList; omega
          have := grow_list (cs := cs) (z := Z.toList) (nv := nv) (i := i) (by omega) hm1 hzl
          simpa [hm1] using this
        · simp only [List.size_toArray, List.length_append, List.length_take, List.length_drop, Array.length_toList]; omega
        · have e1 := s7
          have e2 := r7
          have e3 : (w.alloc (.cells ((cs.take i).toArray ++ Z) (ρ.t 3))).drew.heap.size = w.heap.size + 1 := by show (w.heap.push _).size = _; simp
          have e4 : ((w.alloc (.cells ((cs.take i).toArray ++ Z) (ρ.t 3))).drew.setCells w.heap.size i nv).drew.heap.size = ((w.alloc (.cells ((cs.take i).toArray ++ Z) (ρ.t 3))).drew.setCells w.heap.size i nv).heap.size := rfl
          omega
        · exact (s3 k (by omega)).trans ((r3 k (by omega)).trans (ha k hk))

end
end Go.Proofs.Ytkofjkjcbljkdaa
end

section
namespace Go.Proofs.Ytkofjkjcbljkdaa
variable [LaidG]
open Go.Shelf
set_option maxRecDepth 100000

/-- Where the shelf's functions and types stand in the program. -/
def renI : Ren := ⟨fun f => match f with | 21 => 70 | 27 => 111 | 28 => 112 | 35 => 136 | 39 => 153 | f => f,
  fun t => match t with | 22 => 24 | t => t, fun g => g⟩
theorem laysI : Lays2.n21 Try.prog renI where
  mixed := mixed
  f21 := Try.func70.trans (congrArg some (by kernel_rfl))
  f27 := Try.func111.trans (congrArg some (by kernel_rfl))
  f28 := Try.func112.trans (congrArg some (by kernel_rfl))
  f35 := Try.func136.trans (congrArg some (by kernel_rfl))
  f39 := Try.func153.trans (congrArg some (by kernel_rfl))
  t0 := Try.underlying0
  a0 := Try.isAgg0
  z0 := Try.sizeOf0
  v0 := Try.zeroValue0
  t3 := Try.underlying3
  a3 := Try.isAgg3
  z3 := Try.sizeOf3
  v3 := Try.zeroValue3
  t4 := Try.underlying4
  a4 := Try.isAgg4
  z4 := Try.sizeOf4
  v4 := Try.zeroValue4
  t22 := Try.underlying24
  a22 := Try.isAgg24
  z22 := Try.sizeOf24
  v22 := Try.zeroValue24
  i3 := by kernel_rfl
theorem k_Insert : FnOk Try.prog 70 c_Insert := ⟨meets_insert laysI, _, Try.func70, rfl, by decide⟩

end Go.Proofs.Ytkofjkjcbljkdaa
end

section
namespace Go.Proofs.Ytkofjkjcbljkdaa
variable [LaidG]
set_option maxRecDepth 100000
set_option linter.unusedSimpArgs false

/-- A node of a newer term follows. -/
def newT (n : ND) (t : Int) : ND := if n.term < t then { followN n with term := t, vote := -1 } else n
def votB (n : ND) (m : MG) : Bool := decide (m.term = n.term) && (decide (n.vote = -1) || decide (n.vote = m.frm)) && upB1 n.log m.idx m.lt
def votN (n : ND) (m : MG) : ND := if votB n m = true then { n with vote := m.frm, ela := 0 } else n
def votM (n : ND) (m : MG) : PV := .agg [.int .i64 2, .int .i64 n.id, .int .i64 m.frm, .int .i64 n.term, .int .i64 0, .int .i64 0, .int .i64 0, .bool (votB n m), .list []]
/-- A vote more. -/
def insV (x : Int) (es : List PV) : List PV := if hasV x es = true then es else es.take (posV x es) ++ [.int .i64 x] ++ es.drop (posV x es)
def elecR (n : ND) (m : MG) : ND × List PV :=
  if n.role ≠ 1 ∨ m.term ≠ n.term ∨ m.ok = false then (n, [])
  else if n.nodes < 2 * (insV m.frm n.vs).length then (leadA { n with vs := insV m.frm n.vs }, repAll (leadA { n with vs := insV m.frm n.vs }) n.nodes.toNat)
  else ({ n with vs := insV m.frm n.vs }, [])
def ackM (n : ND) (m : MG) : ND := { n with ms := n.ms.set m.frm.toNat (.int .i64 (mxI (nth n.ms m.frm.toNat).I (mnI m.idx n.log.length))) }
def ackN (n : ND) (m : MG) : ND := { ackM n m with nx := n.nx.set m.frm.toNat (.int .i64 (mxI (nth n.nx m.frm.toNat).I ((nth (ackM n m).ms m.frm.toNat).I + 1))) }
def nakN (n : ND) (m : MG) : ND := { n with nx := n.nx.set m.frm.toNat (.int .i64 (mxI ((nth n.ms m.frm.toNat).I + 1) (mnI ((nth n.nx m.frm.toNat).I - 1) (m.idx + 1)))) }
def ansR (n : ND) (m : MG) : ND × List PV :=
  if n.role ≠ 2 ∨ m.term ≠ n.term then (n, [])
  else if m.ok = true then ({ ackN n m with com := advG (ackN n m) n.log.length }, [])
  else (nakN n m, [repV (nakN n m) m.frm])
def handR (n : ND) (m : MG) : ND × List PV :=
  if m.kind = 1 then (votN n m, [votM n m]) else if m.kind = 2 then elecR n m
  else if m.kind = 3 then ((takeR n m).1, [takeM n m (takeR n m).2.1 (takeR n m).2.2]) else ansR n m
structure MgF (n : ND) (m : MG) : Prop where
  k1 : 1 ≤ m.kind
  k4 : m.kind ≤ 4
  f0 : 0 ≤ m.frm
  f1 : m.frm < n.nodes
  t1 : 1 ≤ m.term
  tM : m.term ≤ 1000
  i0 : 0 ≤ m.idx
  i6 : m.idx ≤ 60
  c0 : 0 ≤ m.com
  c6 : m.com ≤ 60
  es : m.es.length ≤ 60
theorem entB_le {t t' : Int} (h : t ≤ t') : ∀ {es : List PV} {p : Int}, entB t p es = true → entB t' p es = true
  | [], p, _ => rfl
  | e :: es, p, he => by
    simp only [entB, Bool.and_eq_true, inB, decide_eq_true_eq] at he ⊢
    exact ⟨⟨⟨he.1.1.1, by omega, by omega⟩, he.1.2⟩, entB_le h he.2⟩
theorem nm_rep {l : Int} (hl : 0 ≤ l) : ∀ n : Nat, nmB l (List.replicate n (.int .i64 1)) (List.replicate n (.int .i64 0)) = true
  | 0 => rfl
  | n + 1 => by
    have h1 : inB 1 1 (l + 1) = true := by simp [inB]; omega
    have h2 : inB 0 0 (1 - 1) = true := by decide
    rw [List.replicate_succ, List.replicate_succ, nmB, nm_rep hl n]
    show (inB 1 1 (l + 1) && inB 0 0 (1 - 1) && true) = true
    rw [h1, h2]; rfl
theorem vo_le' {n n' : Int} (h : n ≤ n') : ∀ {es : List PV} {p : Int}, voB n p es = true → voB n' p es = true
  | [], p, _ => rfl
  | e :: es, p, he => by
    simp only [voB, Bool.and_eq_true, inB, decide_eq_true_eq] at he ⊢
    exact ⟨⟨⟨he.1.1.1, by omega⟩, he.1.2⟩, vo_le' h he.2⟩
theorem vo_len' {n : Int} : ∀ {es : List PV} {p : Int}, voB n p es = true → p ≤ n - 1 → p + es.length ≤ n - 1
  | [], p, h, hp => by simp; omega
  | e :: es, p, h, hp => by
    simp only [voB, inB, Bool.and_eq_true, decide_eq_true_eq] at h
    have := vo_len' h.2 (by omega)
    simp only [List.length_cons]
    omega
theorem newT_F {n : ND} {t : Int} (h : NdF n) (ht : t ≤ 1000) : NdF (newT n t) := by
  unfold newT
  split
  · rename_i h1
    have h0 := h.t0
    have a1 := h.n1
    refine ⟨h.n1, h.n5, h.i0, h.i1, by show 0 ≤ t; omega, ht, entB_le (t := n.term) (Int.le_of_lt h1) h.en, h.l6, by show (0 : Int) ≤ 0; omega, by show (0 : Int) ≤ 2; omega, .inr rfl, h.c0, h.c1, h.e0, h.e1, h.w5, h.w1, ?_, ?_, rfl, nm_rep (by omega) _, ⟨by show (-1 : Int) ≤ -1; omega, by show (-1 : Int) ≤ 4; omega, by show (-1 : Int) < n.nodes; omega⟩⟩
    · show ((List.replicate n.nodes.toNat (PV.int .i64 1)).length : Int) = n.nodes
      rw [List.length_replicate]; omega
    · show ((List.replicate n.nodes.toNat (PV.int .i64 0)).length : Int) = n.nodes
      rw [List.length_replicate]; omega
  · exact h
def c_handle : FSpec := ⟨[(.bx, .box [.int .i64, .int .i64, .int .i64, .int .i64, .int .i64, .bool, .list (.agg [.int .i64, .str]), .int .i64, .int .i64, .int .i64, .list (.int .i64), .list (.int .i64), .list (.int .i64)]), (.rd, .agg [.int .i64, .int .i64, .int .i64, .int .i64, .int .i64, .int .i64, .int .i64, .bool, .list (.agg [.int .i64, .str])])], [.list (.agg [.int .i64, .int .i64, .int .i64, .int .i64, .int .i64, .int .i64, .int .i64, .bool, .list (.agg [.int .i64, .str])])], true, fun ps => NdF (ndOf (nth ps 0).A) ∧ MgF (ndOf (nth ps 0).A) (mgOf (nth ps 1).A), fun ps => [.list (handR (newT (ndOf (nth ps 0).A) (nth (nth ps 1).A 3).I) (mgOf (nth ps 1).A)).2],
  fun ps => [(handR (newT (ndOf (nth ps 0).A) (nth (nth ps 1).A 3).I) (mgOf (nth ps 1).A)).1.pv]⟩
set_option maxHeartbeats 2000000 in
theorem k_handle : FnOk Try.prog 32 c_handle := by
  refine fn_mk [0, 1, 3, 4, 5, 6, 7, 26] [.tmp 4] (env_cons (cs := []) k_replicate (env_cons (cs := []) k_advance (env_cons (cs := []) k_take (env_cons (cs := []) k_lead (env_cons (cs := []) k_Insert (env_cons (cs := []) k_BinarySearch (env_cons (cs := []) k_isUpToDate (env_cons (cs := []) k_message (env_cons (cs := []) k_follow (env_nil (tyTab_ok []))))))))))) mixed Try.func32 rfl (by decide) rfl (by decide) rfl ?_
  intro ps hT hpre W hW
  simp only [c_handle, TyA, Ty, Tys] at hT hpre
  obtain ⟨_, _, rfl, ⟨_, rfl, _, _, rfl, ⟨n0, rfl, hn0⟩, _, _, rfl, ⟨n1, rfl, hn1⟩, _, _, rfl, ⟨n2, rfl, hn2⟩, _, _, rfl, ⟨n3, rfl, hn3⟩, _, _, rfl, ⟨n4, rfl, hn4⟩, _, _, rfl, ⟨u, rfl⟩, _, _, rfl, ⟨es, rfl, hes, tes⟩, _, _, rfl, ⟨n5, rfl, hn5⟩, _, _, rfl, ⟨n6, rfl, hn6⟩, _, _, rfl, ⟨n7, rfl, hn7⟩, _, _, rfl, ⟨vs, rfl, hvs, tvs⟩, _, _, rfl, ⟨xs, rfl, hxs, txs⟩, _, _, rfl, ⟨ms, rfl, hms, tms⟩, rfl⟩, _, _, rfl, ⟨_, rfl, _, _, rfl, ⟨m0, rfl, hm0⟩, _, _, rfl, ⟨m1, rfl, hm1⟩, _, _, rfl, ⟨m2, rfl, hm2⟩, _, _, rfl, ⟨m3, rfl, hm3⟩, _, _, rfl, ⟨m4, rfl, hm4⟩, _, _, rfl, ⟨m5, rfl, hm5⟩, _, _, rfl, ⟨m6, rfl, hm6⟩, _, _, rfl, ⟨m7, rfl⟩, _, _, rfl, ⟨m8, rfl, hm8, tm8⟩, rfl⟩, rfl⟩ := hT
  simp only [nth_zero, nth_succ, pv_I, pv_L, pv_A, pv_B, ndOf, mgOf] at hpre
  obtain ⟨hF, hM⟩ := hpre
  obtain ⟨nd, hnd⟩ : ∃ nd : ND, nd = ⟨n0, n1, n2, n3, n4, u, es, n5, n6, n7, vs, xs, ms⟩ := ⟨_, rfl⟩
  refine hW.vc [] _ _ ?_
  simp [-List.getD_eq_getElem?_getD, c_handle, c_follow, c_message, c_isUpToDate, c_BinarySearch, c_Insert, c_lead, c_take, c_advance, c_replicate]
  refine hW.cutS [_, _] _ _ [.bx 0 [.int .i64, .int .i64, .int .i64, .int .i64, .int .i64, .bool, .list (.agg [.int .i64, .str]), .int .i64, .int .i64, .int .i64, .list (.int .i64), .list (.int .i64), .list (.int .i64)]] (fun ys => ys = [(newT nd m3).pv]) ?_ ?_
  · refine hW.vc [(1, [], .take 0 <| .take 1 <| .take 2 <| .take 3 <| .take 4 <| .take 5 <| .take 6 <| .done)] _ _ ?_
    simp [-List.getD_eq_getElem?_getD, c_handle, c_follow, c_message, c_isUpToDate, c_BinarySearch, c_Insert, c_lead, c_take, c_advance, c_replicate, ndOf, ND.pv, followN]
    refine ⟨by decide +kernel, fun h => ⟨⟨hF.n1, hF.n5⟩, ?_⟩, fun h => ?_⟩
    · have e : newT nd m3 = ⟨n0, n1, m3, -1, 0, u, es, n5, n6, n7, [], List.replicate n1.toNat (.int .i64 1), List.replicate n1.toNat (.int .i64 0)⟩ := by rw [hnd, newT, if_pos h]; rfl
      rw [e]; exact ⟨rfl, rfl, rfl, rfl, rfl, rfl, rfl, rfl, rfl, rfl, rfl, rfl, rfl⟩
    · have e : newT nd m3 = ⟨n0, n1, n2, n3, n4, u, es, n5, n6, n7, vs, xs, ms⟩ := by rw [hnd, newT, if_neg (Int.not_lt.2 h)]
      rw [e]; exact ⟨rfl, rfl, rfl, rfl, rfl, rfl, rfl, rfl, rfl, rfl, rfl, rfl, rfl⟩
  · rintro ys rfl
    refine hW.vc [] _ _ ?_
    simp [-List.getD_eq_getElem?_getD, c_handle, c_follow, c_message, c_isUpToDate, c_BinarySearch, c_Insert, c_lead, c_take, c_advance, c_replicate, ndOf, mgOf, ND.pv, takeM]
    have hT : NdF (newT nd m3) := newT_F (by rw [hnd]; exact hF) hM.tM
    obtain ⟨T, hTd⟩ : ∃ T, T = newT nd m3 := ⟨_, rfl⟩
    rw [← hTd] at hT ⊢
    have hTd' : newT ⟨n0, n1, n2, n3, n4, u, es, n5, n6, n7, vs, xs, ms⟩ m3 = T := by rw [hTd, hnd]
    have eta : (⟨T.id, T.nodes, T.term, T.vote, T.role, T.up, T.log, T.com, T.ela, T.wt, T.vs, T.nx, T.ms⟩ : ND) = T := rfl
    have hm0 : 0 ≤ m1 := hM.f0
    have hm1 : m1 < n1 := hM.f1
    have l6 := hT.l6
    have a1 := hT.n1
    have a2 := hT.n5
    have a3 := hT.nx
    have a4 := hT.ms
    have hTn : T.nodes = n1 := by rw [hTd, hnd, newT]; split <;> rfl
    have hTt : m3 ≤ T.term := by
      rw [hTd, hnd, newT]; split
      · exact Int.le_refl _
      · rename_i h; exact Int.not_lt.1 h
    obtain ⟨mg, hmg⟩ : ∃ mg : MG, mg = ⟨m0, m1, m2, m3, m4, m5, m6, m7, m8⟩ := ⟨_, rfl⟩
    refine ⟨fun k1 => ?_, fun k1 => ⟨fun k2 => ?_, fun k2 => ⟨fun k3 => ?_, fun k3 => ?_⟩⟩⟩
    · refine hW.vc [(1, [], .take 0 <| .take 1 <| .take 2 <| .take 3 <| .take 4 <| .take 5 <| .take 6 <| .done), (7, [32], .take 0 <| .take 1 <| .take 2 <| .take 3 <| .take 4 <| .take 5 <| .take 6 <| .take 7 <| .take 8 <| .take 9 <| .take 10 <| .take 11 <| .take 12 <| .take 13 <| .take 14 <| .take 15 <| .take 16 <| .take 17 <| .take 18 <| .take 19 <| .take 20 <| .take 21 <| .take 22 <| .take 23 <| .take 24 <| .take 25 <| .take 26 <| .take 27 <| .take 28 <| .alt 29 (.take 30 <| .take 31 <| .alt 32 (.done) .stop) .stop), (12, [], .take 0 <| .take 1 <| .take 2 <| .take 3 <| .take 4 <| .take 5 <| .take 6 <| .take 7 <| .take 8 <| .take 9 <| .take 10 <| .take 11 <| .take 12 <| .take 13 <| .take 14 <| .take 15 <| .take 16 <| .take 17 <| .take 18 <| .done), (14, [], .take 0 <| .take 1 <| .take 2 <| .take 3 <| .take 4 <| .take 5 <| .alt 6 (.take 7 <| .take 8 <| .take 9 <| .alt 10 (.alt 11 (.done) .stop) .stop) .stop), (16, [9, 12], .take 0 <| .take 1 <| .take 2 <| .take 3 <| .take 4 <| .take 5 <| .take 6 <| .take 7 <| .alt 8 (.alt 9 (.take 10 <| .take 11 <| .alt 12 (.done) .stop) .stop) .stop), (17, [], .take 0 <| .take 1 <| .take 2 <| .take 3 <| .take 4 <| .take 5 <| .take 6 <| .take 7 <| .take 8 <| .take 9 <| .take 10 <| .done), (22, [], .take 0 <| .take 1 <| .take 2 <| .take 3 <| .take 4 <| .take 5 <| .take 6 <| .take 7 <| .take 8 <| .take 9 <| .take 10 <| .take 11 <| .take 12 <| .take 13 <| .done), (25, [24], .take 0 <| .take 1 <| .take 2 <| .take 3 <| .take 4 <| .take 5 <| .take 6 <| .take 7 <| .take 8 <| .take 9 <| .take 10 <| .take 11 <| .take 12 <| .take 13 <| .take 14 <| .take 15 <| .take 16 <| .take 17 <| .take 18 <| .take 19 <| .take 20 <| .take 21 <| .take 22 <| .take 23 <| .alt 24 (.done) .stop), (26, [25], .take 0 <| .take 1 <| .take 2 <| .take 3 <| .take 4 <| .take 5 <| .take 6 <| .take 7 <| .take 8 <| .take 9 <| .take 10 <| .take 11 <| .take 12 <| .take 13 <| .take 14 <| .take 15 <| .take 16 <| .take 17 <| .take 18 <| .take 19 <| .take 20 <| .take 21 <| .take 22 <| .take 23 <| .take 24 <| .alt 25 (.done) .stop), (29, [30], .take 0 <| .take 1 <| .take 2 <| .take 3 <| .take 4 <| .take 5 <| .take 6 <| .take 7 <| .take 8 <| .take 9 <| .take 10 <| .take 11 <| .take 12 <| .take 13 <| .take 14 <| .take 15 <| .take 16 <| .take 17 <| .take 18 <| .take 19 <| .take 20 <| .take 21 <| .take 22 <| .take 23 <| .take 24 <| .take 25 <| .take 26 <| .take 27 <| .take 28 <| .take 29 <| .alt 30 (.done) .stop)] _ _ ?_
      simp [-List.getD_eq_getElem?_getD, c_handle, c_follow, c_message, c_isUpToDate, c_BinarySearch, c_Insert, c_lead, c_take, c_advance, c_replicate, ndOf, mgOf, ND.pv, hTd', eta]
      rw [← hmg, handR, if_pos (by rw [hmg]; exact k1)]
      have hvB : votB T mg = (decide (m3 = T.term) && (decide (T.vote = -1) || decide (T.vote = m1)) && upB1 T.log m4 m5) := by rw [hmg]; rfl
      refine ⟨by decide +kernel, fun a => ⟨a, fun b => ⟨a, b⟩⟩, fun _ _ => by omega, fun a b c => ?_, fun a => ?_⟩
      · have hv : votB T mg = true := by rw [hvB]; simp [a, b, c]
        rw [votN, if_pos hv, votM, hvB, hmg]
        exact ⟨rfl, rfl, rfl, rfl, rfl, rfl, rfl, rfl, rfl, rfl, rfl, rfl, rfl, rfl⟩
      · have hv : ¬ votB T mg = true := by
          rw [hvB]
          simp only [Bool.and_eq_true, Bool.or_eq_true, decide_eq_true_eq]
          intro h
          have := a h.1.1 h.1.2
          rw [this] at h
          exact absurd h.2 (by simp)
        rw [votN, if_neg hv, votM, hvB, hmg]
        exact ⟨rfl, rfl, rfl, rfl, rfl, rfl, rfl, rfl, rfl, rfl, rfl, rfl, rfl, rfl⟩
    · refine hW.vc [(12, [], .take 0 <| .take 1 <| .take 2 <| .take 3 <| .take 4 <| .take 5 <| .take 6 <| .take 7 <| .take 8 <| .take 9 <| .take 10 <| .take 11 <| .take 12 <| .take 13 <| .take 14 <| .take 15 <| .take 16 <| .take 17 <| .take 18 <| .done), (14, [], .take 0 <| .take 1 <| .take 2 <| .take 3 <| .take 4 <| .take 5 <| .alt 6 (.take 7 <| .take 8 <| .take 9 <| .alt 10 (.alt 11 (.done) .stop) .stop) .stop)] _ _ ?_
      simp [-List.getD_eq_getElem?_getD, c_handle, c_follow, c_message, c_isUpToDate, c_BinarySearch, c_Insert, c_lead, c_take, c_advance, c_replicate, ndOf, mgOf, ND.pv, hTd', eta]
      have vl := vo_len' hT.vo (by omega)
      have vo := vo_le' hT.n5 hT.vo
      have pl := posV_le m1 T.vs
      have hH : handR T mg = elecR T mg := by rw [handR, if_neg (by rw [hmg]; exact k1), if_pos (by rw [hmg]; exact k2)]
      have hE1 : m7 = true → m3 = T.term → T.role = 1 → elecR T mg = if T.nodes < 2 * (insV m1 T.vs).length then (leadA { T with vs := insV m1 T.vs }, repAll (leadA { T with vs := insV m1 T.vs }) T.nodes.toNat) else ({ T with vs := insV m1 T.vs }, []) := fun h1 h2 h3 => by
        rw [elecR, if_neg (by rw [hmg]; simp [h1, h2, h3]), hmg]
      rw [← hmg]
      refine ⟨by decide +kernel, fun h => ?_, fun r t o => ⟨by decide +kernel, ⟨by omega, vo⟩, fun hv => ?_, fun hv => ?_⟩⟩
      · have e : elecR T mg = (T, []) := by
          rw [elecR, if_pos]
          rw [hmg]
          rcases h with (h | h) | h
          · exact .inl h
          · exact .inr (.inl h)
          · exact .inr (.inr h)
        rw [hH, e]
        exact ⟨rfl, rfl, rfl, rfl, rfl, rfl, rfl, rfl, rfl, rfl, rfl, rfl, rfl, rfl⟩
      · have hI : insV m1 T.vs = T.vs.take (posV m1 T.vs) ++ (.int .i64 m1 :: T.vs.drop (posV m1 T.vs)) := by rw [insV, if_neg (by rw [hv]; simp)]; simp
        have hlen : (insV m1 T.vs).length = T.vs.length + 1 := by rw [hI]; simp; omega
        refine hW.vc [(16, [9, 12], .take 0 <| .take 1 <| .take 2 <| .take 3 <| .take 4 <| .take 5 <| .take 6 <| .take 7 <| .alt 8 (.alt 9 (.take 10 <| .take 11 <| .alt 12 (.done) .stop) .stop) .stop), (17, [], .take 0 <| .take 1 <| .take 2 <| .take 3 <| .take 4 <| .take 5 <| .take 6 <| .take 7 <| .take 8 <| .take 9 <| .take 10 <| .done)] _ _ ?_
        simp [-List.getD_eq_getElem?_getD, c_handle, c_follow, c_message, c_isUpToDate, c_BinarySearch, c_Insert, c_lead, c_take, c_advance, c_replicate, ndOf, mgOf, ND.pv, hTd', eta]
        rw [← hmg, hH, hE1 o t r, wrap64 (n := 2 * _) (by omega)]
        refine ⟨by decide +kernel, ⟨pl, by omega⟩, by decide +kernel, fun _ => ⟨fun h => ?_, fun h => ?_⟩⟩
        · rw [if_pos (by rw [hlen]; omega), hI]
          exact ⟨⟨a1, a2, hT.c0, l6⟩, rfl, rfl, rfl, rfl, rfl, rfl, rfl, rfl, rfl, rfl, rfl, rfl, rfl, rfl⟩
        · rw [if_neg (by rw [hlen]; omega), hI]
          exact ⟨rfl, rfl, rfl, rfl, rfl, rfl, rfl, rfl, rfl, rfl, rfl, rfl, rfl, rfl⟩
      · have hI : insV m1 T.vs = T.vs := by rw [insV, if_pos hv]
        refine hW.vc [(17, [], .take 0 <| .take 1 <| .take 2 <| .take 3 <| .take 4 <| .take 5 <| .take 6 <| .take 7 <| .take 8 <| .take 9 <| .take 10 <| .done)] _ _ ?_
        simp [-List.getD_eq_getElem?_getD, c_handle, c_follow, c_message, c_isUpToDate, c_BinarySearch, c_Insert, c_lead, c_take, c_advance, c_replicate, ndOf, mgOf, ND.pv, hTd', eta]
        rw [← hmg, hH, hE1 o t r, hI, wrap64 (n := 2 * _) (by omega)]
        refine ⟨by decide +kernel, fun _ => ⟨fun h => ?_, fun h => ?_⟩⟩
        · rw [if_pos h]
          exact ⟨⟨a1, a2, hT.c0, l6⟩, rfl, rfl, rfl, rfl, rfl, rfl, rfl, rfl, rfl, rfl, rfl, rfl, rfl, rfl⟩
        · rw [if_neg (by omega)]
          exact ⟨rfl, rfl, rfl, rfl, rfl, rfl, rfl, rfl, rfl, rfl, rfl, rfl, rfl, rfl⟩
    · rw [hTd', eta, ← hmg]
      have hH : handR T mg = ((takeR T mg).1, [takeM T mg (takeR T mg).2.1 (takeR T mg).2.2]) := by
        rw [handR, if_neg (by rw [hmg]; exact k1), if_neg (by rw [hmg]; exact k2), if_pos (by rw [hmg]; exact k3)]
      rw [hH]
      exact ⟨⟨hT, by rw [hmg]; exact hM.i0, by rw [hmg]; exact hM.i6, by rw [hmg]; exact hM.es, by rw [hmg]; exact hTt⟩, by rw [hmg]; rfl, rfl, rfl, rfl, rfl, rfl, rfl, rfl, rfl, rfl, rfl, rfl, rfl, rfl⟩
    · have h6 : ∀ x, nth (T.ms.set m1.toNat x) m1.toNat = x := fun x => nth_set (by omega)
      have h7 : ∀ x, nth (T.nx.set m1.toNat x) m1.toNat = x := fun x => nth_set (by omega)
      have nm := nm_get hT.nm (by omega) m1.toNat (by omega)
      have hH : handR T mg = ansR T mg := by
        rw [handR, if_neg (by rw [hmg]; exact k1), if_neg (by rw [hmg]; exact k2), if_neg (by rw [hmg]; exact k3)]
      have hi0 : 0 ≤ m4 := hM.i0
      have hi6 : m4 ≤ 60 := hM.i6
      have bX : 0 ≤ mxI (nth T.ms m1.toNat).I (mnI m4 T.log.length) ∧ mxI (nth T.ms m1.toNat).I (mnI m4 T.log.length) ≤ 61 := by
        unfold mxI mnI
        split <;> split <;> omega
      have w1 := wrap64 (n := mxI (nth T.ms m1.toNat).I (mnI m4 T.log.length) + 1) (by omega)
      have w2 := wrap64 (n := (nth T.ms m1.toNat).I + 1) (by omega)
      have w3 := wrap64 (n := (nth T.nx m1.toNat).I - 1) (by omega)
      have w4 := wrap64 (n := m4 + 1) (by omega)
      have hA : ackN T mg = ⟨T.id, T.nodes, T.term, T.vote, T.role, T.up, T.log, T.com, T.ela, T.wt, T.vs, T.nx.set m1.toNat (.int .i64 (mxI (nth T.nx m1.toNat).I (mxI (nth T.ms m1.toNat).I (mnI m4 T.log.length) + 1))), T.ms.set m1.toNat (.int .i64 (mxI (nth T.ms m1.toNat).I (mnI m4 T.log.length)))⟩ := by
        rw [hmg]; simp only [ackN, ackM, h6, pv_I]
      have eN : (nth (nakN T mg).nx m1.toNat).I = mxI ((nth T.ms m1.toNat).I + 1) (mnI ((nth T.nx m1.toNat).I - 1) (m4 + 1)) := by
        rw [hmg]; simp only [nakN, h7, pv_I]
      have rO : repOk (nakN T mg) m1 := by
        have eL : ((nakN T mg).nx.length : Int) = T.nx.length := by rw [hmg]; simp only [nakN, List.length_set]
        have eG : (nakN T mg).log = T.log := rfl
        refine ⟨hm0, by omega, ?_, ?_, by rw [eG]; omega⟩
        · rw [eN]; unfold mxI mnI; split <;> split <;> omega
        · rw [eN, eG]; unfold mxI mnI; split <;> split <;> omega
      unfold mxI mnI at w1
      refine hW.vc [(1, [], .take 0 <| .take 1 <| .take 2 <| .take 3 <| .take 4 <| .take 5 <| .take 6 <| .done), (7, [32], .take 0 <| .take 1 <| .take 2 <| .take 3 <| .take 4 <| .take 5 <| .take 6 <| .take 7 <| .take 8 <| .take 9 <| .take 10 <| .take 11 <| .take 12 <| .take 13 <| .take 14 <| .take 15 <| .take 16 <| .take 17 <| .take 18 <| .take 19 <| .take 20 <| .take 21 <| .take 22 <| .take 23 <| .take 24 <| .take 25 <| .take 26 <| .take 27 <| .take 28 <| .alt 29 (.take 30 <| .take 31 <| .alt 32 (.done) .stop) .stop), (12, [], .take 0 <| .take 1 <| .take 2 <| .take 3 <| .take 4 <| .take 5 <| .take 6 <| .take 7 <| .take 8 <| .take 9 <| .take 10 <| .take 11 <| .take 12 <| .take 13 <| .take 14 <| .take 15 <| .take 16 <| .take 17 <| .take 18 <| .done), (14, [], .take 0 <| .take 1 <| .take 2 <| .take 3 <| .take 4 <| .take 5 <| .alt 6 (.take 7 <| .take 8 <| .take 9 <| .alt 10 (.alt 11 (.done) .stop) .stop) .stop), (16, [9, 12], .take 0 <| .take 1 <| .take 2 <| .take 3 <| .take 4 <| .take 5 <| .take 6 <| .take 7 <| .alt 8 (.alt 9 (.take 10 <| .take 11 <| .alt 12 (.done) .stop) .stop) .stop), (17, [], .take 0 <| .take 1 <| .take 2 <| .take 3 <| .take 4 <| .take 5 <| .take 6 <| .take 7 <| .take 8 <| .take 9 <| .take 10 <| .done), (22, [], .take 0 <| .take 1 <| .take 2 <| .take 3 <| .take 4 <| .take 5 <| .take 6 <| .take 7 <| .take 8 <| .take 9 <| .take 10 <| .take 11 <| .take 12 <| .take 13 <| .done), (25, [24], .take 0 <| .take 1 <| .take 2 <| .take 3 <| .take 4 <| .take 5 <| .take 6 <| .take 7 <| .take 8 <| .take 9 <| .take 10 <| .take 11 <| .take 12 <| .take 13 <| .take 14 <| .take 15 <| .take 16 <| .take 17 <| .take 18 <| .take 19 <| .take 20 <| .take 21 <| .take 22 <| .take 23 <| .alt 24 (.done) .stop), (26, [25], .take 0 <| .take 1 <| .take 2 <| .take 3 <| .take 4 <| .take 5 <| .take 6 <| .take 7 <| .take 8 <| .take 9 <| .take 10 <| .take 11 <| .take 12 <| .take 13 <| .take 14 <| .take 15 <| .take 16 <| .take 17 <| .take 18 <| .take 19 <| .take 20 <| .take 21 <| .take 22 <| .take 23 <| .take 24 <| .alt 25 (.done) .stop), (29, [30], .take 0 <| .take 1 <| .take 2 <| .take 3 <| .take 4 <| .take 5 <| .take 6 <| .take 7 <| .take 8 <| .take 9 <| .take 10 <| .take 11 <| .take 12 <| .take 13 <| .take 14 <| .take 15 <| .take 16 <| .take 17 <| .take 18 <| .take 19 <| .take 20 <| .take 21 <| .take 22 <| .take 23 <| .take 24 <| .take 25 <| .take 26 <| .take 27 <| .take 28 <| .take 29 <| .alt 30 (.done) .stop)] _ _ ?_
      simp [-List.getD_eq_getElem?_getD, c_handle, c_follow, c_message, c_isUpToDate, c_BinarySearch, c_Insert, c_lead, c_take, c_advance, c_replicate, ndOf, mgOf, ND.pv, repM, hTd', eta, h6, h7]
      rw [w1, w2, w3, w4, ← hmg, hH]
      refine ⟨by decide +kernel, fun h => ?_, fun r t => ⟨fun o => ?_, fun o => ?_⟩⟩
      · have e : ansR T mg = (T, []) := by
          rw [ansR, if_pos (by rw [hmg]; exact h)]
        rw [e]
        exact ⟨rfl, rfl, rfl, rfl, rfl, rfl, rfl, rfl, rfl, rfl, rfl, rfl, rfl, rfl⟩
      · have e : ansR T mg = ({ ackN T mg with com := advG (ackN T mg) T.log.length }, []) := by
          rw [ansR, if_neg (by rw [hmg]; simp [r, t]), if_pos (by rw [hmg]; exact o)]
        rw [e, hA]
        exact ⟨by decide +kernel, ⟨hm0, by omega⟩, by omega, fun _ _ => ⟨⟨hm0, by omega⟩, by omega, by decide +kernel, ⟨hm0, by omega⟩, by omega, fun _ => ⟨⟨hm0, by omega⟩, by omega, fun _ _ => ⟨⟨hm0, by omega⟩, by omega, ⟨hT.c0, by omega, by omega⟩, rfl, rfl, rfl, rfl, rfl, rfl, rfl, rfl, rfl, rfl, rfl, rfl, rfl, rfl⟩⟩⟩⟩
      · have e : ansR T mg = (nakN T mg, [repV (nakN T mg) m1]) := by
          rw [ansR, if_neg (by rw [hmg]; simp [r, t]), if_neg (by rw [hmg]; simp [o]), hmg]
        have hN : nakN T mg = ⟨T.id, T.nodes, T.term, T.vote, T.role, T.up, T.log, T.com, T.ela, T.wt, T.vs, T.nx.set m1.toNat (.int .i64 (mxI ((nth T.ms m1.toNat).I + 1) (mnI ((nth T.nx m1.toNat).I - 1) (m4 + 1)))), T.ms⟩ := by
          rw [hmg]; rfl
        rw [hN] at rO
        have hR := congrArg (fun n => repV n m1) hN
        simp only [repV, repM, h7, pv_I] at hR
        rw [e, repV, repM, hR, hN]
        exact ⟨by decide +kernel, ⟨hm0, by omega⟩, by omega, fun _ => ⟨⟨hm0, by omega⟩, by omega, fun _ => ⟨⟨hm0, by omega⟩, by omega, rO, rfl, rfl, rfl, rfl, rfl, rfl, rfl, rfl, rfl, rfl, rfl, rfl, rfl, rfl⟩⟩⟩

end Go.Proofs.Ytkofjkjcbljkdaa
end

section
namespace Go.Proofs.Ytkofjkjcbljkdaa
variable [LaidG]
set_option maxRecDepth 100000
set_option linter.unusedSimpArgs false

def mgB1 (m : MG) : Bool := inB m.kind 1 4 && inB m.frm 0 4 && inB m.to 0 4 && !decide (m.frm = m.to) && inB m.term 1 1000 && inB m.idx 0 60 && inB m.com 0 60 && inB m.lt 0 m.term
def mgB2 (m : MG) : Bool := entsB m.term m.es && leB m.es.length (60 - m.idx) && (decide ((m.es.length : Int) = 0) || leB m.lt (nth (nth m.es 0).A 0).I) && (ltB 0 m.idx || decide (m.lt = 0))
def mgB (m : MG) : Bool := mgB1 m && cond (m.kind == 3) (mgB2 m) (decide ((m.es.length : Int) = 0))
def c_isMessage : FSpec := ⟨[(.rd, .agg [.int .i64, .int .i64, .int .i64, .int .i64, .int .i64, .int .i64, .int .i64, .bool, .list (.agg [.int .i64, .str])])], [.bool], true, fun _ => True, fun ps => [.bool (mgB (mgOf (nth ps 0).A))], fun _ => []⟩
theorem k_isMessage : FnOk Try.prog 30 c_isMessage := by
  refine fn_mk [0, 1, 2] [.tmp 2] (env_cons (cs := []) k_areEntries (env_cons (cs := []) k_within (env_nil (tyTab_ok [])))) mixed Try.func30 rfl (by decide) rfl (by decide) rfl ?_
  intro ps hT hpre W hW
  simp only [c_isMessage, TyA, Ty, Tys] at hT hpre
  obtain ⟨_, _, rfl, ⟨_, rfl, _, _, rfl, ⟨m0, rfl, hm0⟩, _, _, rfl, ⟨m1, rfl, hm1⟩, _, _, rfl, ⟨m2, rfl, hm2⟩, _, _, rfl, ⟨m3, rfl, hm3⟩, _, _, rfl, ⟨m4, rfl, hm4⟩, _, _, rfl, ⟨m5, rfl, hm5⟩, _, _, rfl, ⟨m6, rfl, hm6⟩, _, _, rfl, ⟨m7, rfl⟩, _, _, rfl, ⟨m8, rfl, hm8, tm8⟩, rfl⟩, rfl⟩ := hT
  refine hW.vc [(5, [], .take 0 <| .take 1 <| .take 2 <| .take 3 <| .alt 4 (.take 5 <| .take 6 <| .take 7 <| .take 8 <| .take 9 <| .take 10 <| .take 11 <| .take 12 <| .take 13 <| .take 14 <| .take 15 <| .take 16 <| .take 17 <| .take 18 <| .take 19 <| .take 20 <| .take 21 <| .take 22 <| .take 23 <| .take 24 <| .take 25 <| .take 26 <| .take 27 <| .take 28 <| .take 29 <| .take 30 <| .take 31 <| .take 32 <| .take 33 <| .take 34 <| .take 35 <| .take 36 <| .take 37 <| .take 38 <| .take 39 <| .alt 40 (.done) .stop) .stop)] _ _ ?_
  simp [-List.getD_eq_getElem?_getD, c_isMessage, c_within, c_areEntries, mgOf]
  refine ⟨fun h => ?_, fun b1 b2 b3 b4 b5 b6 b7 b8 => ⟨fun h _ => ?_, fun h => ⟨by decide +kernel, fun _ _ => ⟨fun a b c => ⟨⟨⟨a, b⟩, c⟩, List.length_pos_iff.2 c⟩, fun _ => ⟨fun a b => ⟨⟨a, b⟩, fun c => ⟨⟨a, b⟩, c⟩⟩, fun a b c => ⟨⟨⟨a, b⟩, c⟩, fun d => ⟨⟨⟨a, b⟩, c⟩, d⟩⟩, ?_⟩⟩⟩⟩⟩
  · have : mgB1 ⟨m0, m1, m2, m3, m4, m5, m6, m7, m8⟩ = false := by
      rcases h with ((((((h | h) | h) | h) | h) | h) | h) | h <;> simp [mgB1, h]
    simp [mgB, this]
  · have h1 : mgB1 ⟨m0, m1, m2, m3, m4, m5, m6, m7, m8⟩ = true := by simp [mgB1, b1, b2, b3, b4, b5, b6, b7, b8]
    have hk : (m0 == 3) = false := by simp [h]
    simp only [mgB, h1, hk, cond_false, Bool.true_and]
    rw [Bool.eq_iff_iff]
    simp
  · have h1 : mgB1 ⟨m0, m1, m2, m3, m4, m5, m6, m7, m8⟩ = true := by simp [mgB1, b1, b2, b3, b4, b5, b6, b7, b8]
    have hk : (m0 == 3) = true := by simp [h]
    rw [wrap64 (n := 60 - m4) (by simp [inB] at b6; omega)]
    simp only [mgB, h1, hk, cond_true, Bool.true_and, mgB2, leB, ltB]
    rw [Bool.eq_iff_iff]
    simp

theorem mgB_F {n : ND} {m : MG} (h : mgB m = true) (hf : m.frm < n.nodes) : MgF n m := by
  have hl : m.es.length ≤ 60 := by
    simp only [mgB, Bool.and_eq_true] at h
    obtain ⟨h1, h2⟩ := h
    cases hk : m.kind == 3 with
    | true =>
      rw [hk, cond_true] at h2
      simp only [mgB2, entsB, leB, Bool.and_eq_true, decide_eq_true_eq] at h2
      omega
    | false =>
      rw [hk, cond_false] at h2
      simp only [decide_eq_true_eq] at h2
      omega
  simp only [mgB, mgB1, inB, Bool.and_eq_true, decide_eq_true_eq] at h
  exact ⟨by omega, by omega, by omega, hf, by omega, by omega, by omega, by omega, by omega, by omega, hl⟩

def tkOf (n : ND) (m : MG) : ND × List PV × Int :=
  cond (nodeB n && mgB m) (cond (decide (m.to = n.id) && decide (m.frm < n.nodes)) (cond n.up (cond (nodeB (handR (newT n m.term) m).1) ((handR (newT n m.term) m).1, (handR (newT n m.term) m).2, 0) (n, [], 3)) (n, [], 13)) (ND.no, [], 4)) (ND.no, [], 1)
def c_iNodeTake : FSpec := ⟨[(.rd, .agg [.int .i64, .int .i64, .int .i64, .int .i64, .int .i64, .bool, .list (.agg [.int .i64, .str]), .int .i64, .int .i64, .int .i64, .list (.int .i64), .list (.int .i64), .list (.int .i64)]), (.rd, .agg [.int .i64, .int .i64, .int .i64, .int .i64, .int .i64, .int .i64, .int .i64, .bool, .list (.agg [.int .i64, .str])])], [.agg [.int .i64, .int .i64, .int .i64, .int .i64, .int .i64, .bool, .list (.agg [.int .i64, .str]), .int .i64, .int .i64, .int .i64, .list (.int .i64), .list (.int .i64), .list (.int .i64)], .list (.agg [.int .i64, .int .i64, .int .i64, .int .i64, .int .i64, .int .i64, .int .i64, .bool, .list (.agg [.int .i64, .str])]), .int .i64], true, fun ps => (nth (nth ps 0).A 10).L.length ≤ 1048576,
  fun ps => [(tkOf (ndOf (nth ps 0).A) (mgOf (nth ps 1).A)).1.pv, .list (tkOf (ndOf (nth ps 0).A) (mgOf (nth ps 1).A)).2.1, .int .i64 (tkOf (ndOf (nth ps 0).A) (mgOf (nth ps 1).A)).2.2], fun _ => []⟩
theorem k_iNodeTake : FnOk Try.prog 8 c_iNodeTake := by
  refine fn_mk [0, 1, 2, 3, 4, 5, 6, 7, 8] [.cell 4 26, .tmp 5, .tmp 6] (env_cons (cs := []) k_handle (env_cons (cs := []) k_cloneNode (env_cons (cs := []) k_isMessage (env_cons (cs := []) k_isNode (env_nil (tyTab_ok [])))))) mixed Try.func8 rfl (by decide) rfl (by decide) rfl ?_
  intro ps hT hpre W hW
  simp only [c_iNodeTake, TyA, Ty, Tys] at hT hpre
  obtain ⟨_, _, rfl, ⟨_, rfl, _, _, rfl, ⟨n0, rfl, hn0⟩, _, _, rfl, ⟨n1, rfl, hn1⟩, _, _, rfl, ⟨n2, rfl, hn2⟩, _, _, rfl, ⟨n3, rfl, hn3⟩, _, _, rfl, ⟨n4, rfl, hn4⟩, _, _, rfl, ⟨u, rfl⟩, _, _, rfl, ⟨es, rfl, hes, tes⟩, _, _, rfl, ⟨n5, rfl, hn5⟩, _, _, rfl, ⟨n6, rfl, hn6⟩, _, _, rfl, ⟨n7, rfl, hn7⟩, _, _, rfl, ⟨vs, rfl, hvs, tvs⟩, _, _, rfl, ⟨xs, rfl, hxs, txs⟩, _, _, rfl, ⟨ms, rfl, hms, tms⟩, rfl⟩, _, _, rfl, ⟨_, rfl, _, _, rfl, ⟨m0, rfl, hm0⟩, _, _, rfl, ⟨m1, rfl, hm1⟩, _, _, rfl, ⟨m2, rfl, hm2⟩, _, _, rfl, ⟨m3, rfl, hm3⟩, _, _, rfl, ⟨m4, rfl, hm4⟩, _, _, rfl, ⟨m5, rfl, hm5⟩, _, _, rfl, ⟨m6, rfl, hm6⟩, _, _, rfl, ⟨m7, rfl⟩, _, _, rfl, ⟨m8, rfl, hm8, tm8⟩, rfl⟩, rfl⟩ := hT
  simp only [nth_zero, nth_succ, pv_I, pv_L, pv_A] at hpre
  refine hW.vc [] _ _ ?_
  simp [-List.getD_eq_getElem?_getD, c_iNodeTake, c_isNode, c_isMessage, c_cloneNode, c_handle, c_toNode, c_toNode, ndOf, mgOf, ND.pv]
  obtain ⟨nd, hnd⟩ : ∃ nd : ND, nd = ⟨n0, n1, n2, n3, n4, u, es, n5, n6, n7, vs, xs, ms⟩ := ⟨_, rfl⟩
  obtain ⟨mg, hmg⟩ : ∃ mg : MG, mg = ⟨m0, m1, m2, m3, m4, m5, m6, m7, m8⟩ := ⟨_, rfl⟩
  rw [← hnd, ← hmg]
  refine ⟨fun h => ?_, fun h1 h2 => ⟨fun h3 => ?_, fun h3 h4 => ?_⟩⟩
  · have e : tkOf nd mg = (ND.no, [], 1) := by rcases h with h | h <;> simp [tkOf, h]
    rw [e]
    simp [ND.no]
  · have e : tkOf nd mg = (ND.no, [], 4) := by
      have : (decide (mg.to = nd.id) && decide (mg.frm < nd.nodes)) = false := by
        rw [hmg, hnd]
        simp only [Bool.and_eq_false_iff, decide_eq_false_iff_not]
        exact h3.imp id fun h => Int.not_lt.2 h
      simp [tkOf, h1, h2, this]
    rw [e]
    simp [ND.no]
  · have hF := nodeB_F h1
    have hM := mgB_F (n := nd) h2 (by rw [hmg, hnd]; exact h4)
    have f1 : es.length ≤ 60 ∧ (xs.length : Int) ≤ 5 ∧ (ms.length : Int) ≤ 5 := by
      have a1 := hF.l6; have a2 := hF.nx; have a3 := hF.ms; have a4 := hF.n5
      rw [hnd] at a1 a2 a3 a4
      simp only at a1 a2 a3 a4
      exact ⟨a1, by omega, by omega⟩
    have e0 : (decide (mg.to = nd.id) && decide (mg.frm < nd.nodes)) = true := by
      rw [hmg, hnd]
      simp only [Bool.and_eq_true, decide_eq_true_eq]
      exact ⟨h3, h4⟩
    have et : mg.term = m3 := by rw [hmg]
    refine ⟨fun hu => ⟨⟨by omega, hpre, by omega, by omega⟩, ?_⟩, fun hu => ⟨⟨by omega, hpre, by omega, by omega⟩, ⟨hF, hM⟩, fun h5 => ⟨⟨by omega, hpre, by omega, by omega⟩, ?_⟩, fun h5 => ?_⟩⟩
    · have e : tkOf nd mg = (nd, [], 13) := by rw [tkOf, h1, h2, e0, show nd.up = false by rw [hnd]; exact hu]; rfl
      rw [e, hnd]; exact ⟨⟨rfl, rfl, rfl, rfl, rfl, rfl, rfl, rfl, rfl, rfl, rfl, rfl, rfl⟩, rfl, rfl⟩
    · have e : tkOf nd mg = (nd, [], 3) := by rw [tkOf, h1, h2, e0, show nd.up = true by rw [hnd]; exact hu, et, show nodeB (handR (newT nd m3) mg).1 = false from h5]; rfl
      rw [e, hnd]; exact ⟨⟨rfl, rfl, rfl, rfl, rfl, rfl, rfl, rfl, rfl, rfl, rfl, rfl, rfl⟩, rfl, rfl⟩
    · have e : tkOf nd mg = ((handR (newT nd m3) mg).1, (handR (newT nd m3) mg).2, 0) := by rw [tkOf, h1, h2, e0, show nd.up = true by rw [hnd]; exact hu, et, show nodeB (handR (newT nd m3) mg).1 = true from h5]; rfl
      rw [e]; exact ⟨⟨rfl, rfl, rfl, rfl, rfl, rfl, rfl, rfl, rfl, rfl, rfl, rfl, rfl⟩, rfl, rfl⟩

end Go.Proofs.Ytkofjkjcbljkdaa
end

