/-
  Part 7 of the proof of FnExactNodeTake: a verification-condition generator over the program and the contracts of its functions, in the order of their use.
  Conditions: none.
-/
import Derived.Test.YtmjjdfhpnckacabM6
import Derived.Shelf.Spec.SlicesInsertGrow
set_option linter.unusedVariables false
set_option linter.unusedSimpArgs false

section
namespace Go.Proofs.Ytmjjdfhpnckacab
set_option maxRecDepth 100000
set_option linter.unusedSimpArgs false

/-- Entries of a term, none below the last. -/
def entB (t : Int) (p : Int) : List PV → Bool
  | [] => true
  | e :: es => leB (nth e.A 1).S.length 400 && inB (nth e.A 0).I 1 t && leB p (nth e.A 0).I && entB t (nth e.A 0).I es
def pvE (es : List PV) (i : Nat) : Int := if i = 0 then 0 else (nth (nth es (i - 1)).A 0).I
theorem pvE_succ (es : List PV) (i : Nat) : pvE es (i + 1) = (nth (nth es i).A 0).I := by simp [pvE]
theorem pvE_pos {es : List PV} {i : Nat} (h : 0 < i) : pvE es i = (nth (nth es (i - 1)).A 0).I := by rw [pvE, if_neg (by omega)]
def entsB (t : Int) (es : List PV) : Bool := entB t 0 es && leB es.length 60
def stB (t v : Int) (es : List PV) : Bool := inB t 0 1000 && inB v (-1) 4 && entsB t es

/-- Votes: places of nodes, each above the last. -/
def voB (n p : Int) : List PV → Bool
  | [] => true
  | e :: es => inB e.I 0 (n - 1) && decide (p < e.I) && voB n e.I es
def pvV (es : List PV) (i : Nat) : Int := if i = 0 then -1 else (nth es (i - 1)).I
theorem pvV_succ (es : List PV) (i : Nat) : pvV es (i + 1) = (nth es i).I := by simp [pvV]
theorem pvV_pos {es : List PV} {i : Nat} (h : 0 < i) : pvV es i = (nth es (i - 1)).I := by rw [pvV, if_neg (by omega)]

/-- What comes next, and what matches. -/
def nmB (l : Int) : List PV → List PV → Bool
  | x :: xs, m :: ms => inB x.I 1 (l + 1) && inB m.I 0 (x.I - 1) && nmB l xs ms
  | _, _ => true

/-- A node. -/
structure ND where
  id : Int
  nodes : Int
  term : Int
  vote : Int
  role : Int
  up : Bool
  log : List PV
  com : Int
  ela : Int
  wt : Int
  vs : List PV
  nx : List PV
  ms : List PV
def ND.pv (n : ND) : PV := .agg [.int .i64 n.id, .int .i64 n.nodes, .int .i64 n.term, .int .i64 n.vote, .int .i64 n.role, .bool n.up, .list n.log, .int .i64 n.com, .int .i64 n.ela, .int .i64 n.wt, .list n.vs, .list n.nx, .list n.ms]
def ndOf (v : List PV) : ND := ⟨(nth v 0).I, (nth v 1).I, (nth v 2).I, (nth v 3).I, (nth v 4).I, (nth v 5).B, (nth v 6).L, (nth v 7).I, (nth v 8).I, (nth v 9).I, (nth v 10).L, (nth v 11).L, (nth v 12).L⟩
def ND.no : ND := ⟨0, 0, 0, 0, 0, false, [], 0, 0, 0, [], [], []⟩
def ltB (a b : Int) : Bool := decide (a < b)
def ndB1 (n : ND) : Bool := inB n.nodes 1 5 && inB n.id 0 (n.nodes - 1) && stB n.term n.vote n.log && ltB n.vote n.nodes && inB n.role 0 2 && (n.up || n.role == 0) && inB n.com 0 n.log.length &&
  inB n.ela 0 1000 && inB n.wt 5 100 && (n.nx.length : Int) == n.nodes && (n.ms.length : Int) == n.nodes
def nodeB (n : ND) : Bool := ndB1 n && voB n.nodes (-1) n.vs && nmB n.log.length n.nx n.ms

def c_areEntries : FSpec := ⟨[(.rd, .list (.agg [.int .i64, .str])), (.rd, .int .i64)], [.bool], true, fun _ => True, fun ps => [.bool (entsB (nth ps 1).I (nth ps 0).L)], fun _ => []⟩
theorem k_areEntries : FnOk Try.prog 119 c_areEntries := by
  refine fn_mk [0, 1, 4, 5, 6, 7, 8, 9] [.tmp 4] (env_cons (cs := []) k_within (env_nil (tyTab_ok []))) mixed Try.func119 rfl (by decide) rfl (by decide) rfl ?_
  intro ps hT hpre W hW
  simp only [c_areEntries, TyA, Ty, Tys] at hT hpre
  obtain ⟨_, _, rfl, ⟨es, rfl, hes, tes⟩, _, _, rfl, ⟨t, rfl, ht⟩, rfl⟩ := hT
  refine hW.vc [(4, [], .take 0 <| .take 1 <| .take 2 <| .take 3 <| .take 4 <| .take 5 <| .take 6 <| .take 7 <| .alt 8 (.take 9 <| .take 10 <| .take 11 <| .take 12 <| .take 13 <| .take 14 <| .take 15 <| .take 16 <| .take 17 <| .take 18 <| .take 19 <| .take 20 <| .take 21 <| .take 22 <| .take 23 <| .take 24 <| .take 25 <| .done) .stop)] _ _ ?_
  simp [-List.getD_eq_getElem?_getD, c_areEntries, c_within]
  refine fun h1 => hW.loopS _ _ _ [.sl 9 .dp (.int .i64)] (fun ys => ∃ i : Nat, ys = [.int .i64 i] ∧ i ≤ es.length ∧ entB t 0 es = entB t (pvE es i) (es.drop i)) (fun ys => es.length - (nth ys 0).I.toNat) ?_ ?_
  · simp [-List.getD_eq_getElem?_getD, c_areEntries, c_within]
    exact ⟨0, rfl, by simp, by simp [pvE]⟩
  · rintro ys ⟨i, rfl, g1, g2⟩
    refine hW.vc [(4, [], .take 0 <| .take 1 <| .take 2 <| .take 3 <| .take 4 <| .take 5 <| .take 6 <| .take 7 <| .alt 8 (.take 9 <| .take 10 <| .take 11 <| .take 12 <| .take 13 <| .take 14 <| .take 15 <| .take 16 <| .take 17 <| .take 18 <| .take 19 <| .take 20 <| .take 21 <| .take 22 <| .take 23 <| .take 24 <| .take 25 <| .done) .stop)] _ _ ?_
    simp [-List.getD_eq_getElem?_getD, c_areEntries, c_within]
    have k2 : 0 < i → (IntKind.i64.wrap ((i : Int) - 1)).toNat = i - 1 := fun h => by rw [wrap64 (by omega)]; omega
    have k3 : 0 < i → IntKind.i64.wrap ((i : Int) - 1) = i - 1 := fun h => wrap64 (by omega)
    refine ⟨fun g3 => ⟨g3, fun _ _ _ => ⟨by decide +kernel, fun _ => ⟨fun g4 g5 g6 => ⟨⟨⟨g4, g5⟩, g6⟩, by rw [k3 g6]; omega⟩, fun g4 g5 g6 => ⟨⟨⟨g4, g5⟩, g6⟩, by rw [k2 g6]; omega⟩, fun _ => ⟨fun g4 g5 => ⟨⟨g4, g5⟩, fun g6 => ⟨⟨g4, g5⟩, g6⟩⟩, ?_⟩⟩⟩⟩, ?_⟩
    · rw [drop_nth g3, entB] at g2
      refine ⟨fun g4 => ?_, fun g4 g6 g5 => ?_⟩
      · rw [entsB, g2]
        rcases g4 with (g4 | g4) | ⟨g4, g5⟩
        · have : ¬ ((nth (nth es i).A 1).S.length : Int) ≤ 400 := by omega
          simp [this, leB]
        · simp [g4]
        · rw [k2 g4] at g5
          have : ¬ pvE es i ≤ (nth (nth es i).A 0).I := by rw [pvE_pos g4]; omega
          simp [this, leB]
      · rw [wrap64 (by omega)]
        have k5 : pvE es i ≤ (nth (nth es i).A 0).I := by
          by_cases h0 : 0 < i
          · have := g5 h0
            rw [k2 h0] at this
            rw [pvE_pos h0]; exact this
          · have : pvE es i = 0 := by rw [pvE, if_pos (by omega)]
            rw [this]
            simp [inB] at g6; omega
        refine ⟨⟨i + 1, by omega, by omega, ?_⟩, by omega⟩
        rw [g2, g6, pvE_succ]
        simp [k5, g4, leB]
    · intro g3 _
      rw [List.drop_eq_nil_of_le g3, entB] at g2
      rw [entsB, g2, Bool.true_and, leB]

def c_isState : FSpec := ⟨[(.rd, .agg [.int .i64, .int .i64, .list (.agg [.int .i64, .str])])], [.bool], true, fun _ => True, fun ps => [.bool (stB (nth (nth ps 0).A 0).I (nth (nth ps 0).A 1).I (nth (nth ps 0).A 2).L)], fun _ => []⟩
theorem k_isState : FnOk Try.prog 104 c_isState := by
  refine fn_mk [0, 1, 2] [.tmp 2] (env_cons (cs := []) k_areEntries (env_cons (cs := []) k_within (env_nil (tyTab_ok [])))) mixed Try.func104 rfl (by decide) rfl (by decide) rfl ?_
  intro ps hT hpre W hW
  simp only [c_isState, TyA, Ty, Tys] at hT hpre
  obtain ⟨_, _, rfl, ⟨_, rfl, _, _, rfl, ⟨t, rfl, ht⟩, _, _, rfl, ⟨v, rfl, hv⟩, _, _, rfl, ⟨es, rfl, hes, tes⟩, rfl⟩, rfl⟩ := hT
  refine hW.vc [] _ _ ?_
  simp [-List.getD_eq_getElem?_getD, c_isState, c_within, c_areEntries]
  exact ⟨fun h => by rcases h with h | h <;> simp [stB, h], fun h h' => by simp [stB, h, h']⟩

theorem nd_no {n0 n1 n2 n3 n4 n5 n6 n7 : Int} {u : Bool} {es vs xs ms : List PV}
    (h : ((((((((((inB n1 1 5 = false ∨ inB n0 0 (n1 - 1) = false) ∨ stB n2 n3 es = false) ∨ n1 ≤ n3) ∨ inB n4 0 2 = false) ∨ u = false ∧ ¬n4 = 0) ∨ inB n5 0 es.length = false) ∨ inB n6 0 1000 = false) ∨ inB n7 5 100 = false) ∨ ¬(xs.length : Int) = n1) ∨ ¬(ms.length : Int) = n1)) :
    nodeB ⟨n0, n1, n2, n3, n4, u, es, n5, n6, n7, vs, xs, ms⟩ = false := by
  have : ndB1 ⟨n0, n1, n2, n3, n4, u, es, n5, n6, n7, vs, xs, ms⟩ = false := by
    rcases h with (((((((((h | h) | h) | h) | h) | h) | h) | h) | h) | h) | h
    case inl.inl.inl.inl.inl.inl.inl.inr => simp [ndB1, ltB, Int.not_lt.2 h]
    all_goals simp [ndB1, h]
  simp [nodeB, this]
theorem nd_eq {n0 n1 n2 n3 n4 n5 n6 n7 : Int} {u : Bool} {es vs xs ms : List PV}
    (h1 : inB n1 1 5 = true) (h2 : inB n0 0 (n1 - 1) = true) (h3 : stB n2 n3 es = true) (h4 : n3 < n1) (h5 : inB n4 0 2 = true) (h6 : u = false → n4 = 0) (h7 : inB n5 0 es.length = true) (h8 : inB n6 0 1000 = true) (h9 : inB n7 5 100 = true) (h10 : (xs.length : Int) = n1) (h11 : (ms.length : Int) = n1) :
    nodeB ⟨n0, n1, n2, n3, n4, u, es, n5, n6, n7, vs, xs, ms⟩ = (voB n1 (-1) vs && nmB es.length xs ms) := by
  have h12 : (u || n4 == 0) = true := by cases u <;> simp [h6]
  have : ndB1 ⟨n0, n1, n2, n3, n4, u, es, n5, n6, n7, vs, xs, ms⟩ = true := by
    simp only [ndB1, ltB, h1, h2, h3, h5, h7, h8, h9, h10, h11, h12, Bool.true_and, decide_eq_true h4, beq_self_eq_true]
  rw [nodeB, this]
  simp

def c_isNode : FSpec := ⟨[(.rd, .agg [.int .i64, .int .i64, .int .i64, .int .i64, .int .i64, .bool, .list (.agg [.int .i64, .str]), .int .i64, .int .i64, .int .i64, .list (.int .i64), .list (.int .i64), .list (.int .i64)])], [.bool], true, fun _ => True, fun ps => [.bool (nodeB (ndOf (nth ps 0).A))], fun _ => []⟩
theorem k_isNode : FnOk Try.prog 61 c_isNode := by
  refine fn_mk [0, 1, 2, 3, 4, 5, 6, 7, 94, 95, 96, 123, 124, 125] [.tmp 2] (env_cons (cs := []) k_isState (env_cons (cs := []) k_within (env_nil (tyTab_ok [])))) mixed Try.func61 rfl (by decide) rfl (by decide) rfl ?_
  intro ps hT hpre W hW
  simp only [c_isNode, TyA, Ty, Tys] at hT hpre
  obtain ⟨_, _, rfl, ⟨_, rfl, _, _, rfl, ⟨n0, rfl, hn0⟩, _, _, rfl, ⟨n1, rfl, hn1⟩, _, _, rfl, ⟨n2, rfl, hn2⟩, _, _, rfl, ⟨n3, rfl, hn3⟩, _, _, rfl, ⟨n4, rfl, hn4⟩, _, _, rfl, ⟨u, rfl⟩, _, _, rfl, ⟨es, rfl, hes, tes⟩, _, _, rfl, ⟨n5, rfl, hn5⟩, _, _, rfl, ⟨n6, rfl, hn6⟩, _, _, rfl, ⟨n7, rfl, hn7⟩, _, _, rfl, ⟨vs, rfl, hvs, tvs⟩, _, _, rfl, ⟨xs, rfl, hxs, txs⟩, _, _, rfl, ⟨ms, rfl, hms, tms⟩, rfl⟩, rfl⟩ := hT
  refine hW.vc [] _ _ ?_
  simp [-List.getD_eq_getElem?_getD, c_isNode, c_within, c_isState, ndOf]
  refine fun h0 => ⟨fun a b c d e => ⟨⟨⟨⟨⟨a, b⟩, c⟩, d⟩, e⟩, fun f => ⟨⟨⟨⟨⟨a, b⟩, c⟩, d⟩, e⟩, f⟩⟩, fun _ _ => ⟨fun h => ?_, ?_⟩⟩
  · by_cases hb : inB n1 1 5 = true
    · rw [wrap64 (n := n1 - 1) (by simp [inB] at hb; omega)] at h
      exact nd_no h
    · exact nd_no (by simp [hb])
  intro h1 h2 h3 h4 h5 h6 h7 h8 h9 h10 h11 h12
  have k1 : IntKind.i64.wrap (n1 - 1) = n1 - 1 := wrap64 (by simp [inB] at h1; omega)
  rw [k1] at h2
  have hq := nd_eq (vs := vs) h1 h2 h3 h4 h5 h6 h7 h8 h9 h10 h11
  refine hW.loopS _ _ _ [.sl 96 .dp (.int .i64)] (fun ys => ∃ i : Nat, ys = [.int .i64 i] ∧ i ≤ vs.length ∧ voB n1 (-1) vs = voB n1 (pvV vs i) (vs.drop i)) (fun ys => vs.length - (nth ys 0).I.toNat) ?_ ?_
  · simp [-List.getD_eq_getElem?_getD, c_isNode, c_within, c_isState]
    exact ⟨0, rfl, by simp, by simp [pvV]⟩
  · rintro ys ⟨i, rfl, g1, g2⟩
    refine hW.vc [] _ _ ?_
    simp [-List.getD_eq_getElem?_getD, c_isNode, c_within, c_isState, ndOf]
    rw [k1]
    have k2 : 0 < i → (IntKind.i64.wrap ((i : Int) - 1)).toNat = i - 1 := fun h => by rw [wrap64 (by omega)]; omega
    have k3 : 0 < i → IntKind.i64.wrap ((i : Int) - 1) = i - 1 := fun h => wrap64 (by omega)
    refine ⟨fun g3 => ⟨g3, fun _ => ⟨fun g4 g5 => ⟨⟨g4, g5⟩, by rw [k3 g5]; omega⟩, fun g4 g5 => ⟨⟨g4, g5⟩, by rw [k2 g5]; omega⟩, fun _ => ⟨fun g4 => ⟨g4, fun g5 => ⟨g4, g5⟩⟩, ?_⟩⟩⟩, ?_⟩
    · rw [drop_nth g3, voB] at g2
      refine ⟨fun g4 => ?_, fun g4 g5 => ?_⟩
      · rw [hq, g2]
        rcases g4 with g4 | ⟨g4, g5⟩
        · simp [g4]
        · rw [k2 g4] at g5
          have : ¬ pvV vs i < (nth vs i).I := by rw [pvV_pos g4]; omega
          simp [this]
      · rw [wrap64 (by omega)]
        have k5 : pvV vs i < (nth vs i).I := by
          by_cases h0 : 0 < i
          · have := g5 h0
            rw [k2 h0] at this
            rw [pvV_pos h0]; exact this
          · have : pvV vs i = -1 := by rw [pvV, if_pos (by omega)]
            rw [this]
            simp [inB] at g4; omega
        refine ⟨⟨i + 1, by omega, by omega, ?_⟩, by omega⟩
        rw [g2, g4, pvV_succ]
        simp [k5]
    · intro g3 g4
      rw [List.drop_eq_nil_of_le g3, voB] at g2
      rw [g2, Bool.true_and] at hq
      refine hW.loopS _ _ _ [.sl 125 .dp (.int .i64)] (fun ys => ∃ j : Nat, ys = [.int .i64 j] ∧ j ≤ xs.length ∧ nmB es.length xs ms = nmB es.length (xs.drop j) (ms.drop j)) (fun ys => xs.length - (nth ys 0).I.toNat) ?_ ?_
      · simp [-List.getD_eq_getElem?_getD, c_isNode, c_within, c_isState]
        exact ⟨0, rfl, by simp, by simp⟩
      · rintro ys ⟨j, rfl, q1, q2⟩
        refine hW.vc [] _ _ ?_
        simp [-List.getD_eq_getElem?_getD, c_isNode, c_within, c_isState, ndOf]
        have k6 : IntKind.i64.wrap ((es.length : Int) + 1) = es.length + 1 := wrap64 (by rw [LIM] at hes; omega)
        have k7 : inB (nth xs j).I 1 (es.length + 1) = true → IntKind.i64.wrap ((nth xs j).I - 1) = (nth xs j).I - 1 := fun h => wrap64 (by rw [LIM] at hes; simp [inB] at h; omega)
        rw [k6]
        refine ⟨fun q3 => ⟨q3, fun _ => ⟨fun q4 => ⟨q4, by omega⟩, fun _ => ⟨fun q4 => ?_, fun q4 q5 => ?_⟩⟩⟩, fun q3 => ?_⟩
        · rw [drop_nth q3, drop_nth (by omega : j < ms.length), nmB] at q2
          rw [hq, q2]
          by_cases q5 : inB (nth xs j).I 1 (es.length + 1) = true
          · rw [k7 q5] at q4
            rcases q4 with q4 | q4 <;> simp [q4]
          · simp [q5]
        · rw [drop_nth q3, drop_nth (by omega : j < ms.length), nmB] at q2
          rw [k7 q4] at q5
          rw [wrap64 (by omega)]
          exact ⟨⟨j + 1, by omega, by omega, by rw [q2, q4, q5]; simp⟩, by omega⟩
        · rw [hq, q2, List.drop_eq_nil_of_le q3]; simp [nmB]

def c_CloneE : FSpec := ⟨[(.rd, .list (.agg [.int .i64, .str]))], [.list (.agg [.int .i64, .str])], true, fun ps => (nth ps 0).L.length ≤ 1048576, fun ps => [.list (nth ps 0).L], fun _ => []⟩
theorem k_CloneE : FnOk Try.prog 105 c_CloneE := by
  refine fn_mk [0, 2] [.tmp 2] (env_nil (tyTab_ok [])) mixed Try.func105 rfl (by decide) rfl (by decide) rfl ?_
  intro ps hT hpre W hW
  simp only [c_CloneE, TyA, Ty, Tys] at hT hpre
  obtain ⟨_, _, rfl, ⟨es, rfl, hes, tes⟩, rfl⟩ := hT
  simp only [nth_zero, pv_L] at hpre
  refine hW.vc [] _ _ ?_
  simp [-List.getD_eq_getElem?_getD, c_CloneE]
  omega
def c_CloneI : FSpec := ⟨[(.rd, .list (.int .i64))], [.list (.int .i64)], true, fun ps => (nth ps 0).L.length ≤ 1048576, fun ps => [.list (nth ps 0).L], fun _ => []⟩
theorem k_CloneI : FnOk Try.prog 106 c_CloneI := by
  refine fn_mk [0, 2] [.tmp 2] (env_nil (tyTab_ok [])) mixed Try.func106 rfl (by decide) rfl (by decide) rfl ?_
  intro ps hT hpre W hW
  simp only [c_CloneI, TyA, Ty, Tys] at hT hpre
  obtain ⟨_, _, rfl, ⟨es, rfl, hes, tes⟩, rfl⟩ := hT
  simp only [nth_zero, pv_L] at hpre
  refine hW.vc [] _ _ ?_
  simp [-List.getD_eq_getElem?_getD, c_CloneI]
  omega
def c_cloneNode : FSpec := c_toNode
theorem k_cloneNode : FnOk Try.prog 63 c_cloneNode := by
  refine fn_mk [0, 1, 2] [.cell 2 41] (env_cons (cs := []) k_CloneI (env_cons (cs := []) k_CloneE (env_nil (tyTab_ok [])))) mixed Try.func63 rfl (by decide) rfl (by decide) rfl ?_
  intro ps hT hpre W hW
  simp only [c_cloneNode, TyA, Ty, Tys] at hT hpre
  simp only [c_toNode, TyA, Ty, Tys] at hT hpre
  obtain ⟨_, _, rfl, ⟨_, rfl, _, _, rfl, ⟨n0, rfl, hn0⟩, _, _, rfl, ⟨n1, rfl, hn1⟩, _, _, rfl, ⟨n2, rfl, hn2⟩, _, _, rfl, ⟨n3, rfl, hn3⟩, _, _, rfl, ⟨n4, rfl, hn4⟩, _, _, rfl, ⟨u, rfl⟩, _, _, rfl, ⟨es, rfl, hes, tes⟩, _, _, rfl, ⟨n5, rfl, hn5⟩, _, _, rfl, ⟨n6, rfl, hn6⟩, _, _, rfl, ⟨n7, rfl, hn7⟩, _, _, rfl, ⟨vs, rfl, hvs, tvs⟩, _, _, rfl, ⟨xs, rfl, hxs, txs⟩, _, _, rfl, ⟨ms, rfl, hms, tms⟩, rfl⟩, rfl⟩ := hT
  simp only [nth_zero, nth_succ, pv_A, pv_L] at hpre
  refine hW.vc [(1, [13, 15, 17, 19], .take 0 <| .take 1 <| .take 3 <| .take 4 <| .take 6 <| .take 7 <| .take 9 <| .take 10 <| .alt 2 (.take 12 <| .alt 5 (.alt 8 (.alt 11 (.alt 13 (.take 14 <| .alt 15 (.take 16 <| .alt 17 (.take 18 <| .alt 19 (.done) .stop) .stop) .stop) .stop) .stop) .stop) .stop) .stop)] _ _ ?_
  simp [-List.getD_eq_getElem?_getD, c_cloneNode, c_CloneE, c_CloneI, c_toNode]
  exact ⟨by decide +kernel, hpre⟩

/-- The term of a place. -/
def tmAt (es : List PV) (p : Int) : Int := if p = 0 then 0 else (nth (nth es (p - 1).toNat).A 0).I
def c_termAt : FSpec := ⟨[(.rd, .box [.int .i64, .int .i64, .int .i64, .int .i64, .int .i64, .bool, .list (.agg [.int .i64, .str]), .int .i64, .int .i64, .int .i64, .list (.int .i64), .list (.int .i64), .list (.int .i64)]), (.rd, .int .i64)], [.int .i64], true, fun ps => 0 ≤ (nth ps 1).I ∧ (nth ps 1).I ≤ (nth (nth ps 0).A 6).L.length, fun ps => [.int .i64 (tmAt (nth (nth ps 0).A 6).L (nth ps 1).I)], fun _ => []⟩
theorem k_termAt : FnOk Try.prog 110 c_termAt := by
  refine fn_mk [0, 1, 4] [.tmp 4] (env_nil (tyTab_ok [])) mixed Try.func110 rfl (by decide) rfl (by decide) rfl ?_
  intro ps hT hpre W hW
  simp only [c_termAt, TyA, Ty, Tys] at hT hpre
  obtain ⟨_, _, rfl, ⟨_, rfl, _, _, rfl, ⟨n0, rfl, hn0⟩, _, _, rfl, ⟨n1, rfl, hn1⟩, _, _, rfl, ⟨n2, rfl, hn2⟩, _, _, rfl, ⟨n3, rfl, hn3⟩, _, _, rfl, ⟨n4, rfl, hn4⟩, _, _, rfl, ⟨u, rfl⟩, _, _, rfl, ⟨es, rfl, hes, tes⟩, _, _, rfl, ⟨n5, rfl, hn5⟩, _, _, rfl, ⟨n6, rfl, hn6⟩, _, _, rfl, ⟨n7, rfl, hn7⟩, _, _, rfl, ⟨vs, rfl, hvs, tvs⟩, _, _, rfl, ⟨xs, rfl, hxs, txs⟩, _, _, rfl, ⟨ms, rfl, hms, tms⟩, rfl⟩, _, _, rfl, ⟨p, rfl, hp⟩, rfl⟩ := hT
  simp only [nth_zero, nth_succ, pv_A, pv_L, pv_I] at hpre
  refine hW.vc [] _ _ ?_
  simp [-List.getD_eq_getElem?_getD, c_termAt]
  refine ⟨fun h => by rw [tmAt, if_pos h], fun h => ?_⟩
  rw [LIM] at hes
  rw [wrap64 (by omega)]
  exact ⟨⟨by omega, by omega⟩, by omega, fun _ => by rw [tmAt, if_neg h]⟩

def c_message : FSpec := ⟨[(.rd, .box [.int .i64, .int .i64, .int .i64, .int .i64, .int .i64, .bool, .list (.agg [.int .i64, .str]), .int .i64, .int .i64, .int .i64, .list (.int .i64), .list (.int .i64), .list (.int .i64)]), (.rd, .int .i64), (.rd, .int .i64)], [.agg [.int .i64, .int .i64, .int .i64, .int .i64, .int .i64, .int .i64, .int .i64, .bool, .list (.agg [.int .i64, .str])]], true, fun _ => True,
  fun ps => [.agg [.int .i64 (nth ps 1).I, .int .i64 (nth (nth ps 0).A 0).I, .int .i64 (nth ps 2).I, .int .i64 (nth (nth ps 0).A 2).I, .int .i64 0, .int .i64 0, .int .i64 0, .bool false, .list []]], fun _ => []⟩
theorem k_message : FnOk Try.prog 109 c_message := by
  refine fn_mk [0, 1, 2, 6] [.cell 6 54] (env_nil (tyTab_ok [])) mixed Try.func109 rfl (by decide) rfl (by decide) rfl ?_
  intro ps hT hpre W hW
  simp only [c_message, TyA, Ty, Tys] at hT hpre
  obtain ⟨_, _, rfl, ⟨_, rfl, _, _, rfl, ⟨n0, rfl, hn0⟩, _, _, rfl, ⟨n1, rfl, hn1⟩, _, _, rfl, ⟨n2, rfl, hn2⟩, _, _, rfl, ⟨n3, rfl, hn3⟩, _, _, rfl, ⟨n4, rfl, hn4⟩, _, _, rfl, ⟨u, rfl⟩, _, _, rfl, ⟨es, rfl, hes, tes⟩, _, _, rfl, ⟨n5, rfl, hn5⟩, _, _, rfl, ⟨n6, rfl, hn6⟩, _, _, rfl, ⟨n7, rfl, hn7⟩, _, _, rfl, ⟨vs, rfl, hvs, tvs⟩, _, _, rfl, ⟨xs, rfl, hxs, txs⟩, _, _, rfl, ⟨ms, rfl, hms, tms⟩, rfl⟩, _, _, rfl, ⟨k, rfl, hk⟩, _, _, rfl, ⟨to, rfl, hto⟩, rfl⟩ := hT
  refine hW.vc [(1, [11], .take 0 <| .take 1 <| .take 2 <| .take 3 <| .take 4 <| .take 5 <| .take 6 <| .take 7 <| .take 8 <| .take 9 <| .take 10 <| .alt 11 (.done) .stop)] _ _ ?_
  simp [-List.getD_eq_getElem?_getD, c_message]
  decide +kernel

/-- The message by which a node replicates to another. -/
def repM (n : ND) (to : Int) : PV := .agg [.int .i64 3, .int .i64 n.id, .int .i64 to, .int .i64 n.term, .int .i64 ((nth n.nx to.toNat).I - 1), .int .i64 (tmAt n.log ((nth n.nx to.toNat).I - 1)), .int .i64 n.com, .bool false, .list (n.log.drop ((nth n.nx to.toNat).I.toNat - 1))]
def repOk (n : ND) (to : Int) : Prop := 0 ≤ to ∧ to < n.nx.length ∧ 1 ≤ (nth n.nx to.toNat).I ∧ (nth n.nx to.toNat).I ≤ n.log.length + 1 ∧ n.log.length ≤ 1024
def c_replicate : FSpec := ⟨[(.rd, .box [.int .i64, .int .i64, .int .i64, .int .i64, .int .i64, .bool, .list (.agg [.int .i64, .str]), .int .i64, .int .i64, .int .i64, .list (.int .i64), .list (.int .i64), .list (.int .i64)]), (.rd, .int .i64)], [.agg [.int .i64, .int .i64, .int .i64, .int .i64, .int .i64, .int .i64, .int .i64, .bool, .list (.agg [.int .i64, .str])]], true, fun ps => repOk (ndOf (nth ps 0).A) (nth ps 1).I, fun ps => [repM (ndOf (nth ps 0).A) (nth ps 1).I], fun _ => []⟩
theorem k_replicate : FnOk Try.prog 125 c_replicate := by
  refine fn_mk [0, 1, 4, 5] [.cell 4 54] (env_cons (cs := []) k_CloneE (env_cons (cs := []) k_termAt (env_cons (cs := []) k_message (env_nil (tyTab_ok []))))) mixed Try.func125 rfl (by decide) rfl (by decide) rfl ?_
  intro ps hT hpre W hW
  simp only [c_replicate, TyA, Ty, Tys] at hT hpre
  obtain ⟨_, _, rfl, ⟨_, rfl, _, _, rfl, ⟨n0, rfl, hn0⟩, _, _, rfl, ⟨n1, rfl, hn1⟩, _, _, rfl, ⟨n2, rfl, hn2⟩, _, _, rfl, ⟨n3, rfl, hn3⟩, _, _, rfl, ⟨n4, rfl, hn4⟩, _, _, rfl, ⟨u, rfl⟩, _, _, rfl, ⟨es, rfl, hes, tes⟩, _, _, rfl, ⟨n5, rfl, hn5⟩, _, _, rfl, ⟨n6, rfl, hn6⟩, _, _, rfl, ⟨n7, rfl, hn7⟩, _, _, rfl, ⟨vs, rfl, hvs, tvs⟩, _, _, rfl, ⟨xs, rfl, hxs, txs⟩, _, _, rfl, ⟨ms, rfl, hms, tms⟩, rfl⟩, _, _, rfl, ⟨to, rfl, hto⟩, rfl⟩ := hT
  simp only [nth_zero, nth_succ, pv_A, pv_L, pv_I, ndOf, repOk] at hpre
  refine hW.vc [(5, [9], .take 0 <| .take 1 <| .take 2 <| .take 3 <| .take 4 <| .take 5 <| .alt 6 (.alt 7 (.take 8 <| .alt 9 (.done) .stop) .stop) .stop)] _ _ ?_
  simp [-List.getD_eq_getElem?_getD, c_replicate, c_message, c_termAt, c_CloneE, ndOf, repM]
  obtain ⟨p1, p2, p3, p4, p5⟩ := hpre
  rw [wrap64 (n := (nth xs to.toNat).I - 1) (by omega)]
  refine ⟨⟨p1, p2⟩, by omega, fun _ => ⟨⟨by omega, by omega⟩, by decide +kernel, ⟨by omega, by omega⟩, fun _ => ⟨by omega, rfl, rfl, ?_⟩⟩⟩
  have e : ((nth xs to.toNat).I - 1).toNat = (nth xs to.toNat).I.toNat - 1 := by omega
  rw [e, List.take_of_length_le (by simp)]

/-- The messages to the first nodes. -/
def repV (n : ND) (to : Int) : PV := repM n to
def repAll (n : ND) : Nat → List PV
  | 0 => []
  | k + 1 => repAll n k ++ (if (k : Int) = n.id then [] else [repV n k])
theorem repAll_len (n : ND) : ∀ k, (repAll n k).length ≤ k
  | 0 => Nat.le_refl _
  | k + 1 => by
    have := repAll_len n k
    rw [repAll, List.length_append]
    split <;> simp <;> omega
def repsOk (n : ND) : Prop := 1 ≤ n.nodes ∧ n.nodes ≤ 5 ∧ (∀ i : Nat, (i : Int) < n.nodes → repOk n i)
def c_replicateAll : FSpec := ⟨[(.rd, .box [.int .i64, .int .i64, .int .i64, .int .i64, .int .i64, .bool, .list (.agg [.int .i64, .str]), .int .i64, .int .i64, .int .i64, .list (.int .i64), .list (.int .i64), .list (.int .i64)])], [.list (.agg [.int .i64, .int .i64, .int .i64, .int .i64, .int .i64, .int .i64, .int .i64, .bool, .list (.agg [.int .i64, .str])])], true, fun ps => repsOk (ndOf (nth ps 0).A), fun ps => [.list (repAll (ndOf (nth ps 0).A) (nth (nth ps 0).A 1).I.toNat)], fun _ => []⟩
theorem k_replicateAll : FnOk Try.prog 107 c_replicateAll := by
  refine fn_mk [0, 2, 3, 4, 8, 9] [.tmp 2] (env_cons (cs := []) k_replicate (env_nil (tyTab_ok []))) mixed Try.func107 rfl (by decide) rfl (by decide) rfl ?_
  intro ps hT hpre W hW
  simp only [c_replicateAll, TyA, Ty, Tys] at hT hpre
  obtain ⟨_, _, rfl, ⟨_, rfl, _, _, rfl, ⟨n0, rfl, hn0⟩, _, _, rfl, ⟨n1, rfl, hn1⟩, _, _, rfl, ⟨n2, rfl, hn2⟩, _, _, rfl, ⟨n3, rfl, hn3⟩, _, _, rfl, ⟨n4, rfl, hn4⟩, _, _, rfl, ⟨u, rfl⟩, _, _, rfl, ⟨es, rfl, hes, tes⟩, _, _, rfl, ⟨n5, rfl, hn5⟩, _, _, rfl, ⟨n6, rfl, hn6⟩, _, _, rfl, ⟨n7, rfl, hn7⟩, _, _, rfl, ⟨vs, rfl, hvs, tvs⟩, _, _, rfl, ⟨xs, rfl, hxs, txs⟩, _, _, rfl, ⟨ms, rfl, hms, tms⟩, rfl⟩, rfl⟩ := hT
  simp only [nth_zero, nth_succ, pv_A, pv_L, pv_I, ndOf, repsOk] at hpre
  refine hW.vc [] _ _ ?_
  simp [-List.getD_eq_getElem?_getD, c_replicateAll, c_replicate, ndOf, repM]
  obtain ⟨p1, p2, p3⟩ := hpre
  refine hW.loopS _ _ _ [.sl 9 .dp (.int .i64), .sl 3 .dp (.list (.agg [.int .i64, .int .i64, .int .i64, .int .i64, .int .i64, .int .i64, .int .i64, .bool, .list (.agg [.int .i64, .str])]))] (fun ys => ∃ i : Nat, ys = [.int .i64 i, .list (repAll ⟨n0, n1, n2, n3, n4, u, es, n5, n6, n7, vs, xs, ms⟩ i)] ∧ (i : Int) ≤ n1) (fun ys => n1.toNat - (nth ys 0).I.toNat) ?_ ?_
  · simp [-List.getD_eq_getElem?_getD, c_replicateAll, c_replicate]
    exact ⟨0, ⟨rfl, rfl⟩, by omega⟩
  · rintro ys ⟨i, rfl, q1⟩
    refine hW.vc [] _ _ ?_
    simp [-List.getD_eq_getElem?_getD, c_replicateAll, c_replicate, ndOf, repM]
    have hl := repAll_len ⟨n0, n1, n2, n3, n4, u, es, n5, n6, n7, vs, xs, ms⟩ i
    rw [wrap64 (n := (i : Int) + 1) (by omega)]
    refine ⟨fun q2 => ⟨fun q3 => ⟨p3 i q2, by omega, fun _ => ⟨⟨i + 1, ⟨rfl, ?_⟩, by omega⟩, by omega⟩⟩, fun q3 => ⟨⟨i + 1, ⟨rfl, ?_⟩, by omega⟩, by omega⟩⟩, fun q2 => ?_⟩
    · rw [repAll, if_neg q3]; rfl
    · rw [repAll, if_pos q3, List.append_nil]
    · have : i = n1.toNat := by omega
      rw [this]

end Go.Proofs.Ytmjjdfhpnckacab
end

section
namespace Go.Proofs.Ytmjjdfhpnckacab
set_option maxRecDepth 100000
set_option linter.unusedSimpArgs false

def c_Mul64 : FSpec := ⟨[(.rd, .int .u64), (.rd, .int .u64)], [.int .u64, .int .u64], true, fun ps => (nth ps 0).I = 1 ∧ 0 ≤ (nth ps 1).I ∧ (nth ps 1).I ≤ 5, fun ps => [.int .u64 0, .int .u64 (nth ps 1).I], fun _ => []⟩
theorem k_Mul64 : FnOk Try.prog 210 c_Mul64 := by
  refine fn_mk [0, 1, 4, 5, 6, 7, 8, 9, 10, 11, 12, 13] [.tmp 4, .tmp 5] (env_nil (tyTab_ok [])) mixed Try.func210 rfl (by decide) rfl (by decide) rfl ?_
  intro ps hT hpre W hW
  simp only [c_Mul64, TyA, Ty, Tys] at hT hpre
  obtain ⟨_, _, rfl, ⟨x, rfl, hx⟩, _, _, rfl, ⟨y, rfl, hy⟩, rfl⟩ := hT
  simp only [nth_zero, nth_succ, pv_I] at hpre
  obtain ⟨rfl, h1, h2⟩ := hpre
  refine hW.vc [] _ _ ?_
  simp [-List.getD_eq_getElem?_getD, c_Mul64]
  obtain rfl | rfl | rfl | rfl | rfl | rfl : y = 0 ∨ y = 1 ∨ y = 2 ∨ y = 3 ∨ y = 4 ∨ y = 5 := by omega
  all_goals decide +kernel
def c_Mul : FSpec := c_Mul64
theorem k_Mul : FnOk Try.prog 191 c_Mul := by
  refine fn_mk [0, 1, 4, 5, 6, 7, 8, 9] [.tmp 4, .tmp 5] (env_cons (cs := []) k_Mul64 (env_nil (tyTab_ok []))) mixed Try.func191 rfl (by decide) rfl (by decide) rfl ?_
  intro ps hT hpre W hW
  simp only [c_Mul, TyA, Ty, Tys] at hT hpre
  simp only [c_Mul64, TyA, Ty, Tys] at hT hpre
  obtain ⟨_, _, rfl, ⟨x, rfl, hx⟩, _, _, rfl, ⟨y, rfl, hy⟩, rfl⟩ := hT
  simp only [nth_zero, nth_succ, pv_I] at hpre
  refine hW.vc [] _ _ ?_
  simp [-List.getD_eq_getElem?_getD, c_Mul, c_Mul64]
  exact hpre

theorem wrapU64 {n : Int} (h : 0 ≤ n ∧ n ≤ 9223372036854775807) : IntKind.u64.wrap n = n := by
  simp [IntKind.wrap, IntKind.signed, IntKind.bits]; omega
theorem rep_step {x z : PV} {m k q : Nat} : (List.replicate k x ++ List.replicate (m - k) z).drop (k + q) = List.replicate (m - (k + q)) z := by
  rw [List.drop_append, List.drop_replicate, List.drop_replicate, List.length_replicate]
  have e1 : k - (k + q) = 0 := by omega
  have e3 : m - k - (k + q - k) = m - (k + q) := by omega
  rw [e1, e3, List.replicate_zero, List.nil_append]
def c_Repeat : FSpec := ⟨[(.rd, .list (.int .i64)), (.rd, .int .i64)], [.list (.int .i64)], true, fun ps => (nth ps 0).L.length = 1 ∧ 1 ≤ (nth ps 1).I ∧ (nth ps 1).I ≤ 5, fun ps => [.list (List.replicate (nth ps 1).I.toNat (nth (nth ps 0).L 0))], fun _ => []⟩
theorem k_Repeat : FnOk Try.prog 175 c_Repeat := by
  refine fn_mk [0, 1, 4, 5, 6, 7, 8] [.tmp 4] (env_cons (cs := []) k_Mul (env_nil (tyTab_ok []))) mixed Try.func175 rfl (by decide) rfl (by decide) rfl ?_
  intro ps hT hpre W hW
  simp only [c_Repeat, TyA, Ty, Tys] at hT hpre
  obtain ⟨_, _, rfl, ⟨es, rfl, hes, tes⟩, _, _, rfl, ⟨c, rfl, hc⟩, rfl⟩ := hT
  simp only [nth_zero, nth_succ, pv_I, pv_L] at hpre
  obtain ⟨h1, h2, h3⟩ := hpre
  refine hW.vc [(9, [7], .take 0 <| .take 1 <| .take 2 <| .take 4 <| .take 5 <| .alt 3 (.alt 6 (.alt 7 (.take 8 <| .alt 9 (.done) .stop) .stop) .stop) (.alt 6 (.alt 3 (.alt 7 (.take 8 <| .alt 9 (.done) .stop) .stop) .stop) .stop))] _ _ ?_
  simp [-List.getD_eq_getElem?_getD, c_Repeat, c_Mul, c_Mul64, c_Mul64]
  obtain ⟨x, rfl⟩ := List.length_eq_one_iff.1 h1
  have e1 : IntKind.u64.wrap c = c := wrapU64 (by omega)
  have e2 : IntKind.i64.wrap c = c := wrap64 (by omega)
  rw [e1, e2]
  refine ⟨fun h => absurd h (by omega), fun _ _ => ⟨⟨by simp [IntKind.wrap, IntKind.signed, IntKind.bits], by omega, by omega⟩, fun h => absurd h (by omega), fun _ => ⟨⟨by omega, by omega, by omega⟩, ?_⟩⟩⟩
  obtain ⟨m, rfl⟩ : ∃ m : Nat, c = m := ⟨c.toNat, by omega⟩
  have e3 : min 1 m = 1 := by omega
  have e4 : List.take m [x] = [x] := List.take_of_length_le (by simp; omega)
  simp only [Int.toNat_natCast, List.length_singleton, e3, e4]
  refine hW.loopS _ _ _ [.sl 7 .dp (.list (.int .i64)), .sl 8 .dp (.int .i64)] (fun ys => ∃ k : Nat, ys = [.list (List.replicate k x ++ List.replicate (m - k) (.int .i64 0)), .int .i64 k] ∧ 1 ≤ k ∧ k ≤ m) (fun ys => m - (nth ys 1).I.toNat) ?_ ?_
  · simp [-List.getD_eq_getElem?_getD, c_Repeat, c_Mul, c_Mul64]
    exact ⟨1, ⟨rfl, rfl⟩, by omega, by omega⟩
  · rintro ys ⟨k, rfl, g1, g2⟩
    refine hW.vc [(9, [7], .take 0 <| .take 1 <| .take 2 <| .take 4 <| .take 5 <| .alt 3 (.alt 6 (.alt 7 (.take 8 <| .alt 9 (.done) .stop) .stop) .stop) (.alt 6 (.alt 3 (.alt 7 (.take 8 <| .alt 9 (.done) .stop) .stop) .stop) .stop))] _ _ ?_
    simp [-List.getD_eq_getElem?_getD, c_Repeat, c_Mul, c_Mul64, c_Mul64]
    have e5 : ((k : Int) + ((m - k : Nat) : Int)).toNat - k = m - k := by omega
    simp only [e5, Nat.min_self, Nat.min_comm (m - k) k, rep_step]
    have e6 : 1 ≤ m - k → 1 ≤ min k (m - k) := fun h => by omega
    have e8 : min (m - k) (min k (m - k)) = min k (m - k) := by omega
    have e7 : min k (m - k) ≤ m - k := by omega
    rw [wrap64 (by omega)]
    refine fun _ => ⟨fun h => ⟨by decide +kernel, by omega, fun _ => ⟨by omega, fun _ => ⟨⟨k + min k (m - k), ⟨by rw [e8], by omega⟩, by omega, by omega⟩, by omega⟩⟩⟩, fun h => ?_⟩
    have : k = m := by omega
    subst this
    simp

def c_reset : FSpec := ⟨[(.bx, .box [.int .i64, .int .i64, .int .i64, .int .i64, .int .i64, .bool, .list (.agg [.int .i64, .str]), .int .i64, .int .i64, .int .i64, .list (.int .i64), .list (.int .i64), .list (.int .i64)]), (.rd, .int .i64)], [], true, fun ps => 1 ≤ (nth (nth ps 0).A 1).I ∧ (nth (nth ps 0).A 1).I ≤ 5, fun _ => [],
  fun ps => [.agg [nth (nth ps 0).A 0, nth (nth ps 0).A 1, nth (nth ps 0).A 2, nth (nth ps 0).A 3, nth (nth ps 0).A 4, nth (nth ps 0).A 5, nth (nth ps 0).A 6, nth (nth ps 0).A 7, nth (nth ps 0).A 8, nth (nth ps 0).A 9, nth (nth ps 0).A 10,
    .list (List.replicate (nth (nth ps 0).A 1).I.toNat (.int .i64 (nth ps 1).I)), .list (List.replicate (nth (nth ps 0).A 1).I.toNat (.int .i64 0))]]⟩
theorem k_reset : FnOk Try.prog 150 c_reset := by
  refine fn_mk [0, 1] [] (env_cons (cs := []) k_Repeat (env_nil (tyTab_ok []))) mixed Try.func150 rfl (by decide) rfl (by decide) rfl ?_
  intro ps hT hpre W hW
  simp only [c_reset, TyA, Ty, Tys] at hT hpre
  obtain ⟨_, _, rfl, ⟨_, rfl, _, _, rfl, ⟨n0, rfl, hn0⟩, _, _, rfl, ⟨n1, rfl, hn1⟩, _, _, rfl, ⟨n2, rfl, hn2⟩, _, _, rfl, ⟨n3, rfl, hn3⟩, _, _, rfl, ⟨n4, rfl, hn4⟩, _, _, rfl, ⟨u, rfl⟩, _, _, rfl, ⟨es, rfl, hes, tes⟩, _, _, rfl, ⟨n5, rfl, hn5⟩, _, _, rfl, ⟨n6, rfl, hn6⟩, _, _, rfl, ⟨n7, rfl, hn7⟩, _, _, rfl, ⟨vs, rfl, hvs, tvs⟩, _, _, rfl, ⟨xs, rfl, hxs, txs⟩, _, _, rfl, ⟨ms, rfl, hms, tms⟩, rfl⟩, _, _, rfl, ⟨x, rfl, hx⟩, rfl⟩ := hT
  simp only [nth_zero, nth_succ, pv_I, pv_L, pv_A] at hpre
  refine hW.vc [(0, [16, 19], .take 0 <| .take 1 <| .take 2 <| .take 4 <| .take 5 <| .take 6 <| .take 7 <| .take 9 <| .take 10 <| .take 11 <| .take 12 <| .alt 3 (.alt 8 (.take 14 <| .take 15 <| .alt 13 (.alt 16 (.take 17 <| .take 18 <| .alt 19 (.done) .stop) .stop) (.alt 16 (.alt 13 (.take 17 <| .take 18 <| .alt 19 (.done) .stop) .stop) .stop)) (.alt 13 (.alt 8 (.take 14 <| .take 15 <| .alt 16 (.take 17 <| .take 18 <| .alt 19 (.done) .stop) .stop) .stop) .stop)) (.alt 13 (.alt 3 (.alt 8 (.take 14 <| .take 15 <| .alt 16 (.take 17 <| .take 18 <| .alt 19 (.done) .stop) .stop) .stop) .stop) .stop))] _ _ ?_
  simp [-List.getD_eq_getElem?_getD, c_reset, c_Repeat]
  exact ⟨by decide +kernel, ⟨hpre, by omega, by omega, by omega⟩, ⟨by omega, by omega, by omega⟩, hpre⟩

/-- How many have a place, the node itself counted. -/
def cntG (id p : Int) (ms : List PV) : Nat → Int
  | 0 => 1
  | i + 1 => if (i : Int) ≠ id ∧ p ≤ (nth ms i).I then cntG id p ms i + 1 else cntG id p ms i
theorem cntG_le (id p : Int) (ms : List PV) : ∀ i, 1 ≤ cntG id p ms i ∧ cntG id p ms i ≤ i + 1
  | 0 => by simp [cntG]
  | i + 1 => by
    have := cntG_le id p ms i
    rw [cntG]
    split <;> omega
/-- What is committed, seen from a place downwards. -/
def advG (n : ND) : Nat → Int
  | 0 => n.com
  | p + 1 => if (p : Int) + 1 ≤ n.com then n.com else if tmAt n.log ((p : Int) + 1) = n.term ∧ n.nodes < 2 * cntG n.id ((p : Int) + 1) n.ms n.ms.length then (p : Int) + 1 else advG n p
theorem advG_low {n : ND} {p : Nat} (h : (p : Int) ≤ n.com) (h0 : 0 ≤ n.com) : advG n p = n.com := by
  cases p with
  | zero => rfl
  | succ p => rw [advG, if_pos (by omega)]
theorem advG_up {n : ND} {p : Nat} (h : n.com < p) (h0 : 0 ≤ n.com) : advG n p = if tmAt n.log p = n.term ∧ n.nodes < 2 * cntG n.id p n.ms n.ms.length then (p : Int) else advG n (p - 1) := by
  cases p with
  | zero => omega
  | succ p =>
    have e : ((p + 1 : Nat) : Int) = (p : Int) + 1 := rfl
    rw [advG, if_neg (by omega), e]; rfl
def c_advance : FSpec := ⟨[(.bx, .box [.int .i64, .int .i64, .int .i64, .int .i64, .int .i64, .bool, .list (.agg [.int .i64, .str]), .int .i64, .int .i64, .int .i64, .list (.int .i64), .list (.int .i64), .list (.int .i64)])], [], true, fun ps => 0 ≤ (nth (nth ps 0).A 7).I ∧ (nth (nth ps 0).A 12).L.length ≤ 5 ∧ (nth (nth ps 0).A 6).L.length ≤ 1024, fun _ => [],
  fun ps => [.agg [nth (nth ps 0).A 0, nth (nth ps 0).A 1, nth (nth ps 0).A 2, nth (nth ps 0).A 3, nth (nth ps 0).A 4, nth (nth ps 0).A 5, nth (nth ps 0).A 6, .int .i64 (advG (ndOf (nth ps 0).A) (nth (nth ps 0).A 6).L.length), nth (nth ps 0).A 8, nth (nth ps 0).A 9, nth (nth ps 0).A 10, nth (nth ps 0).A 11, nth (nth ps 0).A 12]]⟩
theorem k_advance : FnOk Try.prog 124 c_advance := by
  refine fn_mk [0, 2, 3, 4, 5, 22, 23, 24] [] (env_cons (cs := []) k_termAt (env_nil (tyTab_ok []))) mixed Try.func124 rfl (by decide) rfl (by decide) rfl ?_
  intro ps hT hpre W hW
  simp only [c_advance, TyA, Ty, Tys] at hT hpre
  obtain ⟨_, _, rfl, ⟨_, rfl, _, _, rfl, ⟨n0, rfl, hn0⟩, _, _, rfl, ⟨n1, rfl, hn1⟩, _, _, rfl, ⟨n2, rfl, hn2⟩, _, _, rfl, ⟨n3, rfl, hn3⟩, _, _, rfl, ⟨n4, rfl, hn4⟩, _, _, rfl, ⟨u, rfl⟩, _, _, rfl, ⟨es, rfl, hes, tes⟩, _, _, rfl, ⟨n5, rfl, hn5⟩, _, _, rfl, ⟨n6, rfl, hn6⟩, _, _, rfl, ⟨n7, rfl, hn7⟩, _, _, rfl, ⟨vs, rfl, hvs, tvs⟩, _, _, rfl, ⟨xs, rfl, hxs, txs⟩, _, _, rfl, ⟨ms, rfl, hms, tms⟩, rfl⟩, rfl⟩ := hT
  simp only [nth_zero, nth_succ, pv_I, pv_L, pv_A] at hpre
  refine hW.vc [(10, [], .take 0 <| .take 1 <| .take 3 <| .take 4 <| .take 5 <| .take 6 <| .alt 2 (.take 7 <| .take 8 <| .take 9 <| .take 10 <| .take 11 <| .take 12 <| .take 13 <| .take 14 <| .take 15 <| .take 16 <| .done) .stop)] _ _ ?_
  simp [-List.getD_eq_getElem?_getD, c_advance, c_termAt, ndOf]
  obtain ⟨p1, p2, p3⟩ := hpre
  obtain ⟨nd, hnd⟩ : ∃ nd : ND, nd = ⟨n0, n1, n2, n3, n4, u, es, n5, n6, n7, vs, xs, ms⟩ := ⟨_, rfl⟩
  have hc : nd.com = n5 := by rw [hnd]
  have hl : nd.log = es := by rw [hnd]
  have ht : nd.term = n2 := by rw [hnd]
  have hn : nd.nodes = n1 := by rw [hnd]
  have hi : nd.id = n0 := by rw [hnd]
  have hm : nd.ms = ms := by rw [hnd]
  refine fun _ => hW.loopS _ _ _ [.sl 2 .dp (.int .i64)] (fun ys => ∃ p : Nat, ys = [.int .i64 p] ∧ p ≤ es.length ∧ advG nd es.length = advG nd p) (fun ys => (nth ys 0).I.toNat) ?_ ?_
  · simp [-List.getD_eq_getElem?_getD, c_advance, c_termAt]
    exact ⟨_, rfl, by omega, rfl⟩
  · rintro ys ⟨p, rfl, g1, g2⟩
    refine hW.vc [(10, [], .take 0 <| .take 1 <| .take 3 <| .take 4 <| .take 5 <| .take 6 <| .alt 2 (.take 7 <| .take 8 <| .take 9 <| .take 10 <| .take 11 <| .take 12 <| .take 13 <| .take 14 <| .take 15 <| .take 16 <| .done) .stop)] _ _ ?_
    simp [-List.getD_eq_getElem?_getD, c_advance, c_termAt, ndOf]
    rw [← hnd]
    refine ⟨fun g3 _ => ?_, fun g3 => ?_⟩
    · refine hW.loopS _ _ _ [.sl 24 .dp (.int .i64), .sl 3 .dp (.int .i64)] (fun ys => ∃ i : Nat, ys = [.int .i64 i, .int .i64 (cntG n0 p ms i)] ∧ i ≤ ms.length) (fun ys => ms.length - (nth ys 0).I.toNat) ?_ ?_
      · simp [-List.getD_eq_getElem?_getD, c_advance, c_termAt]
        exact ⟨0, ⟨rfl, rfl⟩, by omega⟩
      · rintro ys ⟨i, rfl, q1⟩
        refine hW.vc [(10, [], .take 0 <| .take 1 <| .take 3 <| .take 4 <| .take 5 <| .take 6 <| .alt 2 (.take 7 <| .take 8 <| .take 9 <| .take 10 <| .take 11 <| .take 12 <| .take 13 <| .take 14 <| .take 15 <| .take 16 <| .done) .stop)] _ _ ?_
        simp [-List.getD_eq_getElem?_getD, c_advance, c_termAt, ndOf]
        have hb := cntG_le n0 p ms i
        rw [← hnd, g2]
        have hu : n5 < p → advG nd p = if tmAt es p = n2 ∧ n1 < 2 * cntG n0 p ms ms.length then (p : Int) else advG nd (p - 1) := fun h => by
          rw [advG_up (by rw [hc]; exact h) (by rw [hc]; exact p1), hl, ht, hn, hi, hm]
        refine ⟨fun q2 => ⟨q2, fun _ => ⟨fun a b => ⟨⟨i + 1, ⟨wrap64 (by omega), ?_⟩, by omega⟩, by rw [wrap64 (by omega)]; omega⟩, fun a => ⟨⟨i + 1, ⟨wrap64 (by omega), ?_⟩, by omega⟩, by rw [wrap64 (by omega)]; omega⟩⟩⟩, fun q2 => ⟨by decide +kernel, g1, ?_⟩⟩
        · rw [cntG, if_pos ⟨a, b⟩, wrap64 (by omega)]
        · rw [cntG, if_neg (fun h => by have := a h.1; omega)]
        · have : i = ms.length := by omega
          subst this
          rw [wrap64 (n := 2 * _) (by omega), wrap64 (n := (p : Int) - 1) (by omega)]
          refine ⟨fun a b => by rw [hu g3, if_pos ⟨a, b⟩], fun a => ⟨⟨p - 1, by omega, by omega, ?_⟩, by omega⟩⟩
          rw [hu g3, if_neg (fun h => by have := a h.1; omega)]
    · rw [g2, advG_low (by rw [hc]; exact g3) (by rw [hc]; exact p1), hc]

end Go.Proofs.Ytmjjdfhpnckacab
end

section
namespace Go.Proofs.Ytmjjdfhpnckacab
set_option maxRecDepth 100000
set_option linter.unusedSimpArgs false

/-- A leader's log. -/
def leadL (t : Int) (es : List PV) : List PV := if es.length < 60 then es ++ [.agg [.int .i64 t, .str []]] else es
def leadN (n : ND) : ND :=
  { n with role := 2, ela := 0, nx := List.replicate n.nodes.toNat (.int .i64 (n.log.length + 1)), ms := List.replicate n.nodes.toNat (.int .i64 0), log := leadL n.term n.log }
/-- A new leader. -/
def leadA (n : ND) : ND := { leadN n with com := advG (leadN n) (leadN n).log.length }
def leadOk (n : ND) : Prop := 1 ≤ n.nodes ∧ n.nodes ≤ 5 ∧ 0 ≤ n.com ∧ n.log.length ≤ 60
theorem leadL_len (t : Int) (es : List PV) : es.length ≤ (leadL t es).length ∧ (leadL t es).length ≤ es.length + 1 := by
  unfold leadL; split <;> simp
theorem nth_rep {x : PV} {n i : Nat} (h : i < n) : nth (List.replicate n x) i = x := by simp [nth, h]
theorem leadA_ok {n : ND} (h : leadOk n) : repsOk (leadA n) := by
  obtain ⟨h1, h2, h3, h4⟩ := h
  have h5 := leadL_len n.term n.log
  refine ⟨h1, h2, fun i hi => ?_⟩
  have hi' : (i : Int) < n.nodes := hi
  have e1 : (leadA n).nx = List.replicate n.nodes.toNat (.int .i64 (n.log.length + 1)) := rfl
  have e2 : (leadA n).log = leadL n.term n.log := rfl
  have e3 : (nth (leadA n).nx ((i : Int)).toNat).I = n.log.length + 1 := by rw [e1, nth_rep (by omega), pv_I]
  refine ⟨by omega, by rw [e1, List.length_replicate]; omega, by rw [e3]; omega, by rw [e3, e2]; omega, by rw [e2]; omega⟩

def c_lead : FSpec := ⟨[(.bx, .box [.int .i64, .int .i64, .int .i64, .int .i64, .int .i64, .bool, .list (.agg [.int .i64, .str]), .int .i64, .int .i64, .int .i64, .list (.int .i64), .list (.int .i64), .list (.int .i64)])], [.list (.agg [.int .i64, .int .i64, .int .i64, .int .i64, .int .i64, .int .i64, .int .i64, .bool, .list (.agg [.int .i64, .str])])], true, fun ps => leadOk (ndOf (nth ps 0).A), fun ps => [.list (repAll (leadA (ndOf (nth ps 0).A)) (nth (nth ps 0).A 1).I.toNat)],
  fun ps => [(leadA (ndOf (nth ps 0).A)).pv]⟩
theorem k_lead : FnOk Try.prog 108 c_lead := by
  refine fn_mk [0, 2] [.tmp 2] (env_cons (cs := []) k_replicateAll (env_cons (cs := []) k_advance (env_cons (cs := []) k_reset (env_nil (tyTab_ok []))))) mixed Try.func108 rfl (by decide) rfl (by decide) rfl ?_
  intro ps hT hpre W hW
  simp only [c_lead, TyA, Ty, Tys] at hT hpre
  obtain ⟨_, _, rfl, ⟨_, rfl, _, _, rfl, ⟨n0, rfl, hn0⟩, _, _, rfl, ⟨n1, rfl, hn1⟩, _, _, rfl, ⟨n2, rfl, hn2⟩, _, _, rfl, ⟨n3, rfl, hn3⟩, _, _, rfl, ⟨n4, rfl, hn4⟩, _, _, rfl, ⟨u, rfl⟩, _, _, rfl, ⟨es, rfl, hes, tes⟩, _, _, rfl, ⟨n5, rfl, hn5⟩, _, _, rfl, ⟨n6, rfl, hn6⟩, _, _, rfl, ⟨n7, rfl, hn7⟩, _, _, rfl, ⟨vs, rfl, hvs, tvs⟩, _, _, rfl, ⟨xs, rfl, hxs, txs⟩, _, _, rfl, ⟨ms, rfl, hms, tms⟩, rfl⟩, rfl⟩ := hT
  simp only [nth_zero, nth_succ, pv_I, pv_L, pv_A, pv_B, ndOf] at hpre
  refine hW.vc [(4, [11, 14], .take 0 <| .take 1 <| .take 2 <| .take 3 <| .take 4 <| .take 5 <| .take 6 <| .take 7 <| .take 8 <| .take 9 <| .alt 10 (.alt 11 (.take 12 <| .take 13 <| .alt 14 (.done) .stop) .stop) .stop)] _ _ ?_
  simp [-List.getD_eq_getElem?_getD, c_lead, c_reset, c_advance, c_replicateAll, ndOf, ND.pv]
  have hk := leadA_ok hpre
  obtain ⟨p1, p2, p3, p4⟩ := hpre
  simp only at p1 p2 p3 p4
  rw [wrap64 (n := (es.length : Int) + 1) (by omega)]
  refine fun _ => ⟨⟨p1, p2⟩, fun _ => ⟨fun h => ?_, fun h => ?_⟩⟩
  · have hA : leadA ⟨n0, n1, n2, n3, n4, u, es, n5, n6, n7, vs, xs, ms⟩ = ⟨n0, n1, n2, n3, 2, u, es ++ [.agg [.int .i64 n2, .str []]],
        advG ⟨n0, n1, n2, n3, 2, u, es ++ [.agg [.int .i64 n2, .str []]], n5, 0, n7, vs, List.replicate n1.toNat (.int .i64 (es.length + 1)), List.replicate n1.toNat (.int .i64 0)⟩ (es.length + 1), 0, n7, vs,
        List.replicate n1.toNat (.int .i64 (es.length + 1)), List.replicate n1.toNat (.int .i64 0)⟩ := by
      have h' : es.length < 60 := by omega
      simp only [leadA, leadN, leadL, if_pos h', List.length_append, List.length_singleton]
    rw [hA] at hk ⊢
    exact ⟨by decide +kernel, by omega, fun _ => ⟨⟨p3, p2, by omega⟩, hk, rfl, rfl, rfl, rfl, rfl, rfl, rfl, rfl, rfl, rfl, rfl, rfl, rfl, rfl⟩⟩
  · have hA : leadA ⟨n0, n1, n2, n3, n4, u, es, n5, n6, n7, vs, xs, ms⟩ = ⟨n0, n1, n2, n3, 2, u, es,
        advG ⟨n0, n1, n2, n3, 2, u, es, n5, 0, n7, vs, List.replicate n1.toNat (.int .i64 (es.length + 1)), List.replicate n1.toNat (.int .i64 0)⟩ es.length, 0, n7, vs,
        List.replicate n1.toNat (.int .i64 (es.length + 1)), List.replicate n1.toNat (.int .i64 0)⟩ := by
      have h' : ¬ es.length < 60 := by omega
      simp only [leadA, leadN, leadL, if_neg h']
    rw [hA] at hk ⊢
    exact ⟨⟨p3, p2, by omega⟩, hk, rfl, rfl, rfl, rfl, rfl, rfl, rfl, rfl, rfl, rfl, rfl, rfl, rfl, rfl⟩

/-- The message by which a candidate asks for a vote. -/
def voteM (n : ND) (to : Int) : PV := .agg [.int .i64 1, .int .i64 n.id, .int .i64 to, .int .i64 n.term, .int .i64 n.log.length, .int .i64 (tmAt n.log n.log.length), .int .i64 0, .bool false, .list []]
def voteAll (n : ND) : Nat → List PV
  | 0 => []
  | k + 1 => voteAll n k ++ (if (k : Int) = n.id then [] else [voteM n k])
theorem voteAll_len (n : ND) : ∀ k, (voteAll n k).length ≤ k
  | 0 => Nat.le_refl _
  | k + 1 => by
    have := voteAll_len n k
    rw [voteAll, List.length_append]
    split <;> simp <;> omega
/-- A candidate. -/
def standN (n : ND) (d : Int) : ND := { n with term := n.term + 1, vote := n.id, role := 1, vs := [.int .i64 n.id], ela := 0, wt := 5 + d.tmod 8 }
def elaN (n : ND) : ND := { n with ela := if 1000 < n.ela + 1 then 1000 else n.ela + 1 }
def standR (n : ND) (d : Int) : ND × List PV := if n.nodes = 1 then (leadA (standN n d), repAll (leadA (standN n d)) n.nodes.toNat) else (standN n d, voteAll (standN n d) n.nodes.toNat)
def tickN (n : ND) (d : Int) : ND × List PV :=
  if n.role = 2 then (if (elaN n).ela < 2 then (elaN n, []) else ({ n with ela := 0 }, repAll { n with ela := 0 } n.nodes.toNat))
  else if (elaN n).ela < n.wt ∨ n.term = 1000 then (elaN n, []) else standR n d
theorem tick_a {n : ND} {d : Int} (h1 : n.role = 2) (h2 : (elaN n).ela < 2) : tickN n d = (elaN n, []) := by rw [tickN, if_pos h1, if_pos h2]
theorem tick_b {n : ND} {d : Int} (h1 : n.role = 2) (h2 : ¬ (elaN n).ela < 2) : tickN n d = ({ n with ela := 0 }, repAll { n with ela := 0 } n.nodes.toNat) := by rw [tickN, if_pos h1, if_neg h2]
theorem tick_c {n : ND} {d : Int} (h1 : ¬ n.role = 2) (h2 : (elaN n).ela < n.wt ∨ n.term = 1000) : tickN n d = (elaN n, []) := by rw [tickN, if_neg h1, if_pos h2]
theorem tick_d {n : ND} {d : Int} (h1 : ¬ n.role = 2) (h2 : ¬ ((elaN n).ela < n.wt ∨ n.term = 1000)) (h3 : n.nodes = 1) : tickN n d = (leadA (standN n d), repAll (leadA (standN n d)) n.nodes.toNat) := by rw [tickN, if_neg h1, if_neg h2, standR, if_pos h3]
theorem tick_e {n : ND} {d : Int} (h1 : ¬ n.role = 2) (h2 : ¬ ((elaN n).ela < n.wt ∨ n.term = 1000)) (h3 : ¬ n.nodes = 1) : tickN n d = (standN n d, voteAll (standN n d) n.nodes.toNat) := by rw [tickN, if_neg h1, if_neg h2, standR, if_neg h3]

theorem nm_get {l : Int} : ∀ {xs ms : List PV}, nmB l xs ms = true → xs.length = ms.length → ∀ i, i < xs.length → 1 ≤ (nth xs i).I ∧ (nth xs i).I ≤ l + 1 ∧ 0 ≤ (nth ms i).I ∧ (nth ms i).I ≤ (nth xs i).I - 1
  | [], _, _, _, i, hi => by simp at hi
  | x :: xs, [], _, hl, i, hi => by simp at hl
  | x :: xs, m :: ms, h, hl, i, hi => by
    simp only [nmB, Bool.and_eq_true, inB, decide_eq_true_eq] at h
    cases i with
    | zero => simp only [nth_zero]; omega
    | succ i => simp only [nth_succ]; exact nm_get h.2 (by simpa using hl) i (by simpa using hi)
structure NdF (n : ND) : Prop where
  n1 : 1 ≤ n.nodes
  n5 : n.nodes ≤ 5
  i0 : 0 ≤ n.id
  i1 : n.id ≤ n.nodes - 1
  t0 : 0 ≤ n.term
  t1 : n.term ≤ 1000
  en : entB n.term 0 n.log = true
  l6 : n.log.length ≤ 60
  r0 : 0 ≤ n.role
  r2 : n.role ≤ 2
  ur : n.up = true ∨ n.role = 0
  c0 : 0 ≤ n.com
  c1 : n.com ≤ n.log.length
  e0 : 0 ≤ n.ela
  e1 : n.ela ≤ 1000
  w5 : 5 ≤ n.wt
  w1 : n.wt ≤ 100
  nx : (n.nx.length : Int) = n.nodes
  ms : (n.ms.length : Int) = n.nodes
  vo : voB n.nodes (-1) n.vs = true
  nm : nmB n.log.length n.nx n.ms = true
  vt : -1 ≤ n.vote ∧ n.vote ≤ 4 ∧ n.vote < n.nodes
theorem nodeB_F {n : ND} (h : nodeB n = true) : NdF n := by
  simp only [nodeB, ndB1, stB, entsB, inB, leB, ltB, Bool.and_eq_true, Bool.or_eq_true, decide_eq_true_eq, beq_iff_eq] at h
  obtain ⟨⟨⟨⟨⟨⟨⟨⟨⟨⟨⟨⟨h1, h2⟩, h3⟩, h4⟩, h5⟩, h6⟩, h7⟩, h8⟩, h9⟩, h10⟩, h11⟩, h12⟩, h13⟩ := h
  exact ⟨by omega, by omega, by omega, by omega, by omega, by omega, h3.2.1, by omega, by omega, by omega, h6, by omega, by omega, by omega, by omega, by omega, by omega, h10, h11, h12, h13, by omega⟩
theorem NdF.reps {n : ND} (h : NdF n) : repsOk n := by
  refine ⟨h.n1, h.n5, fun i hi => ?_⟩
  have h1 := h.nx
  have h2 := h.ms
  have h3 := h.l6
  have := nm_get h.nm (by omega) i (by omega)
  exact ⟨by omega, by omega, by rw [Int.toNat_natCast]; omega, by rw [Int.toNat_natCast]; omega, by omega⟩

def c_tick : FSpec := ⟨[(.bx, .box [.int .i64, .int .i64, .int .i64, .int .i64, .int .i64, .bool, .list (.agg [.int .i64, .str]), .int .i64, .int .i64, .int .i64, .list (.int .i64), .list (.int .i64), .list (.int .i64)]), (.rd, .int .i64)], [.list (.agg [.int .i64, .int .i64, .int .i64, .int .i64, .int .i64, .int .i64, .int .i64, .bool, .list (.agg [.int .i64, .str])])], true, fun ps => nodeB (ndOf (nth ps 0).A) = true ∧ 0 ≤ (nth ps 1).I ∧ (nth ps 1).I ≤ 1000000, fun ps => [.list (tickN (ndOf (nth ps 0).A) (nth ps 1).I).2],
  fun ps => [(tickN (ndOf (nth ps 0).A) (nth ps 1).I).1.pv]⟩
theorem k_tick : FnOk Try.prog 64 c_tick := by
  refine fn_mk [0, 1, 4, 5, 6, 7, 92, 93] [.tmp 4] (env_cons (cs := []) k_termAt (env_cons (cs := []) k_message (env_cons (cs := []) k_lead (env_cons (cs := []) k_replicateAll (env_nil (tyTab_ok [])))))) mixed Try.func64 rfl (by decide) rfl (by decide) rfl ?_
  intro ps hT hpre W hW
  simp only [c_tick, TyA, Ty, Tys] at hT hpre
  obtain ⟨_, _, rfl, ⟨_, rfl, _, _, rfl, ⟨n0, rfl, hn0⟩, _, _, rfl, ⟨n1, rfl, hn1⟩, _, _, rfl, ⟨n2, rfl, hn2⟩, _, _, rfl, ⟨n3, rfl, hn3⟩, _, _, rfl, ⟨n4, rfl, hn4⟩, _, _, rfl, ⟨u, rfl⟩, _, _, rfl, ⟨es, rfl, hes, tes⟩, _, _, rfl, ⟨n5, rfl, hn5⟩, _, _, rfl, ⟨n6, rfl, hn6⟩, _, _, rfl, ⟨n7, rfl, hn7⟩, _, _, rfl, ⟨vs, rfl, hvs, tvs⟩, _, _, rfl, ⟨xs, rfl, hxs, txs⟩, _, _, rfl, ⟨ms, rfl, hms, tms⟩, rfl⟩, _, _, rfl, ⟨d, rfl, hd⟩, rfl⟩ := hT
  simp only [nth_zero, nth_succ, pv_I, pv_L, pv_A, pv_B, ndOf] at hpre
  refine hW.vc [(7, [], .take 0 <| .take 1 <| .take 2 <| .take 3 <| .take 4 <| .take 5 <| .take 6 <| .take 7 <| .take 8 <| .take 9 <| .take 10 <| .take 11 <| .take 12 <| .take 13 <| .take 14 <| .take 15 <| .done), (10, [19, 22, 25, 28, 31], .take 0 <| .take 1 <| .take 2 <| .take 3 <| .take 4 <| .take 5 <| .take 6 <| .take 7 <| .take 8 <| .take 9 <| .take 10 <| .take 11 <| .take 12 <| .take 14 <| .take 15 <| .take 16 <| .take 17 <| .take 18 <| .alt 13 (.alt 19 (.take 20 <| .take 21 <| .alt 22 (.take 23 <| .take 24 <| .alt 25 (.take 26 <| .take 27 <| .alt 28 (.take 29 <| .take 30 <| .alt 31 (.done) .stop) .stop) .stop) .stop) .stop) (.alt 19 (.take 20 <| .take 21 <| .alt 13 (.alt 22 (.take 23 <| .take 24 <| .alt 25 (.take 26 <| .take 27 <| .alt 28 (.take 29 <| .take 30 <| .alt 31 (.done) .stop) .stop) .stop) .stop) (.alt 22 (.alt 13 (.take 23 <| .take 24 <| .alt 25 (.take 26 <| .take 27 <| .alt 28 (.take 29 <| .take 30 <| .alt 31 (.done) .stop) .stop) .stop) .stop) .stop)) .stop)), (19, [13, 15], .take 0 <| .take 1 <| .take 2 <| .take 3 <| .take 4 <| .take 5 <| .take 6 <| .take 7 <| .take 8 <| .take 9 <| .take 10 <| .take 12 <| .alt 11 (.alt 13 (.take 14 <| .alt 15 (.done) .stop) .stop) .stop)] _ _ ?_
  simp [-List.getD_eq_getElem?_getD, c_tick, c_replicateAll, c_lead, c_message, c_termAt, ndOf, ND.pv]
  obtain ⟨hB, hd0, hd1⟩ := hpre
  have hF := nodeB_F hB
  obtain ⟨nd, hnd⟩ : ∃ nd : ND, nd = ⟨n0, n1, n2, n3, n4, u, es, n5, n6, n7, vs, xs, ms⟩ := ⟨_, rfl⟩
  have f1 : 1 ≤ n1 ∧ n1 ≤ 5 ∧ 0 ≤ n0 ∧ n0 ≤ n1 - 1 ∧ 0 ≤ n2 ∧ n2 ≤ 1000 ∧ es.length ≤ 60 ∧ 0 ≤ n5 ∧ 0 ≤ n6 ∧ n6 ≤ 1000 := ⟨hF.n1, hF.n5, hF.i0, hF.i1, hF.t0, hF.t1, hF.l6, hF.c0, hF.e0, hF.e1⟩
  have ht : 0 ≤ d.tmod 8 ∧ d.tmod 8 < 8 := ⟨Int.tmod_nonneg _ hd0, Int.tmod_lt_of_pos _ (by omega)⟩
  have e1 : IntKind.i64.wrap (n6 + 1) = n6 + 1 := wrap64 (by omega)
  have e2 : IntKind.i64.wrap (n2 + 1) = n2 + 1 := wrap64 (by omega)
  have e3 : IntKind.i64.wrap (5 + d.tmod 8) = 5 + d.tmod 8 := wrap64 (by omega)
  have hr : repsOk { nd with ela := 0 } := by rw [hnd]; exact hF.reps
  rw [e1, e2, e3, ← hnd]
  have hq : nd.role = n4 ∧ nd.wt = n7 ∧ nd.term = n2 ∧ nd.nodes = n1 ∧ (elaN nd).ela = (if 1000 < n6 + 1 then 1000 else n6 + 1) := by rw [hnd]; exact ⟨rfl, rfl, rfl, rfl, rfl⟩
  obtain ⟨q1, q2, q3, q4, q5⟩ := hq
  refine ⟨fun h1 => ⟨fun h2 => ?_, fun h2 => ?_⟩, fun h1 => ⟨by decide +kernel, fun h2 => ?_, fun h2 h3 => ⟨by decide +kernel, fun h4 => ?_, fun h4 => ?_⟩⟩⟩
  · rw [tick_a (by rw [q1]; exact h1) (by rw [q5]; exact h2), hnd]
    exact ⟨rfl, rfl, rfl, rfl, rfl, rfl, rfl, rfl, rfl, rfl, rfl, rfl, rfl, rfl⟩
  · rw [tick_b (by rw [q1]; exact h1) (by rw [q5]; exact Int.not_lt.2 h2)]
    refine ⟨?_, ?_⟩
    · rw [hnd] at hr; exact hr
    · rw [hnd]; exact ⟨rfl, rfl, rfl, rfl, rfl, rfl, rfl, rfl, rfl, rfl, rfl, rfl, rfl, rfl⟩
  · rw [tick_c (by rw [q1]; exact h1) (by rw [q5, q2, q3]; exact h2), hnd]
    exact ⟨rfl, rfl, rfl, rfl, rfl, rfl, rfl, rfl, rfl, rfl, rfl, rfl, rfl, rfl⟩
  · rw [tick_d (by rw [q1]; exact h1) (by rw [q5, q2, q3]; exact fun h => h.elim (fun h => absurd h2 (Int.not_le.2 h)) h3) (by rw [q4]; exact h4), hnd]
    exact ⟨⟨f1.1, f1.2.1, f1.2.2.2.2.2.2.2.1, f1.2.2.2.2.2.2.1⟩, rfl, rfl, rfl, rfl, rfl, rfl, rfl, rfl, rfl, rfl, rfl, rfl, rfl, rfl⟩
  · have hT := tick_e (d := d) (by rw [q1]; exact h1) (by rw [q5, q2, q3]; exact fun h => h.elim (fun h => absurd h2 (Int.not_le.2 h)) h3) (by rw [q4]; exact h4)
    have hS : standN nd d = ⟨n0, n1, n2 + 1, n0, 1, u, es, n5, 0, 5 + d.tmod 8, [.int .i64 n0], xs, ms⟩ := by rw [hnd]; rfl
    obtain ⟨sd, hsd⟩ : ∃ sd : ND, sd = standN nd d := ⟨_, rfl⟩
    rw [← hsd] at hS hT
    refine hW.loopS _ _ _ [.sl 93 .dp (.int .i64), .sl 5 .dp (.list (.agg [.int .i64, .int .i64, .int .i64, .int .i64, .int .i64, .int .i64, .int .i64, .bool, .list (.agg [.int .i64, .str])]))] (fun ys => ∃ i : Nat, ys = [.int .i64 i, .list (voteAll sd i)] ∧ (i : Int) ≤ n1) (fun ys => n1.toNat - (nth ys 0).I.toNat) ?_ ?_
    · simp [-List.getD_eq_getElem?_getD, c_tick, c_replicateAll, c_lead, c_message, c_termAt]
      exact ⟨0, ⟨rfl, rfl⟩, by omega⟩
    · rintro ys ⟨i, rfl, g1⟩
      refine hW.vc [(7, [], .take 0 <| .take 1 <| .take 2 <| .take 3 <| .take 4 <| .take 5 <| .take 6 <| .take 7 <| .take 8 <| .take 9 <| .take 10 <| .take 11 <| .take 12 <| .take 13 <| .take 14 <| .take 15 <| .done), (10, [19, 22, 25, 28, 31], .take 0 <| .take 1 <| .take 2 <| .take 3 <| .take 4 <| .take 5 <| .take 6 <| .take 7 <| .take 8 <| .take 9 <| .take 10 <| .take 11 <| .take 12 <| .take 14 <| .take 15 <| .take 16 <| .take 17 <| .take 18 <| .alt 13 (.alt 19 (.take 20 <| .take 21 <| .alt 22 (.take 23 <| .take 24 <| .alt 25 (.take 26 <| .take 27 <| .alt 28 (.take 29 <| .take 30 <| .alt 31 (.done) .stop) .stop) .stop) .stop) .stop) (.alt 19 (.take 20 <| .take 21 <| .alt 13 (.alt 22 (.take 23 <| .take 24 <| .alt 25 (.take 26 <| .take 27 <| .alt 28 (.take 29 <| .take 30 <| .alt 31 (.done) .stop) .stop) .stop) .stop) (.alt 22 (.alt 13 (.take 23 <| .take 24 <| .alt 25 (.take 26 <| .take 27 <| .alt 28 (.take 29 <| .take 30 <| .alt 31 (.done) .stop) .stop) .stop) .stop) .stop)) .stop)), (19, [13, 15], .take 0 <| .take 1 <| .take 2 <| .take 3 <| .take 4 <| .take 5 <| .take 6 <| .take 7 <| .take 8 <| .take 9 <| .take 10 <| .take 12 <| .alt 11 (.alt 13 (.take 14 <| .alt 15 (.done) .stop) .stop) .stop)] _ _ ?_
      simp [-List.getD_eq_getElem?_getD, c_tick, c_replicateAll, c_lead, c_message, c_termAt, ndOf]
      have hl := voteAll_len sd i
      rw [wrap64 (n := (i : Int) + 1) (by omega)]
      refine ⟨fun g2 => ⟨fun g3 => ⟨by decide +kernel, fun _ => ⟨by omega, fun _ => ⟨⟨i + 1, ⟨rfl, ?_⟩, by omega⟩, by omega⟩⟩⟩, fun g3 => ⟨⟨i + 1, ⟨rfl, ?_⟩, by omega⟩, by omega⟩⟩, fun g2 => ?_⟩
      · rw [voteAll, if_neg (by rw [hS]; exact g3), hS]; rfl
      · rw [voteAll, if_pos (by rw [hS]; exact g3), List.append_nil]
      · have : i = n1.toNat := by omega
        rw [← hnd, hT, q4, this]
        exact ⟨rfl, by rw [hS]; rfl⟩

def ntOf (n : ND) (d : Int) : ND × List PV × Int :=
  cond (nodeB n) (cond (inB d 0 1000000) (cond n.up ((tickN n d).1, (tickN n d).2, 0) (n, [], 13)) (ND.no, [], 4)) (ND.no, [], 1)
def c_iNodeTick : FSpec := ⟨[(.rd, .agg [.int .i64, .int .i64, .int .i64, .int .i64, .int .i64, .bool, .list (.agg [.int .i64, .str]), .int .i64, .int .i64, .int .i64, .list (.int .i64), .list (.int .i64), .list (.int .i64)]), (.rd, .int .i64)], [.agg [.int .i64, .int .i64, .int .i64, .int .i64, .int .i64, .bool, .list (.agg [.int .i64, .str]), .int .i64, .int .i64, .int .i64, .list (.int .i64), .list (.int .i64), .list (.int .i64)], .list (.agg [.int .i64, .int .i64, .int .i64, .int .i64, .int .i64, .int .i64, .int .i64, .bool, .list (.agg [.int .i64, .str])]), .int .i64], true, fun ps => (nth (nth ps 0).A 10).L.length ≤ 1048576,
  fun ps => [(ntOf (ndOf (nth ps 0).A) (nth ps 1).I).1.pv, .list (ntOf (ndOf (nth ps 0).A) (nth ps 1).I).2.1, .int .i64 (ntOf (ndOf (nth ps 0).A) (nth ps 1).I).2.2], fun _ => []⟩
theorem k_iNodeTick : FnOk Try.prog 19 c_iNodeTick := by
  refine fn_mk [0, 1, 2, 4, 5, 6, 7, 8] [.cell 4 41, .tmp 5, .tmp 6] (env_cons (cs := []) k_tick (env_cons (cs := []) k_cloneNode (env_cons (cs := []) k_within (env_cons (cs := []) k_isNode (env_nil (tyTab_ok [])))))) mixed Try.func19 rfl (by decide) rfl (by decide) rfl ?_
  intro ps hT hpre W hW
  simp only [c_iNodeTick, TyA, Ty, Tys] at hT hpre
  obtain ⟨_, _, rfl, ⟨_, rfl, _, _, rfl, ⟨n0, rfl, hn0⟩, _, _, rfl, ⟨n1, rfl, hn1⟩, _, _, rfl, ⟨n2, rfl, hn2⟩, _, _, rfl, ⟨n3, rfl, hn3⟩, _, _, rfl, ⟨n4, rfl, hn4⟩, _, _, rfl, ⟨u, rfl⟩, _, _, rfl, ⟨es, rfl, hes, tes⟩, _, _, rfl, ⟨n5, rfl, hn5⟩, _, _, rfl, ⟨n6, rfl, hn6⟩, _, _, rfl, ⟨n7, rfl, hn7⟩, _, _, rfl, ⟨vs, rfl, hvs, tvs⟩, _, _, rfl, ⟨xs, rfl, hxs, txs⟩, _, _, rfl, ⟨ms, rfl, hms, tms⟩, rfl⟩, _, _, rfl, ⟨d, rfl, hd⟩, rfl⟩ := hT
  simp only [nth_zero, nth_succ, pv_I, pv_L, pv_A] at hpre
  refine hW.vc [] _ _ ?_
  simp [-List.getD_eq_getElem?_getD, c_iNodeTick, c_isNode, c_within, c_cloneNode, c_tick, c_toNode, ndOf, ND.pv]
  obtain ⟨nd, hnd⟩ : ∃ nd : ND, nd = ⟨n0, n1, n2, n3, n4, u, es, n5, n6, n7, vs, xs, ms⟩ := ⟨_, rfl⟩
  rw [← hnd]
  refine ⟨fun h1 => ?_, fun h1 => ⟨fun h2 => ?_, fun h2 => ?_⟩⟩
  · have e : ntOf nd d = (ND.no, [], 1) := by rw [ntOf, h1]; rfl
    rw [e]
    simp [ND.no]
  · have e : ntOf nd d = (ND.no, [], 4) := by rw [ntOf, h1, h2]; rfl
    rw [e]
    simp [ND.no]
  · have hF := nodeB_F h1
    have f1 : es.length ≤ 60 ∧ (xs.length : Int) ≤ 5 ∧ (ms.length : Int) ≤ 5 := by
      have a1 := hF.l6; have a2 := hF.nx; have a3 := hF.ms; have a4 := hF.n5
      rw [hnd] at a1 a2 a3 a4
      simp only at a1 a2 a3 a4
      exact ⟨a1, by omega, by omega⟩
    refine ⟨fun hu => ⟨⟨by omega, hpre, by omega, by omega⟩, ?_⟩, fun hu => ⟨⟨by omega, hpre, by omega, by omega⟩, ⟨h1, ?_⟩, ?_⟩⟩
    · have e : ntOf nd d = (nd, [], 13) := by rw [ntOf, h1, h2, show nd.up = false by rw [hnd]; exact hu]; rfl
      rw [e, hnd]; exact ⟨⟨rfl, rfl, rfl, rfl, rfl, rfl, rfl, rfl, rfl, rfl, rfl, rfl, rfl⟩, rfl, rfl⟩
    · simp [inB] at h2; omega
    · have e : ntOf nd d = ((tickN nd d).1, (tickN nd d).2, 0) := by rw [ntOf, h1, h2, show nd.up = true by rw [hnd]; exact hu]; rfl
      rw [e]; exact ⟨⟨rfl, rfl, rfl, rfl, rfl, rfl, rfl, rfl, rfl, rfl, rfl, rfl, rfl⟩, rfl, rfl⟩

end Go.Proofs.Ytmjjdfhpnckacab
end

section
namespace Go.Proofs.Ytmjjdfhpnckacab
set_option maxRecDepth 100000
set_option linter.unusedSimpArgs false

/-- A message. -/
structure MG where
  kind : Int
  frm : Int
  to : Int
  term : Int
  idx : Int
  lt : Int
  com : Int
  ok : Bool
  es : List PV
def mgOf (v : List PV) : MG := ⟨(nth v 0).I, (nth v 1).I, (nth v 2).I, (nth v 3).I, (nth v 4).I, (nth v 5).I, (nth v 6).I, (nth v 7).B, (nth v 8).L⟩
def MG.pv (m : MG) : PV := .agg [.int .i64 m.kind, .int .i64 m.frm, .int .i64 m.to, .int .i64 m.term, .int .i64 m.idx, .int .i64 m.lt, .int .i64 m.com, .bool m.ok, .list m.es]

/-- A follower. -/
def followN (n : ND) : ND := { n with role := 0, vs := [], nx := List.replicate n.nodes.toNat (.int .i64 1), ms := List.replicate n.nodes.toNat (.int .i64 0) }
def c_follow : FSpec := ⟨[(.bx, .box [.int .i64, .int .i64, .int .i64, .int .i64, .int .i64, .bool, .list (.agg [.int .i64, .str]), .int .i64, .int .i64, .int .i64, .list (.int .i64), .list (.int .i64), .list (.int .i64)])], [], true, fun ps => 1 ≤ (nth (nth ps 0).A 1).I ∧ (nth (nth ps 0).A 1).I ≤ 5, fun _ => [], fun ps => [(followN (ndOf (nth ps 0).A)).pv]⟩
theorem k_follow : FnOk Try.prog 120 c_follow := by
  refine fn_mk [0] [] (env_cons (cs := []) k_reset (env_nil (tyTab_ok []))) mixed Try.func120 rfl (by decide) rfl (by decide) rfl ?_
  intro ps hT hpre W hW
  simp only [c_follow, TyA, Ty, Tys] at hT hpre
  obtain ⟨_, _, rfl, ⟨_, rfl, _, _, rfl, ⟨n0, rfl, hn0⟩, _, _, rfl, ⟨n1, rfl, hn1⟩, _, _, rfl, ⟨n2, rfl, hn2⟩, _, _, rfl, ⟨n3, rfl, hn3⟩, _, _, rfl, ⟨n4, rfl, hn4⟩, _, _, rfl, ⟨u, rfl⟩, _, _, rfl, ⟨es, rfl, hes, tes⟩, _, _, rfl, ⟨n5, rfl, hn5⟩, _, _, rfl, ⟨n6, rfl, hn6⟩, _, _, rfl, ⟨n7, rfl, hn7⟩, _, _, rfl, ⟨vs, rfl, hvs, tvs⟩, _, _, rfl, ⟨xs, rfl, hxs, txs⟩, _, _, rfl, ⟨ms, rfl, hms, tms⟩, rfl⟩, rfl⟩ := hT
  simp only [nth_zero, nth_succ, pv_I, pv_L, pv_A] at hpre
  refine hW.vc [] _ _ ?_
  simp [-List.getD_eq_getElem?_getD, c_follow, c_reset, ndOf, ND.pv, followN]
  exact hpre

/-- A log is at least as new as another. -/
def upB1 (es : List PV) (idx lt : Int) : Bool := decide (tmAt es es.length < lt) || decide (lt = tmAt es es.length) && decide ((es.length : Int) ≤ idx)
def c_isUpToDate : FSpec := ⟨[(.rd, .box [.int .i64, .int .i64, .int .i64, .int .i64, .int .i64, .bool, .list (.agg [.int .i64, .str]), .int .i64, .int .i64, .int .i64, .list (.int .i64), .list (.int .i64), .list (.int .i64)]), (.rd, .int .i64), (.rd, .int .i64)], [.bool], true, fun ps => (nth (nth ps 0).A 6).L.length ≤ 1048576, fun ps => [.bool (upB1 (nth (nth ps 0).A 6).L (nth ps 1).I (nth ps 2).I)], fun _ => []⟩
theorem k_isUpToDate : FnOk Try.prog 81 c_isUpToDate := by
  refine fn_mk [0, 1, 2, 6, 7] [.tmp 6] (env_cons (cs := []) k_termAt (env_nil (tyTab_ok []))) mixed Try.func81 rfl (by decide) rfl (by decide) rfl ?_
  intro ps hT hpre W hW
  simp only [c_isUpToDate, TyA, Ty, Tys] at hT hpre
  obtain ⟨_, _, rfl, ⟨_, rfl, _, _, rfl, ⟨n0, rfl, hn0⟩, _, _, rfl, ⟨n1, rfl, hn1⟩, _, _, rfl, ⟨n2, rfl, hn2⟩, _, _, rfl, ⟨n3, rfl, hn3⟩, _, _, rfl, ⟨n4, rfl, hn4⟩, _, _, rfl, ⟨u, rfl⟩, _, _, rfl, ⟨es, rfl, hes, tes⟩, _, _, rfl, ⟨n5, rfl, hn5⟩, _, _, rfl, ⟨n6, rfl, hn6⟩, _, _, rfl, ⟨n7, rfl, hn7⟩, _, _, rfl, ⟨vs, rfl, hvs, tvs⟩, _, _, rfl, ⟨xs, rfl, hxs, txs⟩, _, _, rfl, ⟨ms, rfl, hms, tms⟩, rfl⟩, _, _, rfl, ⟨x, rfl, hx⟩, _, _, rfl, ⟨t, rfl, ht⟩, rfl⟩ := hT
  simp only [nth_zero, nth_succ, pv_I, pv_L, pv_A] at hpre
  refine hW.vc [] _ _ ?_
  simp [-List.getD_eq_getElem?_getD, c_isUpToDate, c_termAt]
  exact fun _ _ => ⟨fun a => ⟨a, fun b => ⟨a, b⟩⟩, rfl⟩

def c_cmpNaN : FSpec := ⟨[(.rd, .int .i64)], [.bool], true, fun _ => True, fun _ => [.bool false], fun _ => []⟩
theorem k_cmpNaN : FnOk Try.prog 176 c_cmpNaN := by
  refine fn_mk [0, 2] [.tmp 2] (env_nil (tyTab_ok [])) mixed Try.func176 rfl (by decide) rfl (by decide) rfl ?_
  intro ps hT hpre W hW
  simp only [c_cmpNaN, TyA, Ty, Tys] at hT hpre
  obtain ⟨_, _, rfl, ⟨x, rfl, hx⟩, rfl⟩ := hT
  refine hW.vc [] _ _ ?_
  simp [-List.getD_eq_getElem?_getD, c_cmpNaN]
def c_slNaN : FSpec := c_cmpNaN
theorem k_slNaN : FnOk Try.prog 155 c_slNaN := by
  refine fn_mk [0, 2] [.tmp 2] (env_nil (tyTab_ok [])) mixed Try.func155 rfl (by decide) rfl (by decide) rfl ?_
  intro ps hT hpre W hW
  simp only [c_slNaN, TyA, Ty, Tys] at hT hpre
  simp only [c_cmpNaN, TyA, Ty, Tys] at hT hpre
  obtain ⟨_, _, rfl, ⟨x, rfl, hx⟩, rfl⟩ := hT
  refine hW.vc [] _ _ ?_
  simp [-List.getD_eq_getElem?_getD, c_slNaN, c_cmpNaN]
def c_cmpLess : FSpec := ⟨[(.rd, .int .i64), (.rd, .int .i64)], [.bool], true, fun _ => True, fun ps => [.bool (ltB (nth ps 0).I (nth ps 1).I)], fun _ => []⟩
theorem k_cmpLess : FnOk Try.prog 154 c_cmpLess := by
  refine fn_mk [0, 1, 4] [.tmp 4] (env_cons (cs := []) k_cmpNaN (env_nil (tyTab_ok []))) mixed Try.func154 rfl (by decide) rfl (by decide) rfl ?_
  intro ps hT hpre W hW
  simp only [c_cmpLess, TyA, Ty, Tys] at hT hpre
  obtain ⟨_, _, rfl, ⟨x, rfl, hx⟩, _, _, rfl, ⟨y, rfl, hy⟩, rfl⟩ := hT
  refine hW.vc [] _ _ ?_
  simp [-List.getD_eq_getElem?_getD, c_cmpLess, c_cmpNaN, ltB]
  rfl

/-- Where a vote stands or would stand. -/
def posV (x : Int) : List PV → Nat
  | [] => 0
  | e :: es => if e.I < x then posV x es + 1 else 0
def hasV (x : Int) (es : List PV) : Bool := decide (posV x es < es.length) && decide ((nth es (posV x es)).I = x)
theorem posV_le (x : Int) : ∀ es, posV x es ≤ es.length
  | [] => Nat.le_refl _
  | e :: es => by
    have := posV_le x es
    rw [posV]
    split <;> simp <;> omega
/-- Ahead of the place all are less, from it on none in a list that rises. -/
theorem posV_iff {n x : Int} : ∀ {es : List PV} {p : Int}, voB n p es = true → ∀ i, i < es.length → ((nth es i).I < x ↔ i < posV x es)
  | [], p, h, i, hi => by simp at hi
  | e :: es, p, h, i, hi => by
    simp only [voB, Bool.and_eq_true, decide_eq_true_eq] at h
    have up : ∀ {es : List PV} {q : Int}, voB n q es = true → ∀ i, i < es.length → q < (nth es i).I := by
      intro es
      induction es with
      | nil => intro q _ i hi; simp at hi
      | cons e es ih =>
        intro q h i hi
        simp only [voB, Bool.and_eq_true, decide_eq_true_eq] at h
        cases i with
        | zero => rw [nth_zero]; omega
        | succ i =>
          rw [nth_succ]
          have := ih h.2 i (by simpa using hi)
          omega
    rw [posV]
    by_cases h1 : e.I < x
    · rw [if_pos h1]
      cases i with
      | zero => rw [nth_zero]; exact ⟨fun _ => by omega, fun _ => h1⟩
      | succ i =>
        rw [nth_succ, posV_iff h.2 i (by simpa using hi)]
        omega
    · rw [if_neg h1]
      refine ⟨fun h2 => ?_, fun h2 => by omega⟩
      cases i with
      | zero => rw [nth_zero] at h2; exact absurd h2 h1
      | succ i =>
        rw [nth_succ] at h2
        have := up h.2 i (by simpa using hi)
        omega

def c_BinarySearch : FSpec := ⟨[(.rd, .list (.int .i64)), (.rd, .int .i64)], [.int .i64, .bool], true, fun ps => (nth ps 0).L.length ≤ 1048576 ∧ voB 5 (-1) (nth ps 0).L = true, fun ps => [.int .i64 (posV (nth ps 1).I (nth ps 0).L), .bool (hasV (nth ps 1).I (nth ps 0).L)], fun _ => []⟩
theorem k_BinarySearch : FnOk Try.prog 121 c_BinarySearch := by
  refine fn_mk [0, 1, 4, 5, 6, 7, 8, 9] [.tmp 4, .tmp 5] (env_cons (cs := []) k_slNaN (env_cons (cs := []) k_cmpLess (env_nil (tyTab_ok [])))) mixed Try.func121 rfl (by decide) rfl (by decide) rfl ?_
  intro ps hT hpre W hW
  simp only [c_BinarySearch, TyA, Ty, Tys] at hT hpre
  obtain ⟨_, _, rfl, ⟨es, rfl, hes, tes⟩, _, _, rfl, ⟨x, rfl, hx⟩, rfl⟩ := hT
  simp only [nth_zero, nth_succ, pv_I, pv_L] at hpre
  obtain ⟨p1, p2⟩ := hpre
  refine hW.vc [] _ _ ?_
  simp [-List.getD_eq_getElem?_getD, c_BinarySearch, c_cmpLess, c_slNaN, c_cmpNaN, c_cmpNaN]
  refine fun _ => hW.loopS _ _ _ [.sl 7 .dp (.int .i64), .sl 8 .dp (.int .i64)] (fun ys => ∃ i j : Nat, ys = [.int .i64 i, .int .i64 j] ∧ i ≤ posV x es ∧ posV x es ≤ j ∧ j ≤ es.length) (fun ys => (nth ys 1).I.toNat - (nth ys 0).I.toNat) ?_ ?_
  · simp [-List.getD_eq_getElem?_getD, c_BinarySearch, c_cmpLess, c_slNaN, c_cmpNaN]
    exact ⟨0, _, ⟨rfl, rfl⟩, by omega, posV_le x es, by omega⟩
  · rintro ys ⟨i, j, rfl, g1, g2, g3⟩
    refine hW.vc [] _ _ ?_
    simp [-List.getD_eq_getElem?_getD, c_BinarySearch, c_cmpLess, c_slNaN, c_cmpNaN, c_cmpNaN]
    have em : IntKind.i64.wrap (shrI IntKind.u64 (IntKind.u64.wrap (IntKind.i64.wrap ((i : Int) + (j : Int)))) 1) = (((i + j) / 2 : Nat) : Int) := by
      rw [wrap64 (n := (i : Int) + j) (by omega), wrapU64 (by omega)]
      have e1 : shrI IntKind.u64 ((i : Int) + j) 1 = (((i + j) / 2 : Nat) : Int) := by
        show Int.fdiv ((i : Int) + j) 2 = _
        rw [Int.fdiv_eq_ediv_of_nonneg _ (by omega)]
        omega
      rw [e1, wrap64 (by omega)]
    obtain ⟨h, hh⟩ : ∃ h, h = (i + j) / 2 := ⟨_, rfl⟩
    rw [← hh] at em
    rw [em]
    refine ⟨fun q1 => ?_, fun q1 => ?_⟩
    · have b1 : i ≤ h ∧ h < j := by omega
      have b2 := posV_iff (x := x) p2 h (by omega)
      refine ⟨⟨by omega, by omega⟩, by omega, fun _ => ⟨fun q2 => ?_, fun q2 => ?_⟩⟩
      · rw [Int.toNat_natCast, ltB, decide_eq_true_eq, b2] at q2
        rw [wrap64 (by omega)]
        exact ⟨⟨h + 1, j, ⟨rfl, rfl⟩, by omega, by omega, by omega⟩, by omega⟩
      · rw [Int.toNat_natCast, ltB, decide_eq_false_iff_not, b2] at q2
        exact ⟨⟨i, h, ⟨rfl, rfl⟩, by omega, by omega, by omega⟩, by omega⟩
    · have e : i = posV x es := by omega
      refine fun _ => ⟨fun a b => ⟨⟨a, b⟩, a⟩, fun _ => ⟨fun a => ⟨a, fun b => ⟨a, b⟩⟩, by rw [e], by rw [e, hasV]⟩⟩

end Go.Proofs.Ytmjjdfhpnckacab
end

section
namespace Go.Proofs.Ytmjjdfhpnckacab
set_option maxRecDepth 100000
set_option linter.unusedSimpArgs false

/-- A log that takes entries in from a place on. -/
def mergeL (log : List PV) (k : Nat) : List PV → List PV
  | [] => log
  | e :: es => if k < log.length ∧ (nth (nth log k).A 0).I = (nth e.A 0).I then mergeL log (k + 1) es else log.take k ++ (e :: es)
def mnI (a b : Int) : Int := if b < a then b else a
def mxI (a b : Int) : Int := if a < b then b else a
def takeNo (n : ND) (m : MG) : Bool := decide (m.term < n.term) || decide ((n.log.length : Int) < m.idx) || decide (¬ tmAt n.log m.idx = m.lt)
def takeF (n : ND) (m : MG) : ND := if m.term = n.term then { followN n with ela := 0 } else n
def takeE (n : ND) (m : MG) : ND := { n with log := mergeL n.log m.idx.toNat m.es, com := mxI n.com (mnI m.com (m.idx + m.es.length)) }
def takeM (n : ND) (m : MG) (ix : Int) (ok : Bool) : PV := .agg [.int .i64 4, .int .i64 n.id, .int .i64 m.frm, .int .i64 n.term, .int .i64 ix, .int .i64 0, .int .i64 0, .bool ok, .list []]
def takeR (n : ND) (m : MG) : ND × Int × Bool :=
  cond (takeNo n m) (takeF n m, mxI 0 (mnI n.log.length (m.idx - 1)), false) (takeE (takeF n m) m, m.idx + m.es.length, true)
theorem takeR_no {n : ND} {m : MG} (h : (m.term < n.term ∨ (n.log.length : Int) < m.idx) ∨ ¬ tmAt n.log m.idx = m.lt) : takeR n m = (takeF n m, mxI 0 (mnI n.log.length (m.idx - 1)), false) := by
  have : takeNo n m = true := by rcases h with (h | h) | h <;> simp [takeNo, h]
  rw [takeR, this]; rfl
theorem takeR_yes {n : ND} {m : MG} (h1 : n.term ≤ m.term) (h2 : m.idx ≤ n.log.length) (h3 : tmAt n.log m.idx = m.lt) : takeR n m = (takeE (takeF n m) m, m.idx + m.es.length, true) := by
  have : takeNo n m = false := by simp [takeNo, h3]; omega
  rw [takeR, this]; rfl
def tkOk (n : ND) (m : MG) : Prop := NdF n ∧ 0 ≤ m.idx ∧ m.idx ≤ 60 ∧ m.es.length ≤ 60 ∧ m.term ≤ n.term
def c_take : FSpec := ⟨[(.bx, .box [.int .i64, .int .i64, .int .i64, .int .i64, .int .i64, .bool, .list (.agg [.int .i64, .str]), .int .i64, .int .i64, .int .i64, .list (.int .i64), .list (.int .i64), .list (.int .i64)]), (.rd, .agg [.int .i64, .int .i64, .int .i64, .int .i64, .int .i64, .int .i64, .int .i64, .bool, .list (.agg [.int .i64, .str])])], [.agg [.int .i64, .int .i64, .int .i64, .int .i64, .int .i64, .int .i64, .int .i64, .bool, .list (.agg [.int .i64, .str])]], true, fun ps => tkOk (ndOf (nth ps 0).A) (mgOf (nth ps 1).A), fun ps => [takeM (ndOf (nth ps 0).A) (mgOf (nth ps 1).A) (takeR (ndOf (nth ps 0).A) (mgOf (nth ps 1).A)).2.1 (takeR (ndOf (nth ps 0).A) (mgOf (nth ps 1).A)).2.2],
  fun ps => [(takeR (ndOf (nth ps 0).A) (mgOf (nth ps 1).A)).1.pv]⟩
theorem k_take : FnOk Try.prog 123 c_take := by
  refine fn_mk [0, 1, 3, 4, 5, 6, 7, 8, 9, 62, 63, 64] [.cell 4 54] (env_cons (cs := []) k_termAt (env_cons (cs := []) k_message (env_cons (cs := []) k_follow (env_nil (tyTab_ok []))))) mixed Try.func123 rfl (by decide) rfl (by decide) rfl ?_
  intro ps hT hpre W hW
  simp only [c_take, TyA, Ty, Tys] at hT hpre
  obtain ⟨_, _, rfl, ⟨_, rfl, _, _, rfl, ⟨n0, rfl, hn0⟩, _, _, rfl, ⟨n1, rfl, hn1⟩, _, _, rfl, ⟨n2, rfl, hn2⟩, _, _, rfl, ⟨n3, rfl, hn3⟩, _, _, rfl, ⟨n4, rfl, hn4⟩, _, _, rfl, ⟨u, rfl⟩, _, _, rfl, ⟨es, rfl, hes, tes⟩, _, _, rfl, ⟨n5, rfl, hn5⟩, _, _, rfl, ⟨n6, rfl, hn6⟩, _, _, rfl, ⟨n7, rfl, hn7⟩, _, _, rfl, ⟨vs, rfl, hvs, tvs⟩, _, _, rfl, ⟨xs, rfl, hxs, txs⟩, _, _, rfl, ⟨ms, rfl, hms, tms⟩, rfl⟩, _, _, rfl, ⟨_, rfl, _, _, rfl, ⟨m0, rfl, hm0⟩, _, _, rfl, ⟨m1, rfl, hm1⟩, _, _, rfl, ⟨m2, rfl, hm2⟩, _, _, rfl, ⟨m3, rfl, hm3⟩, _, _, rfl, ⟨m4, rfl, hm4⟩, _, _, rfl, ⟨m5, rfl, hm5⟩, _, _, rfl, ⟨m6, rfl, hm6⟩, _, _, rfl, ⟨m7, rfl⟩, _, _, rfl, ⟨m8, rfl, hm8, tm8⟩, rfl⟩, rfl⟩ := hT
  simp only [nth_zero, nth_succ, pv_I, pv_L, pv_A, pv_B, ndOf, mgOf] at hpre
  refine hW.vc [(2, [], .take 0 <| .take 1 <| .take 2 <| .take 3 <| .take 4 <| .take 5 <| .take 6 <| .done), (6, [], .take 0 <| .take 1 <| .take 2 <| .take 3 <| .take 4 <| .take 5 <| .take 6 <| .take 7 <| .take 8 <| .take 9 <| .take 10 <| .take 11 <| .take 12 <| .take 13 <| .take 14 <| .take 15 <| .take 16 <| .take 18 <| .take 19 <| .alt 17 (.take 20 <| .take 21 <| .done) .stop), (13, [], .take 0 <| .take 1 <| .take 2 <| .take 3 <| .take 4 <| .take 5 <| .take 6 <| .take 7 <| .take 8 <| .take 9 <| .take 10 <| .take 11 <| .take 12 <| .take 13 <| .take 14 <| .take 15 <| .take 16 <| .take 17 <| .take 18 <| .take 19 <| .done), (14, [11, 14], .take 0 <| .take 1 <| .take 2 <| .take 3 <| .take 4 <| .take 5 <| .take 7 <| .take 8 <| .take 9 <| .alt 6 (.alt 10 (.alt 11 (.take 12 <| .take 13 <| .alt 14 (.done) .stop) .stop) .stop) (.alt 10 (.alt 6 (.alt 11 (.take 12 <| .take 13 <| .alt 14 (.done) .stop) .stop) .stop) .stop)), (16, [7, 9], .take 0 <| .take 2 <| .take 6 <| .alt 1 (.alt 3 (.alt 4 (.take 5 <| .alt 7 (.take 8 <| .alt 9 (.done) .stop) .stop) (.alt 7 (.take 4 <| .take 5 <| .take 8 <| .alt 9 (.done) .stop) .stop)) (.alt 7 (.take 3 <| .take 4 <| .take 5 <| .take 8 <| .alt 9 (.done) .stop) .stop)) (.alt 3 (.alt 1 (.alt 4 (.take 5 <| .alt 7 (.take 8 <| .alt 9 (.done) .stop) .stop) (.alt 7 (.take 4 <| .take 5 <| .take 8 <| .alt 9 (.done) .stop) .stop)) (.alt 4 (.alt 1 (.take 5 <| .alt 7 (.take 8 <| .alt 9 (.done) .stop) .stop) (.alt 7 (.take 1 <| .take 5 <| .take 8 <| .alt 9 (.done) .stop) .stop)) (.alt 7 (.take 1 <| .take 4 <| .take 5 <| .take 8 <| .alt 9 (.done) .stop) .stop))) (.alt 7 (.take 1 <| .take 3 <| .take 4 <| .take 5 <| .take 8 <| .alt 9 (.done) .stop) .stop))), (17, [13], .take 0 <| .take 1 <| .take 2 <| .take 3 <| .take 4 <| .take 5 <| .take 6 <| .take 7 <| .take 8 <| .take 9 <| .take 10 <| .take 11 <| .take 12 <| .alt 13 (.done) .stop)] _ _ ?_
  simp [-List.getD_eq_getElem?_getD, c_take, c_follow, c_message, c_termAt, ndOf, mgOf, ND.pv, takeM, followN]
  obtain ⟨hF, p1, p2, p3, p4⟩ := hpre
  simp only at p1 p2 p3 p4
  obtain ⟨nd, hnd⟩ : ∃ nd : ND, nd = ⟨n0, n1, n2, n3, n4, u, es, n5, n6, n7, vs, xs, ms⟩ := ⟨_, rfl⟩
  obtain ⟨mg, hmg⟩ : ∃ mg : MG, mg = ⟨m0, m1, m2, m3, m4, m5, m6, m7, m8⟩ := ⟨_, rfl⟩
  have l6 : es.length ≤ 60 := hF.l6
  have k1 : IntKind.i64.wrap (m4 - 1) = m4 - 1 := wrap64 (by omega)
  rw [k1, ← hnd, ← hmg]
  have hno : ((m3 < n2 ∨ (es.length : Int) < m4) ∨ ¬ tmAt es m4 = m5) → takeR nd mg = (takeF nd mg, mxI 0 (mnI es.length (m4 - 1)), false) := fun h => by
    rw [takeR_no (by rw [hnd, hmg]; exact h), hnd, hmg]
  have hF1 : m3 = n2 → takeF nd mg = ⟨n0, n1, n2, n3, 0, u, es, n5, 0, n7, [], List.replicate n1.toNat (.int .i64 1), List.replicate n1.toNat (.int .i64 0)⟩ := fun h => by
    rw [hnd, hmg, takeF, if_pos h]; rfl
  have hF2 : ¬ m3 = n2 → takeF nd mg = ⟨n0, n1, n2, n3, n4, u, es, n5, n6, n7, vs, xs, ms⟩ := fun h => by
    rw [hnd, hmg, takeF, if_neg h]
  refine fun _ => ⟨by decide +kernel, fun h1 => ⟨⟨hF.n1, hF.n5⟩, by decide +kernel, fun _ h => ⟨p1, h⟩, fun h2 => ?_, fun h2 h3 h4 _ => ?_⟩, fun h1 => ⟨by decide +kernel, fun _ h => ⟨p1, h⟩, fun h2 => ?_, fun h2 => absurd h2 (by omega)⟩⟩
  · rw [hno h2, hF1 h1]
    exact ⟨⟨rfl, rfl⟩, rfl, rfl, rfl, rfl, rfl, rfl, rfl, rfl, rfl, rfl, rfl, rfl, rfl⟩
  · have hT : takeR nd mg = (takeE (takeF nd mg) mg, m4 + m8.length, true) := by
      rw [takeR_yes (by rw [hnd, hmg]; exact h2) (by rw [hnd, hmg]; exact h3) (by rw [hnd, hmg]; exact h4), hmg]
    rw [hF1 h1, hmg] at hT
    simp only [takeE] at hT
    rw [← hmg] at hT
    refine hW.loopS _ _ _ [.sl 64 .dp (.int .i64)] (fun ys => ∃ i : Nat, ys = [.int .i64 i] ∧ i ≤ m8.length ∧ m4.toNat + i ≤ es.length ∧ mergeL es m4.toNat m8 = mergeL es (m4.toNat + i) (m8.drop i)) (fun ys => m8.length - (nth ys 0).I.toNat) ?_ ?_
    · simp [-List.getD_eq_getElem?_getD, c_take, c_follow, c_message, c_termAt]
      exact ⟨0, rfl, by omega, by omega, rfl⟩
    · rintro ys ⟨i, rfl, g1, g2, g3⟩
      refine hW.vc [(2, [], .take 0 <| .take 1 <| .take 2 <| .take 3 <| .take 4 <| .take 5 <| .take 6 <| .done), (6, [], .take 0 <| .take 1 <| .take 2 <| .take 3 <| .take 4 <| .take 5 <| .take 6 <| .take 7 <| .take 8 <| .take 9 <| .take 10 <| .take 11 <| .take 12 <| .take 13 <| .take 14 <| .take 15 <| .take 16 <| .take 18 <| .take 19 <| .alt 17 (.take 20 <| .take 21 <| .done) .stop), (13, [], .take 0 <| .take 1 <| .take 2 <| .take 3 <| .take 4 <| .take 5 <| .take 6 <| .take 7 <| .take 8 <| .take 9 <| .take 10 <| .take 11 <| .take 12 <| .take 13 <| .take 14 <| .take 15 <| .take 16 <| .take 17 <| .take 18 <| .take 19 <| .done), (14, [11, 14], .take 0 <| .take 1 <| .take 2 <| .take 3 <| .take 4 <| .take 5 <| .take 7 <| .take 8 <| .take 9 <| .alt 6 (.alt 10 (.alt 11 (.take 12 <| .take 13 <| .alt 14 (.done) .stop) .stop) .stop) (.alt 10 (.alt 6 (.alt 11 (.take 12 <| .take 13 <| .alt 14 (.done) .stop) .stop) .stop) .stop)), (16, [7, 9], .take 0 <| .take 2 <| .take 6 <| .alt 1 (.alt 3 (.alt 4 (.take 5 <| .alt 7 (.take 8 <| .alt 9 (.done) .stop) .stop) (.alt 7 (.take 4 <| .take 5 <| .take 8 <| .alt 9 (.done) .stop) .stop)) (.alt 7 (.take 3 <| .take 4 <| .take 5 <| .take 8 <| .alt 9 (.done) .stop) .stop)) (.alt 3 (.alt 1 (.alt 4 (.take 5 <| .alt 7 (.take 8 <| .alt 9 (.done) .stop) .stop) (.alt 7 (.take 4 <| .take 5 <| .take 8 <| .alt 9 (.done) .stop) .stop)) (.alt 4 (.alt 1 (.take 5 <| .alt 7 (.take 8 <| .alt 9 (.done) .stop) .stop) (.alt 7 (.take 1 <| .take 5 <| .take 8 <| .alt 9 (.done) .stop) .stop)) (.alt 7 (.take 1 <| .take 4 <| .take 5 <| .take 8 <| .alt 9 (.done) .stop) .stop))) (.alt 7 (.take 1 <| .take 3 <| .take 4 <| .take 5 <| .take 8 <| .alt 9 (.done) .stop) .stop))), (17, [13], .take 0 <| .take 1 <| .take 2 <| .take 3 <| .take 4 <| .take 5 <| .take 6 <| .take 7 <| .take 8 <| .take 9 <| .take 10 <| .take 11 <| .take 12 <| .alt 13 (.done) .stop)] _ _ ?_
      simp [-List.getD_eq_getElem?_getD, c_take, c_follow, c_message, c_termAt, ndOf, mgOf, ND.pv, takeM, followN]
      have e1 : IntKind.i64.wrap (m4 + (i : Int)) = ((m4.toNat + i : Nat) : Int) := by rw [wrap64 (by omega)]; omega
      have e2 : IntKind.i64.wrap (m4 + (m8.length : Int)) = m4 + m8.length := wrap64 (by omega)
      rw [e1, e2, wrap64 (n := (i : Int) + 1) (by omega), ← hnd, ← hmg, hT]
      obtain ⟨k, hk⟩ : ∃ k, k = m4.toNat + i := ⟨_, rfl⟩
      rw [← hk] at g2 g3 ⊢
      simp [mxI, mnI, g3]
      have hm : i < m8.length → es.length ≤ k ∨ ¬(nth (nth es k).A 0).I = (nth (nth m8 i).A 0).I → es.take k ++ (m8.drop i).take (m8.length - i) = mergeL es k (m8.drop i) := fun q1 q2 => by
        rw [List.take_of_length_le (l := m8.drop i) (by simp), drop_nth q1, mergeL, if_neg (fun h => q2.elim (fun h1 => absurd h.1 (Nat.not_lt.2 h1)) (fun h1 => h1 h.2))]
      refine ⟨fun q1 => ⟨q1, fun _ _ _ => ⟨by decide +kernel, fun _ _ => ⟨fun q2 => ⟨by decide +kernel, ⟨g2, fun _ => ⟨by omega, fun _ => ⟨by omega, fun _ => ⟨by decide +kernel, fun _ => ⟨by decide +kernel, hm q1 q2, rfl⟩⟩⟩⟩⟩, by omega, fun _ => ⟨g2, fun _ => ⟨by omega, fun _ => ⟨by decide +kernel, fun _ => ⟨by decide +kernel, hm q1 q2, rfl⟩⟩⟩⟩⟩, fun q2 q3 => ⟨⟨i + 1, rfl, by omega, by omega, ?_⟩, by omega⟩⟩⟩⟩, fun q1 => ⟨by decide +kernel, fun _ => ⟨by decide +kernel, ?_, rfl⟩⟩⟩
      · have e : k + 1 = m4.toNat + (i + 1) := by omega
        rw [drop_nth q1, mergeL, if_pos ⟨q2, q3⟩, e]
      · rw [List.drop_eq_nil_of_le q1, mergeL]
  · rw [hno h2, hF2 h1]
    exact ⟨⟨rfl, rfl⟩, rfl, rfl, rfl, rfl, rfl, rfl, rfl, rfl, rfl, rfl, rfl, rfl, rfl⟩

end Go.Proofs.Ytmjjdfhpnckacab
end

section
namespace Go.Proofs.Ytmjjdfhpnckacab
open Go.Shelf Go.RowKit Go.Lib
set_option linter.unusedVariables false
section
variable {P : Program} {ρ : Ren} {w : World}

/-- Cells that are set one by one. -/
theorem setCells_all (b t : Nat) (fr : Nat × Nat) : ∀ (vs : List Value) (o : Nat) (c : Array Value) (w : World), w.heap[b]? = some (.cells c t fr) → o + vs.length ≤ c.size →
    (w.setCells b o vs).heap[b]? = some (.cells (c.toList.take o ++ vs ++ c.toList.drop (o + vs.length)).toArray t fr) ∧ (∀ k, k ≠ b → (w.setCells b o vs).heap[k]? = w.heap[k]?) ∧
      (w.setCells b o vs).os = w.os ∧ (w.setCells b o vs).tape = w.tape ∧ (w.setCells b o vs).output = w.output ∧ (w.setCells b o vs).heap.size = w.heap.size
  | [], o, c, w, h, hl => by
    refine ⟨?_, fun _ _ => rfl, rfl, rfl, rfl, rfl⟩
    show w.heap[b]? = _
    rw [h]; simp
  | v :: vs, o, c, w, h, hl => by
    simp only [List.length_cons] at hl
    have hlt : o < c.size := by omega
    have hheap : (w.setCell ⟨b, o, none⟩ v).heap[b]? = some (.cells (c.setIfInBounds o v) t fr) := by
      simp [World.setCell, Array.getElem?_modify, h]
    have hoth : ∀ k, k ≠ b → (w.setCell ⟨b, o, none⟩ v).heap[k]? = w.heap[k]? := by
      intro k hk; simp [World.setCell, Array.getElem?_modify, Ne.symm hk]
    obtain ⟨r2, r3, r4, r5, r6, r7⟩ := setCells_all b t fr vs (o + 1) (c.setIfInBounds o v) _ hheap (by simp; omega)
    rw [World.setCells]
    refine ⟨?_, fun k hk => (r3 k hk).trans (hoth k hk), r4, r5, r6, ?_⟩
    · rw [r2]
      congr 3
      have e1 : (c.setIfInBounds o v).toList = c.toList.set o v := by simp
      rw [e1]
      have e2 : (c.toList.set o v).take (o + 1) = c.toList.take o ++ [v] := by
        rw [List.take_succ_eq_append_getElem (by simpa using hlt)]
        simp [List.take_set_of_le]
      have e3 : (c.toList.set o v).drop (o + 1 + vs.length) = c.toList.drop (o + (v :: vs).length) := by
        rw [List.drop_set_of_lt (by omega)]
        congr 1; simp; omega
      rw [e2, e3]; simp
    · rw [r7]; simp [World.setCell]

theorem flatT_int (n : Nat) : flatT (.int .i64) n = List.replicate n (.int .i64) := by
  induction n with
  | zero => rfl
  | succ n ih => rw [List.replicate_succ, ← ih]; rfl
theorem flatP_int {es : List PV} (h : ∀ e ∈ es, Shp (.int .i64) e) : flatP es = es := by
  induction es with
  | nil => rfl
  | cons e es ih =>
    have h1 : e.leaves = [e] := by
      have := h e (by simp)
      cases e <;> first | rfl | exact absurd rfl (this _)
    rw [flatP, List.flatMap_cons, h1, ← flatP, ih fun x hx => h x (by simp [hx])]; rfl
/-- A list of numbers of its own. -/
theorem own_int {v : Value} {es : List PV} {f : List Nat} (h : OwnD w v (.int .i64) es f) : (es = [] ∧ f = [] ∧ ∃ a, v = .slice a 0 0) ∨
    ∃ b cs, f = [b] ∧ Room w v 1 false es.length b cs ∧ (∀ e ∈ es, Shp (.int .i64) e) ∧ Lv w (flatT (.int .i64) es.length) (flatP es) cs [] := by
  rcases h with h | ⟨b, f1, cs, rfl, hR, hS, hL⟩
  · exact .inl h
  · have hLv := hL.lv
    have hf1 : f1 = [] := flat_fp hLv (flatT_ty rfl _)
    subst hf1
    exact .inr ⟨b, cs, rfl, hR, hS, hLv⟩

theorem cells_at {b o : Nat} {c : Array Value} {t : TypeId} {fr : Nat × Nat} {cs : List Value} (hb : w.heap[b]? = some (.cells c t fr)) (hc : (c.toList.drop o).take cs.length = cs) : ∀ j v, cs[j]? = some v → w.cell? ⟨b, o + j, none⟩ = some v := by
  intro j v hj
  rw [cell_of_row w b _ c t fr hb]
  have hlt : j < cs.length := (List.getElem?_eq_some_iff.1 hj).1
  have h1 : ((c.toList.drop o).take cs.length)[j]? = some v := by rw [hc]; exact hj
  rw [List.getElem?_take, if_pos hlt, List.getElem?_drop] at h1
  simpa using h1

def c_Insert : FSpec := ⟨[(.ow, .list (.int .i64)), (.rd, .int .i64), (.ow, .list (.int .i64))], [.list (.int .i64)], true, fun ps => 0 ≤ (nth ps 1).I ∧ (nth ps 1).I ≤ (nth ps 0).L.length ∧ (nth ps 0).L.length ≤ 1000 ∧ (nth ps 2).L.length = 1,
  fun ps => [.list ((nth ps 0).L.take (nth ps 1).I.toNat ++ (nth ps 2).L ++ (nth ps 0).L.drop (nth ps 1).I.toNat)], fun _ => []⟩

/-- The result, from its cells. -/
theorem ins_ret {w' : World} {b o cap : Nat} {c : Array Value} {t : TypeId} {fr : Nat × Nat} {es new : List PV} {cs nv : List Value} {i : Nat} (hi : i ≤ es.length)
    (hb : w'.heap[b]? = some (.cells c t fr)) (hc : (c.toList.drop o).take (cs.length + nv.length) = cs.take i ++ nv ++ cs.drop i) (hcl : cs.length = es.length) (hnl : nv.length = new.length) (hcap : o + cap ≤ c.size) (hle : es.length + new.length ≤ cap) (hmx : cap ≤ maxLen) (hlim : es.length + new.length ≤ LIM) (hfz : NoFz false c.size fr)
    (hS : ∀ e ∈ es, Shp (.int .i64) e) (hS2 : ∀ e ∈ new, Shp (.int .i64) e) (hL : Lv w' (flatT (.int .i64) es.length) (flatP es) cs []) (hL2 : Lv w' (flatT (.int .i64) new.length) (flatP new) nv []) :
    RetVs w' [.list (.int .i64)] [.list (es.take i ++ new ++ es.drop i)] [.slice (some ⟨b, o, none⟩) (es.length + new.length) cap] [b] := by
  have hSn : ∀ e ∈ es.take i ++ new ++ es.drop i, Shp (.int .i64) e := by
    intro e he
    simp only [List.mem_append] at he
    rcases he with (he | he) | he
    · exact hS e (List.mem_of_mem_take he)
    · exact hS2 e he
    · exact hS e (List.mem_of_mem_drop he)
  have hlen : (es.take i ++ new ++ es.drop i).length = es.length + new.length := by
    simp only [List.length_append, List.length_take, List.length_drop]; omega
  have hlenc : (cs.take i ++ nv ++ cs.drop i).length = cs.length + nv.length := by
    simp only [List.length_append, List.length_take, List.length_drop]; omega
  have hO : OwnD w' (.slice (some ⟨b, o, none⟩) (es.length + new.length) cap) (.int .i64) (es.take i ++ new ++ es.drop i) [b] := by
    refine ownS_D rfl (.inr ⟨b, [], cs.take i ++ nv ++ cs.drop i, rfl, ⟨⟨o, cap, c, t, fr, by rw [hlen], hb, by rw [show (PTy.int .i64).wd = 1 from rfl]; omega, by rw [hlen]; exact hle, hmx, hfz, by rw [hlenc]; exact hc⟩, by rw [hlenc, hlen, show (PTy.int .i64).wd = 1 from rfl]; omega, by rw [hlen]; exact hlim⟩, hSn, ?_⟩)
    rw [hlen]
    rw [flatP_int hSn]
    rw [flatP_int hS] at hL
    rw [flatP_int hS2] at hL2
    rw [flatT_int] at hL hL2 ⊢
    have e1 : List.replicate es.length (PTy.int .i64) = List.replicate i (PTy.int .i64) ++ List.replicate (es.length - i) (PTy.int .i64) := by
      rw [List.replicate_append_replicate]; congr 1; omega
    obtain ⟨v1, v2, f1, f2, e2, e3, a1, a2⟩ := hL.split e1 (List.take_append_drop i es).symm (by simp; omega)
    have e4 : f1 = [] ∧ f2 = [] := by
      have := e3.symm
      simpa using this
    obtain ⟨rfl, rfl⟩ := e4
    have e5 : v1.length = i := by rw [a1.lens.2, List.length_take]; omega
    have h6 : cs.take i = v1 := by rw [e2, ← e5, List.take_left]
    have h7 : cs.drop i = v2 := by rw [e2, ← e5, List.drop_left]
    rw [h6, h7]
    have h8 := (a1.append hL2).append a2
    simp only [List.append_nil] at h8
    rw [List.replicate_append_replicate, List.replicate_append_replicate] at h8
    rw [show es.length + new.length = i + new.length + (es.length - i) by omega]
    exact h8
  have := RetVs.cons (w := w') (t := .list (.int .i64)) (p := .list (es.take i ++ new ++ es.drop i)) (v := .slice (some ⟨b, o, none⟩) (es.length + new.length) cap) (f := [b]) (g := []) ⟨[[b]], .list hO .nil, rfl⟩ .nil
  simpa using this

theorem ins_list {c pre cs post nv : List Value} {i o : Nat} (hc : c = pre ++ cs ++ post) (ho : pre.length = o) (hi : i ≤ cs.length) (hn : nv.length = 1) (hp : 1 ≤ post.length) :
    (((c.take (o + (i + 1)) ++ cs.drop i ++ c.drop (o + (i + 1) + (cs.drop i).length)).take (o + i) ++ nv ++ (c.take (o + (i + 1)) ++ cs.drop i ++ c.drop (o + (i + 1) + (cs.drop i).length)).drop (o + i + nv.length)).drop o).take (cs.length + nv.length) = cs.take i ++ nv ++ cs.drop i := by
  have hl : c.length = o + cs.length + post.length := by rw [hc]; simp [ho]; omega
  have e0 : (c.take (o + (i + 1))).length = o + (i + 1) := by rw [List.length_take]; omega
  have e1 : (c.take (o + (i + 1)) ++ cs.drop i ++ c.drop (o + (i + 1) + (cs.drop i).length)).take (o + i) = pre ++ cs.take i := by
    rw [List.append_assoc, List.take_append_of_le_length (by omega), List.take_take, Nat.min_eq_left (by omega), hc, List.append_assoc, List.take_append, List.take_of_length_le (by omega), ho, Nat.add_sub_cancel_left, List.take_append_of_le_length hi]
  have e2 : (c.take (o + (i + 1)) ++ cs.drop i ++ c.drop (o + (i + 1) + (cs.drop i).length)).drop (o + i + nv.length) = cs.drop i ++ c.drop (o + (i + 1) + (cs.drop i).length) := by
    rw [List.append_assoc, List.drop_left' (by rw [e0, hn]; omega)]
  rw [e1, e2]
  have e3 : pre ++ cs.take i ++ nv ++ (cs.drop i ++ c.drop (o + (i + 1) + (cs.drop i).length)) = pre ++ ((cs.take i ++ nv ++ cs.drop i) ++ c.drop (o + (i + 1) + (cs.drop i).length)) := by simp
  rw [e3, List.drop_left' ho, List.take_left' (by simp only [List.length_append, List.length_take, List.length_drop]; omega)]
theorem grow_list {cs z nv : List Value} {i : Nat} (hi : i ≤ cs.length) (hn : nv.length = 1) (hz : cs.length + 1 - i ≤ z.length) :
    (((cs.take i ++ z).take i ++ nv ++ (cs.take i ++ z).drop (i + nv.length)).take (i + 1) ++ cs.drop i ++ ((cs.take i ++ z).take i ++ nv ++ (cs.take i ++ z).drop (i + nv.length)).drop (i + 1 + (cs.drop i).length)).take (cs.length + nv.length) = cs.take i ++ nv ++ cs.drop i := by
  have e0 : (cs.take i).length = i := by rw [List.length_take]; omega
  rw [List.take_left' e0, List.take_left' (l₁ := cs.take i ++ nv) (by rw [List.length_append, e0, hn]), List.take_left' (by simp only [List.length_append, List.length_take, List.length_drop]; omega)]

/-- slices.Insert keeps its contract. -/
theorem meets_insert (L : Lays2.n21 P ρ) : Meets P (ρ.f 21) c_Insert := by
  intro w ps vs fs fl ms hA hnd hdj hpre
  cases hA with
  | ow h1 hA => cases hA with
  | rd h2 hA => cases hA with
  | ow h3 hA =>
  cases hA
  obtain ⟨es, rfl, h1⟩ := h1
  obtain ⟨new, rfl, h3⟩ := h3
  obtain ⟨h2, rfl⟩ := h2
  cases h2 with | int hk h2 =>
  cases h2
  rename_i v1 f1 v3 f3 k
  obtain ⟨p1, p2, p3, p4⟩ := hpre
  simp only [nth, List.getD_cons_zero, List.getD_cons_succ, PV.L, PV.I] at p1 p2 p3 p4
  obtain ⟨i, rfl⟩ : ∃ i : Nat, k = i := ⟨k.toNat, by omega⟩
  rcases own_int h3 with ⟨e, _⟩ | ⟨vb, nv, rfl, ⟨⟨vo, vc, cB, tB, frB, rfl, hbB, hcapB, hleB, hmxB, hfzB, hcB⟩, hnl, hlimB⟩, hSB, hLB⟩
  · subst e; simp at p4
  have hm1 : nv.length = 1 := by rw [hnl]; omega
  have hnl' : nv.length = new.length := by omega
  have h1v := lv_one hLB
  have hvs := cells_at hbB hcB
  have hLIM : LIM = 140737488355328 := rfl
  have hMX : maxLen = 9223372036854775807 := rfl
  have hbBw : vb < w.heap.size := (Array.getElem?_eq_some_iff.1 hbB).1
  rw [p4]
  have fin : ∀ {w' : World} {b o cap : Nat} {c : Array Value} {t : TypeId} {fr : Nat × Nat} {cs : List Value}, cs.length = es.length → w'.heap[b]? = some (.cells c t fr) → (c.toList.drop o).take (cs.length + nv.length) = cs.take i ++ nv ++ cs.drop i → o + cap ≤ c.size → es.length + 1 ≤ cap → cap ≤ maxLen → NoFz false c.size fr →
      (∀ e ∈ es, Shp (.int .i64) e) → Lv w (flatT (.int .i64) es.length) (flatP es) cs [] → Fr w (f1 ++ ([vb] ++ [])) w' → (b ∈ f1 ∨ w.heap.size ≤ b) →
      ∃ rvs, (Ending.returned (.slice (some ⟨b, o, none⟩) (es.length + 1) cap)) = .returned (packR rvs) ∧ Done w c_Insert [.list es, .int .i64 i, .list new] [v1, .int .i64 i, .slice (some ⟨vb, vo, none⟩) 1 vc] ([] ++ []) (f1 ++ ([vb] ++ [])) rvs w' := by
    intro w' b o cap c t fr cs hcl hb hc hcap hle hmx hfz hS hL hFr hbm
    refine ⟨[.slice (some ⟨b, o, none⟩) (es.length + 1) cap], rfl, hFr, .inl ⟨rfl, [b], [], ?_, .ow (.rd (.ow .nil)), by simp, fun x hx => ?_⟩⟩
    · have := ins_ret (w' := w') (new := new) (nv := nv) (es := es) (by omega) hb hc hcl hnl' hcap (by omega) hmx (by omega) hfz hS hSB (hL.frame (by simp)) (hLB.frame (by simp))
      rw [p4] at this
      exact this
    · rw [List.append_nil, List.mem_singleton] at hx
      subst hx
      rcases hbm with h | h
      · exact .inl (by simp [h])
      · exact .inr h
  rcases own_int h1 with ⟨rfl, rfl, a, rfl⟩ | ⟨b, cs, rfl, ⟨⟨o, cap, c, t, fr, rfl, hb, hcap, hle, hmx, hfz, hcs⟩, hcl, hlim⟩, hS, hLc⟩
  · -- nothing there
    have hi : i = 0 := by simp at p2; omega
    subst hi
    refine (Any2.slices_Insert_int_end_grow L a 0 0 vb vo 1 vc [] nv w (by omega) (by omega) (by omega) (by omega) rfl hm1 (fun _ => rfl) (fun a e j v hj => by simp at hj) hvs h1v).mono ?_
    rintro e w' ⟨rfl, rfl⟩
    have hge := grownCap_ge w (0 + 1) 0 (ρ.t 3)
    have hcm := grownCap_le_maxLen w (0 + 1) 0 (ρ.t 3) (by omega)
    exact fin (cs := []) rfl (heap_alloc_new w.drew _) (by simp [hm1]) (by simp [size_zeroCells, hm1, Value.cells]; omega) (by simpa using hge) hcm (NoFz.none _ _) (by simp) .nil
      ⟨rfl, rfl, rfl, by simp [World.alloc], fun k hk _ => drew_alloc_old w _ hk⟩ (.inr (Nat.le_refl _))
  · have hcl' : cs.length = es.length := by omega
    have h1c := lv_one hLc
    have hcsa := cells_at hb hcs
    have hbw : b < w.heap.size := (Array.getElem?_eq_some_iff.1 hb).1
    have hne : vb ≠ b := by
      intro e; subst e
      simp at hnd
    have hcell : ∀ j, j < c.size → (w.cell? ⟨b, j, none⟩).isSome = true := fun j hj => by rw [cell_of_row w b _ c t fr hb]; simp [hj]
    have hfro : ∀ j, j < c.size → w.frozen? ⟨b, j, none⟩ = false := fun j hj => by
      have := hfz.1 j hj
      simp only [World.frozen?, hb, Bool.and_eq_false_iff, decide_eq_false_iff_not]
      omega
    obtain ⟨post, hct, hol⟩ : ∃ post, c.toList = c.toList.take o ++ cs ++ post ∧ (c.toList.take o).length = o := by
      refine ⟨(c.toList.drop o).drop cs.length, ?_, by rw [List.length_take, Array.length_toList]; omega⟩
      conv => lhs; rw [← List.take_append_drop o c.toList, ← List.take_append_drop cs.length (c.toList.drop o), hcs]
      rw [List.append_assoc]
    have hpl : c.size = o + cs.length + post.length := by
      have := congrArg List.length hct
      simp only [Array.length_toList, List.length_append] at this hol
      rw [← Array.length_toList] at this
      rw [← Array.length_toList]
      omega
    have hge := grownCap_ge w (es.length + 1) cap (ρ.t 3)
    have hcm := grownCap_le_maxLen w (es.length + 1) cap (ρ.t 3) (by omega)
    have hbf : b ∈ [b] ∨ w.heap.size ≤ b := .inl (by simp)
    have hFr : ∀ {w' : World}, (∀ k, k ≠ b → w'.heap[k]? = w.heap[k]?) → w'.os = w.os → w'.tape = w.tape → w'.output = w.output → w'.heap.size = w.heap.size → Fr w ([b] ++ ([vb] ++ [])) w' := fun q1 q2 q3 q4 q5 =>
      ⟨q2, q3, q4, Nat.le_of_eq q5.symm, fun k _ hk => q1 k fun e => hk (by simp [e])⟩
    by_cases hi : i = es.length
    · subst hi
      by_cases hr : es.length + 1 ≤ cap
      · refine (Any2.slices_Insert_int_end_room L b o es.length cap vb vo 1 vc nv w (by omega) hr (by omega) hm1 (fun j hj => hcell _ (by omega)) (fun j hj => hfro _ (by omega)) hvs h1v).mono ?_
        rintro e w' ⟨rfl, rfl⟩
        obtain ⟨r2, r3, r4, r5, r6, r7⟩ := setCells_all b t fr nv (o + es.length) c w hb (by omega)
        refine fin hcl' r2 ?_ ?_ hr hmx ?_ hS hLc (hFr r3 r4 r5 r6 r7) hbf
        · have e1 : c.toList.take (o + es.length) = c.toList.take o ++ cs := by
            rw [List.take_add, ← hcl', hcs]
          rw [List.toList_toArray, e1, List.take_of_length_le (l := cs) (by omega), show cs.drop es.length = [] from List.drop_eq_nil_of_le (by omega), List.append_nil]
          rw [show c.toList.take o ++ cs ++ nv ++ c.toList.drop (o + es.length + nv.length) = c.toList.take o ++ ((cs ++ nv) ++ c.toList.drop (o + es.length + nv.length)) by simp, List.drop_left' hol, List.take_left' (by simp)]
        · simp only [List.size_toArray, List.length_append, List.length_take, List.length_drop, Array.length_toList]; omega
        · refine hfz.cast ?_
          simp only [List.size_toArray, List.length_append, List.length_take, List.length_drop, Array.length_toList]; omega
      · refine (Any2.slices_Insert_int_end_grow L (some ⟨b, o, none⟩) es.length cap vb vo 1 vc cs nv w (by omega) hle (by omega) (by omega) hcl' hm1 (fun e => (by cases e)) (fun a e j v hj => by cases e; rw [Addr.add_lit]; exact hcsa j v hj) hvs h1v).mono ?_
        rintro e w' ⟨rfl, rfl⟩
        refine fin hcl' (heap_alloc_new w.drew _) ?_ ?_ hge hcm (NoFz.none _ _) hS hLc ⟨rfl, rfl, rfl, by simp [World.alloc], fun k hk _ => drew_alloc_old w _ hk⟩ (.inr (Nat.le_refl _))
        · rw [List.take_of_length_le (l := cs) (by omega), show cs.drop es.length = [] from List.drop_eq_nil_of_le (by omega), List.append_nil]
          simp only [Array.toList_append, List.drop_zero]
          rw [List.take_left' (by simp)]
        · simp [size_zeroCells, hm1, Value.cells]; omega
    · have hi' : i < es.length := by omega
      by_cases hr : es.length + 1 ≤ cap
      · refine (Any2.slices_Insert_int_shift L b o es.length cap i vb vo 1 vc cs nv w hi' (by omega) hr (by omega) hne hcl' hm1 hcsa (fun j hj => hcell _ (by omega)) (fun j hj => hfro _ (by omega)) hvs h1c h1v tB t cB.size c.size
          (by simp [World.shape?, hbB]) (by simp [World.shape?, hb]) (by omega) ?_ ?_).mono ?_
        · have := hfzB.1 vo (by omega)
          simp only [World.frozen?, hbB, Bool.and_eq_false_iff, decide_eq_false_iff_not]
          omega
        · have := hfzB.2 rfl
          simp only [World.frozen?, hbB, Bool.and_eq_false_iff, decide_eq_false_iff_not]
          omega
        rintro e w' ⟨rfl, rfl⟩
        have hdl : (cs.drop i).length = es.length - i := by rw [List.length_drop]; omega
        obtain ⟨r2, r3, r4, r5, r6, r7⟩ := setCells_all b t fr (cs.drop i) (o + (i + 1)) c w.drew hb (by omega)
        obtain ⟨s2, s3, s4, s5, s6, s7⟩ := setCells_all b t fr nv (o + i) _ _ r2 (by simp only [List.size_toArray, List.length_append, List.length_take, List.length_drop, Array.length_toList]; omega)
        refine fin hcl' s2 ?_ ?_ hr hmx ?_ hS hLc (hFr (fun k hk => (s3 k hk).trans (r3 k hk)) (s4.trans r4) (s5.trans r5) (s6.trans r6) (s7.trans r7)) hbf
        · exact ins_list hct hol (by omega) hm1 (by omega)
        · simp only [List.size_toArray, List.length_append, List.length_take, List.length_drop, Array.length_toList]; omega
        · refine hfz.cast ?_
          simp only [List.size_toArray, List.length_append, List.length_take, List.length_drop, Array.length_toList]; omega
      · refine (Any2.slices_Insert_int_grow L b o es.length cap i vb vo 1 vc cs nv w hi' (by omega) hle (by omega) (by omega) hcl' hm1 hcsa hvs h1c h1v).mono ?_
        rintro e w' ⟨rfl, rfl⟩
        obtain ⟨G, hG⟩ : ∃ G, G = grownCap w (es.length + 1) cap (ρ.t 3) := ⟨_, rfl⟩
        rw [← hG] at hge hcm ⊢
        have hdl : (cs.drop i).length = es.length - i := by rw [List.length_drop]; omega
        obtain ⟨Z, hZ⟩ : ∃ Z, Z = Builtin.zeroCells (Value.int .i64 0).cells (es.length + 1 - i) ++ Builtin.zeroCells (Value.int .i64 0).cells (G - (es.length + 1)) := ⟨_, rfl⟩
        have hZl : Z.size = G - i := by rw [hZ]; simp [size_zeroCells, Value.cells]; omega
        rw [Array.append_assoc, ← hZ]
        have ha : ∀ k, k < w.heap.size → (w.alloc (.cells ((cs.take i).toArray ++ Z) (ρ.t 3))).drew.heap[k]? = w.heap[k]? := fun k hk => drew_alloc_old w _ hk
        have hnew : (w.alloc (.cells ((cs.take i).toArray ++ Z) (ρ.t 3))).drew.heap[w.heap.size]? = some (.cells ((cs.take i).toArray ++ Z) (ρ.t 3) (0, 0)) := heap_alloc_new w _
        have hcl0 : ((cs.take i).toArray ++ Z).size = G := by simp [hZl]; omega
        obtain ⟨r2, r3, r4, r5, r6, r7⟩ := setCells_all w.heap.size _ _ nv i _ _ hnew (by omega)
        obtain ⟨s2, s3, s4, s5, s6, s7⟩ := setCells_all w.heap.size _ _ (cs.drop i) (i + 1) _ ((w.alloc (.cells ((cs.take i).toArray ++ Z) (ρ.t 3))).drew.setCells w.heap.size i nv).drew r2 (by simp only [List.size_toArray, List.length_append, List.length_take, List.length_drop, Array.length_toList]; omega)
        refine fin hcl' s2 ?_ ?_ hge hcm (NoFz.none _ _) hS hLc ⟨s4.trans r4, s5.trans r5, s6.trans r6, ?_, fun k hk _ => ?_⟩ (.inr (Nat.le_refl _))
        · have hzl : cs.length + 1 - i ≤ Z.toList.length := by have h0 : Z.toList.length = Z.size := Array.length_toList; omega
          have := grow_list (cs := cs) (z := Z.toList) (nv := nv) (i := i) (by omega) hm1 hzl
          simpa [hm1] using this
        · simp only [List.size_toArray, List.length_append, List.length_take, List.length_drop, Array.length_toList]; omega
        · have e1 := s7
          have e2 := r7
          have e3 : (w.alloc (.cells ((cs.take i).toArray ++ Z) (ρ.t 3))).drew.heap.size = w.heap.size + 1 := by show (w.heap.push _).size = _; simp
          have e4 : ((w.alloc (.cells ((cs.take i).toArray ++ Z) (ρ.t 3))).drew.setCells w.heap.size i nv).drew.heap.size = ((w.alloc (.cells ((cs.take i).toArray ++ Z) (ρ.t 3))).drew.setCells w.heap.size i nv).heap.size := rfl
          omega
        · exact (s3 k (by omega)).trans ((r3 k (by omega)).trans (ha k hk))

end
end Go.Proofs.Ytmjjdfhpnckacab
end

section
namespace Go.Proofs.Ytmjjdfhpnckacab
open Go.Shelf
set_option maxRecDepth 100000

/-- Where the shelf's functions and types stand in the program. -/
def renI : Ren := ⟨fun f => match f with | 21 => 122 | 27 => 156 | 28 => 157 | 35 => 177 | 39 => 192 | f => f,
  fun t => match t with | 22 => 35 | t => t, fun g => g⟩
theorem laysI : Lays2.n21 Try.prog renI where
  mixed := mixed
  f21 := Try.func122.trans (congrArg some (by kernel_rfl))
  f27 := Try.func156.trans (congrArg some (by kernel_rfl))
  f28 := Try.func157.trans (congrArg some (by kernel_rfl))
  f35 := Try.func177.trans (congrArg some (by kernel_rfl))
  f39 := Try.func192.trans (congrArg some (by kernel_rfl))
  t0 := Try.underlying0
  a0 := Try.isAgg0
  z0 := Try.sizeOf0
  v0 := Try.zeroValue0
  t3 := Try.underlying3
  a3 := Try.isAgg3
  z3 := Try.sizeOf3
  v3 := Try.zeroValue3
  t4 := Try.underlying4
  a4 := Try.isAgg4
  z4 := Try.sizeOf4
  v4 := Try.zeroValue4
  t22 := Try.underlying35
  a22 := Try.isAgg35
  z22 := Try.sizeOf35
  v22 := Try.zeroValue35
  i3 := by kernel_rfl
theorem k_Insert : FnOk Try.prog 122 c_Insert := ⟨meets_insert laysI, _, Try.func122, rfl, by decide⟩

end Go.Proofs.Ytmjjdfhpnckacab
end

section
namespace Go.Proofs.Ytmjjdfhpnckacab
set_option maxRecDepth 100000
set_option linter.unusedSimpArgs false

/-- A node of a newer term follows. -/
def newT (n : ND) (t : Int) : ND := if n.term < t then { followN n with term := t, vote := -1 } else n
def votB (n : ND) (m : MG) : Bool := decide (m.term = n.term) && (decide (n.vote = -1) || decide (n.vote = m.frm)) && upB1 n.log m.idx m.lt
def votN (n : ND) (m : MG) : ND := if votB n m = true then { n with vote := m.frm, ela := 0 } else n
def votM (n : ND) (m : MG) : PV := .agg [.int .i64 2, .int .i64 n.id, .int .i64 m.frm, .int .i64 n.term, .int .i64 0, .int .i64 0, .int .i64 0, .bool (votB n m), .list []]
/-- A vote more. -/
def insV (x : Int) (es : List PV) : List PV := if hasV x es = true then es else es.take (posV x es) ++ [.int .i64 x] ++ es.drop (posV x es)
def elecR (n : ND) (m : MG) : ND × List PV :=
  if n.role ≠ 1 ∨ m.term ≠ n.term ∨ m.ok = false then (n, [])
  else if n.nodes < 2 * (insV m.frm n.vs).length then (leadA { n with vs := insV m.frm n.vs }, repAll (leadA { n with vs := insV m.frm n.vs }) n.nodes.toNat)
  else ({ n with vs := insV m.frm n.vs }, [])
def ackM (n : ND) (m : MG) : ND := { n with ms := n.ms.set m.frm.toNat (.int .i64 (mxI (nth n.ms m.frm.toNat).I (mnI m.idx n.log.length))) }
def ackN (n : ND) (m : MG) : ND := { ackM n m with nx := n.nx.set m.frm.toNat (.int .i64 (mxI (nth n.nx m.frm.toNat).I ((nth (ackM n m).ms m.frm.toNat).I + 1))) }
def nakN (n : ND) (m : MG) : ND := { n with nx := n.nx.set m.frm.toNat (.int .i64 (mxI ((nth n.ms m.frm.toNat).I + 1) (mnI ((nth n.nx m.frm.toNat).I - 1) (m.idx + 1)))) }
def ansR (n : ND) (m : MG) : ND × List PV :=
  if n.role ≠ 2 ∨ m.term ≠ n.term then (n, [])
  else if m.ok = true then ({ ackN n m with com := advG (ackN n m) n.log.length }, [])
  else (nakN n m, [repV (nakN n m) m.frm])
def handR (n : ND) (m : MG) : ND × List PV :=
  if m.kind = 1 then (votN n m, [votM n m]) else if m.kind = 2 then elecR n m
  else if m.kind = 3 then ((takeR n m).1, [takeM n m (takeR n m).2.1 (takeR n m).2.2]) else ansR n m
structure MgF (n : ND) (m : MG) : Prop where
  k1 : 1 ≤ m.kind
  k4 : m.kind ≤ 4
  f0 : 0 ≤ m.frm
  f1 : m.frm < n.nodes
  t1 : 1 ≤ m.term
  tM : m.term ≤ 1000
  i0 : 0 ≤ m.idx
  i6 : m.idx ≤ 60
  c0 : 0 ≤ m.com
  c6 : m.com ≤ 60
  es : m.es.length ≤ 60
theorem entB_le {t t' : Int} (h : t ≤ t') : ∀ {es : List PV} {p : Int}, entB t p es = true → entB t' p es = true
  | [], p, _ => rfl
  | e :: es, p, he => by
    simp only [entB, Bool.and_eq_true, inB, decide_eq_true_eq] at he ⊢
    exact ⟨⟨⟨he.1.1.1, by omega, by omega⟩, he.1.2⟩, entB_le h he.2⟩
theorem nm_rep {l : Int} (hl : 0 ≤ l) : ∀ n : Nat, nmB l (List.replicate n (.int .i64 1)) (List.replicate n (.int .i64 0)) = true
  | 0 => rfl
  | n + 1 => by
    have h1 : inB 1 1 (l + 1) = true := by simp [inB]; omega
    have h2 : inB 0 0 (1 - 1) = true := by decide
    rw [List.replicate_succ, List.replicate_succ, nmB, nm_rep hl n]
    show (inB 1 1 (l + 1) && inB 0 0 (1 - 1) && true) = true
    rw [h1, h2]; rfl
theorem vo_le' {n n' : Int} (h : n ≤ n') : ∀ {es : List PV} {p : Int}, voB n p es = true → voB n' p es = true
  | [], p, _ => rfl
  | e :: es, p, he => by
    simp only [voB, Bool.and_eq_true, inB, decide_eq_true_eq] at he ⊢
    exact ⟨⟨⟨he.1.1.1, by omega⟩, he.1.2⟩, vo_le' h he.2⟩
theorem vo_len' {n : Int} : ∀ {es : List PV} {p : Int}, voB n p es = true → p ≤ n - 1 → p + es.length ≤ n - 1
  | [], p, h, hp => by simp; omega
  | e :: es, p, h, hp => by
    simp only [voB, inB, Bool.and_eq_true, decide_eq_true_eq] at h
    have := vo_len' h.2 (by omega)
    simp only [List.length_cons]
    omega
theorem newT_F {n : ND} {t : Int} (h : NdF n) (ht : t ≤ 1000) : NdF (newT n t) := by
  unfold newT
  split
  · rename_i h1
    have h0 := h.t0
    have a1 := h.n1
    refine ⟨h.n1, h.n5, h.i0, h.i1, by show 0 ≤ t; omega, ht, entB_le (t := n.term) (Int.le_of_lt h1) h.en, h.l6, by show (0 : Int) ≤ 0; omega, by show (0 : Int) ≤ 2; omega, .inr rfl, h.c0, h.c1, h.e0, h.e1, h.w5, h.w1, ?_, ?_, rfl, nm_rep (by omega) _, ⟨by show (-1 : Int) ≤ -1; omega, by show (-1 : Int) ≤ 4; omega, by show (-1 : Int) < n.nodes; omega⟩⟩
    · show ((List.replicate n.nodes.toNat (PV.int .i64 1)).length : Int) = n.nodes
      rw [List.length_replicate]; omega
    · show ((List.replicate n.nodes.toNat (PV.int .i64 0)).length : Int) = n.nodes
      rw [List.length_replicate]; omega
  · exact h
def c_handle : FSpec := ⟨[(.bx, .box [.int .i64, .int .i64, .int .i64, .int .i64, .int .i64, .bool, .list (.agg [.int .i64, .str]), .int .i64, .int .i64, .int .i64, .list (.int .i64), .list (.int .i64), .list (.int .i64)]), (.rd, .agg [.int .i64, .int .i64, .int .i64, .int .i64, .int .i64, .int .i64, .int .i64, .bool, .list (.agg [.int .i64, .str])])], [.list (.agg [.int .i64, .int .i64, .int .i64, .int .i64, .int .i64, .int .i64, .int .i64, .bool, .list (.agg [.int .i64, .str])])], true, fun ps => NdF (ndOf (nth ps 0).A) ∧ MgF (ndOf (nth ps 0).A) (mgOf (nth ps 1).A), fun ps => [.list (handR (newT (ndOf (nth ps 0).A) (nth (nth ps 1).A 3).I) (mgOf (nth ps 1).A)).2],
  fun ps => [(handR (newT (ndOf (nth ps 0).A) (nth (nth ps 1).A 3).I) (mgOf (nth ps 1).A)).1.pv]⟩
set_option maxHeartbeats 2000000 in
theorem k_handle : FnOk Try.prog 75 c_handle := by
  refine fn_mk [0, 1, 3, 4, 5, 6, 7, 26] [.tmp 4] (env_cons (cs := []) k_replicate (env_cons (cs := []) k_advance (env_cons (cs := []) k_take (env_cons (cs := []) k_lead (env_cons (cs := []) k_Insert (env_cons (cs := []) k_BinarySearch (env_cons (cs := []) k_isUpToDate (env_cons (cs := []) k_message (env_cons (cs := []) k_follow (env_nil (tyTab_ok []))))))))))) mixed Try.func75 rfl (by decide) rfl (by decide) rfl ?_
  intro ps hT hpre W hW
  simp only [c_handle, TyA, Ty, Tys] at hT hpre
  obtain ⟨_, _, rfl, ⟨_, rfl, _, _, rfl, ⟨n0, rfl, hn0⟩, _, _, rfl, ⟨n1, rfl, hn1⟩, _, _, rfl, ⟨n2, rfl, hn2⟩, _, _, rfl, ⟨n3, rfl, hn3⟩, _, _, rfl, ⟨n4, rfl, hn4⟩, _, _, rfl, ⟨u, rfl⟩, _, _, rfl, ⟨es, rfl, hes, tes⟩, _, _, rfl, ⟨n5, rfl, hn5⟩, _, _, rfl, ⟨n6, rfl, hn6⟩, _, _, rfl, ⟨n7, rfl, hn7⟩, _, _, rfl, ⟨vs, rfl, hvs, tvs⟩, _, _, rfl, ⟨xs, rfl, hxs, txs⟩, _, _, rfl, ⟨ms, rfl, hms, tms⟩, rfl⟩, _, _, rfl, ⟨_, rfl, _, _, rfl, ⟨m0, rfl, hm0⟩, _, _, rfl, ⟨m1, rfl, hm1⟩, _, _, rfl, ⟨m2, rfl, hm2⟩, _, _, rfl, ⟨m3, rfl, hm3⟩, _, _, rfl, ⟨m4, rfl, hm4⟩, _, _, rfl, ⟨m5, rfl, hm5⟩, _, _, rfl, ⟨m6, rfl, hm6⟩, _, _, rfl, ⟨m7, rfl⟩, _, _, rfl, ⟨m8, rfl, hm8, tm8⟩, rfl⟩, rfl⟩ := hT
  simp only [nth_zero, nth_succ, pv_I, pv_L, pv_A, pv_B, ndOf, mgOf] at hpre
  obtain ⟨hF, hM⟩ := hpre
  obtain ⟨nd, hnd⟩ : ∃ nd : ND, nd = ⟨n0, n1, n2, n3, n4, u, es, n5, n6, n7, vs, xs, ms⟩ := ⟨_, rfl⟩
  refine hW.vc [] _ _ ?_
  simp [-List.getD_eq_getElem?_getD, c_handle, c_follow, c_message, c_isUpToDate, c_BinarySearch, c_Insert, c_lead, c_take, c_advance, c_replicate]
  refine hW.cutS [_, _] _ _ [.bx 0 [.int .i64, .int .i64, .int .i64, .int .i64, .int .i64, .bool, .list (.agg [.int .i64, .str]), .int .i64, .int .i64, .int .i64, .list (.int .i64), .list (.int .i64), .list (.int .i64)]] (fun ys => ys = [(newT nd m3).pv]) ?_ ?_
  · refine hW.vc [(1, [], .take 0 <| .take 1 <| .take 2 <| .take 3 <| .take 4 <| .take 5 <| .take 6 <| .done)] _ _ ?_
    simp [-List.getD_eq_getElem?_getD, c_handle, c_follow, c_message, c_isUpToDate, c_BinarySearch, c_Insert, c_lead, c_take, c_advance, c_replicate, ndOf, ND.pv, followN]
    refine ⟨by decide +kernel, fun h => ⟨⟨hF.n1, hF.n5⟩, ?_⟩, fun h => ?_⟩
    · have e : newT nd m3 = ⟨n0, n1, m3, -1, 0, u, es, n5, n6, n7, [], List.replicate n1.toNat (.int .i64 1), List.replicate n1.toNat (.int .i64 0)⟩ := by rw [hnd, newT, if_pos h]; rfl
      rw [e]; exact ⟨rfl, rfl, rfl, rfl, rfl, rfl, rfl, rfl, rfl, rfl, rfl, rfl, rfl⟩
    · have e : newT nd m3 = ⟨n0, n1, n2, n3, n4, u, es, n5, n6, n7, vs, xs, ms⟩ := by rw [hnd, newT, if_neg (Int.not_lt.2 h)]
      rw [e]; exact ⟨rfl, rfl, rfl, rfl, rfl, rfl, rfl, rfl, rfl, rfl, rfl, rfl, rfl⟩
  · rintro ys rfl
    refine hW.vc [] _ _ ?_
    simp [-List.getD_eq_getElem?_getD, c_handle, c_follow, c_message, c_isUpToDate, c_BinarySearch, c_Insert, c_lead, c_take, c_advance, c_replicate, ndOf, mgOf, ND.pv, takeM]
    have hT : NdF (newT nd m3) := newT_F (by rw [hnd]; exact hF) hM.tM
    obtain ⟨T, hTd⟩ : ∃ T, T = newT nd m3 := ⟨_, rfl⟩
    rw [← hTd] at hT ⊢
    have hTd' : newT ⟨n0, n1, n2, n3, n4, u, es, n5, n6, n7, vs, xs, ms⟩ m3 = T := by rw [hTd, hnd]
    have eta : (⟨T.id, T.nodes, T.term, T.vote, T.role, T.up, T.log, T.com, T.ela, T.wt, T.vs, T.nx, T.ms⟩ : ND) = T := rfl
    have hm0 : 0 ≤ m1 := hM.f0
    have hm1 : m1 < n1 := hM.f1
    have l6 := hT.l6
    have a1 := hT.n1
    have a2 := hT.n5
    have a3 := hT.nx
    have a4 := hT.ms
    have hTn : T.nodes = n1 := by rw [hTd, hnd, newT]; split <;> rfl
    have hTt : m3 ≤ T.term := by
      rw [hTd, hnd, newT]; split
      · exact Int.le_refl _
      · rename_i h; exact Int.not_lt.1 h
    obtain ⟨mg, hmg⟩ : ∃ mg : MG, mg = ⟨m0, m1, m2, m3, m4, m5, m6, m7, m8⟩ := ⟨_, rfl⟩
    refine ⟨fun k1 => ?_, fun k1 => ⟨fun k2 => ?_, fun k2 => ⟨fun k3 => ?_, fun k3 => ?_⟩⟩⟩
    · refine hW.vc [(1, [], .take 0 <| .take 1 <| .take 2 <| .take 3 <| .take 4 <| .take 5 <| .take 6 <| .done), (7, [32], .take 0 <| .take 1 <| .take 2 <| .take 3 <| .take 4 <| .take 5 <| .take 6 <| .take 7 <| .take 8 <| .take 9 <| .take 10 <| .take 11 <| .take 12 <| .take 13 <| .take 14 <| .take 15 <| .take 16 <| .take 17 <| .take 18 <| .take 19 <| .take 20 <| .take 21 <| .take 22 <| .take 23 <| .take 24 <| .take 25 <| .take 26 <| .take 27 <| .take 28 <| .alt 29 (.take 30 <| .take 31 <| .alt 32 (.done) .stop) .stop), (12, [], .take 0 <| .take 1 <| .take 2 <| .take 3 <| .take 4 <| .take 5 <| .take 6 <| .take 7 <| .take 8 <| .take 9 <| .take 10 <| .take 11 <| .take 12 <| .take 13 <| .take 14 <| .take 15 <| .take 16 <| .take 17 <| .take 18 <| .done), (14, [], .take 0 <| .take 1 <| .take 2 <| .take 3 <| .take 4 <| .take 5 <| .alt 6 (.take 7 <| .take 8 <| .take 9 <| .alt 10 (.alt 11 (.done) .stop) .stop) .stop), (16, [9, 12], .take 0 <| .take 1 <| .take 2 <| .take 3 <| .take 4 <| .take 5 <| .take 6 <| .take 7 <| .alt 8 (.alt 9 (.take 10 <| .take 11 <| .alt 12 (.done) .stop) .stop) .stop), (17, [], .take 0 <| .take 1 <| .take 2 <| .take 3 <| .take 4 <| .take 5 <| .take 6 <| .take 7 <| .take 8 <| .take 9 <| .take 10 <| .done), (22, [], .take 0 <| .take 1 <| .take 2 <| .take 3 <| .take 4 <| .take 5 <| .take 6 <| .take 7 <| .take 8 <| .take 9 <| .take 10 <| .take 11 <| .take 12 <| .take 13 <| .done), (25, [24], .take 0 <| .take 1 <| .take 2 <| .take 3 <| .take 4 <| .take 5 <| .take 6 <| .take 7 <| .take 8 <| .take 9 <| .take 10 <| .take 11 <| .take 12 <| .take 13 <| .take 14 <| .take 15 <| .take 16 <| .take 17 <| .take 18 <| .take 19 <| .take 20 <| .take 21 <| .take 22 <| .take 23 <| .alt 24 (.done) .stop), (26, [25], .take 0 <| .take 1 <| .take 2 <| .take 3 <| .take 4 <| .take 5 <| .take 6 <| .take 7 <| .take 8 <| .take 9 <| .take 10 <| .take 11 <| .take 12 <| .take 13 <| .take 14 <| .take 15 <| .take 16 <| .take 17 <| .take 18 <| .take 19 <| .take 20 <| .take 21 <| .take 22 <| .take 23 <| .take 24 <| .alt 25 (.done) .stop), (29, [30], .take 0 <| .take 1 <| .take 2 <| .take 3 <| .take 4 <| .take 5 <| .take 6 <| .take 7 <| .take 8 <| .take 9 <| .take 10 <| .take 11 <| .take 12 <| .take 13 <| .take 14 <| .take 15 <| .take 16 <| .take 17 <| .take 18 <| .take 19 <| .take 20 <| .take 21 <| .take 22 <| .take 23 <| .take 24 <| .take 25 <| .take 26 <| .take 27 <| .take 28 <| .take 29 <| .alt 30 (.done) .stop)] _ _ ?_
      simp [-List.getD_eq_getElem?_getD, c_handle, c_follow, c_message, c_isUpToDate, c_BinarySearch, c_Insert, c_lead, c_take, c_advance, c_replicate, ndOf, mgOf, ND.pv, hTd', eta]
      rw [← hmg, handR, if_pos (by rw [hmg]; exact k1)]
      have hvB : votB T mg = (decide (m3 = T.term) && (decide (T.vote = -1) || decide (T.vote = m1)) && upB1 T.log m4 m5) := by rw [hmg]; rfl
      refine ⟨by decide +kernel, fun a => ⟨a, fun b => ⟨a, b⟩⟩, fun _ _ => by omega, fun a b c => ?_, fun a => ?_⟩
      · have hv : votB T mg = true := by rw [hvB]; simp [a, b, c]
        rw [votN, if_pos hv, votM, hvB, hmg]
        exact ⟨rfl, rfl, rfl, rfl, rfl, rfl, rfl, rfl, rfl, rfl, rfl, rfl, rfl, rfl⟩
      · have hv : ¬ votB T mg = true := by
          rw [hvB]
          simp only [Bool.and_eq_true, Bool.or_eq_true, decide_eq_true_eq]
          intro h
          have := a h.1.1 h.1.2
          rw [this] at h
          exact absurd h.2 (by simp)
        rw [votN, if_neg hv, votM, hvB, hmg]
        exact ⟨rfl, rfl, rfl, rfl, rfl, rfl, rfl, rfl, rfl, rfl, rfl, rfl, rfl, rfl⟩
    · refine hW.vc [(12, [], .take 0 <| .take 1 <| .take 2 <| .take 3 <| .take 4 <| .take 5 <| .take 6 <| .take 7 <| .take 8 <| .take 9 <| .take 10 <| .take 11 <| .take 12 <| .take 13 <| .take 14 <| .take 15 <| .take 16 <| .take 17 <| .take 18 <| .done), (14, [], .take 0 <| .take 1 <| .take 2 <| .take 3 <| .take 4 <| .take 5 <| .alt 6 (.take 7 <| .take 8 <| .take 9 <| .alt 10 (.alt 11 (.done) .stop) .stop) .stop)] _ _ ?_
      simp [-List.getD_eq_getElem?_getD, c_handle, c_follow, c_message, c_isUpToDate, c_BinarySearch, c_Insert, c_lead, c_take, c_advance, c_replicate, ndOf, mgOf, ND.pv, hTd', eta]
      have vl := vo_len' hT.vo (by omega)
      have vo := vo_le' hT.n5 hT.vo
      have pl := posV_le m1 T.vs
      have hH : handR T mg = elecR T mg := by rw [handR, if_neg (by rw [hmg]; exact k1), if_pos (by rw [hmg]; exact k2)]
      have hE1 : m7 = true → m3 = T.term → T.role = 1 → elecR T mg = if T.nodes < 2 * (insV m1 T.vs).length then (leadA { T with vs := insV m1 T.vs }, repAll (leadA { T with vs := insV m1 T.vs }) T.nodes.toNat) else ({ T with vs := insV m1 T.vs }, []) := fun h1 h2 h3 => by
        rw [elecR, if_neg (by rw [hmg]; simp [h1, h2, h3]), hmg]
      rw [← hmg]
      refine ⟨by decide +kernel, fun h => ?_, fun r t o => ⟨by decide +kernel, ⟨by omega, vo⟩, fun hv => ?_, fun hv => ?_⟩⟩
      · have e : elecR T mg = (T, []) := by
          rw [elecR, if_pos]
          rw [hmg]
          rcases h with (h | h) | h
          · exact .inl h
          · exact .inr (.inl h)
          · exact .inr (.inr h)
        rw [hH, e]
        exact ⟨rfl, rfl, rfl, rfl, rfl, rfl, rfl, rfl, rfl, rfl, rfl, rfl, rfl, rfl⟩
      · have hI : insV m1 T.vs = T.vs.take (posV m1 T.vs) ++ (.int .i64 m1 :: T.vs.drop (posV m1 T.vs)) := by rw [insV, if_neg (by rw [hv]; simp)]; simp
        have hlen : (insV m1 T.vs).length = T.vs.length + 1 := by rw [hI]; simp; omega
        refine hW.vc [(16, [9, 12], .take 0 <| .take 1 <| .take 2 <| .take 3 <| .take 4 <| .take 5 <| .take 6 <| .take 7 <| .alt 8 (.alt 9 (.take 10 <| .take 11 <| .alt 12 (.done) .stop) .stop) .stop), (17, [], .take 0 <| .take 1 <| .take 2 <| .take 3 <| .take 4 <| .take 5 <| .take 6 <| .take 7 <| .take 8 <| .take 9 <| .take 10 <| .done)] _ _ ?_
        simp [-List.getD_eq_getElem?_getD, c_handle, c_follow, c_message, c_isUpToDate, c_BinarySearch, c_Insert, c_lead, c_take, c_advance, c_replicate, ndOf, mgOf, ND.pv, hTd', eta]
        rw [← hmg, hH, hE1 o t r, wrap64 (n := 2 * _) (by omega)]
        refine ⟨by decide +kernel, ⟨pl, by omega⟩, by decide +kernel, fun _ => ⟨fun h => ?_, fun h => ?_⟩⟩
        · rw [if_pos (by rw [hlen]; omega), hI]
          exact ⟨⟨a1, a2, hT.c0, l6⟩, rfl, rfl, rfl, rfl, rfl, rfl, rfl, rfl, rfl, rfl, rfl, rfl, rfl, rfl⟩
        · rw [if_neg (by rw [hlen]; omega), hI]
          exact ⟨rfl, rfl, rfl, rfl, rfl, rfl, rfl, rfl, rfl, rfl, rfl, rfl, rfl, rfl⟩
      · have hI : insV m1 T.vs = T.vs := by rw [insV, if_pos hv]
        refine hW.vc [(17, [], .take 0 <| .take 1 <| .take 2 <| .take 3 <| .take 4 <| .take 5 <| .take 6 <| .take 7 <| .take 8 <| .take 9 <| .take 10 <| .done)] _ _ ?_
        simp [-List.getD_eq_getElem?_getD, c_handle, c_follow, c_message, c_isUpToDate, c_BinarySearch, c_Insert, c_lead, c_take, c_advance, c_replicate, ndOf, mgOf, ND.pv, hTd', eta]
        rw [← hmg, hH, hE1 o t r, hI, wrap64 (n := 2 * _) (by omega)]
        refine ⟨by decide +kernel, fun _ => ⟨fun h => ?_, fun h => ?_⟩⟩
        · rw [if_pos h]
          exact ⟨⟨a1, a2, hT.c0, l6⟩, rfl, rfl, rfl, rfl, rfl, rfl, rfl, rfl, rfl, rfl, rfl, rfl, rfl, rfl⟩
        · rw [if_neg (by omega)]
          exact ⟨rfl, rfl, rfl, rfl, rfl, rfl, rfl, rfl, rfl, rfl, rfl, rfl, rfl, rfl⟩
    · rw [hTd', eta, ← hmg]
      have hH : handR T mg = ((takeR T mg).1, [takeM T mg (takeR T mg).2.1 (takeR T mg).2.2]) := by
        rw [handR, if_neg (by rw [hmg]; exact k1), if_neg (by rw [hmg]; exact k2), if_pos (by rw [hmg]; exact k3)]
      rw [hH]
      exact ⟨⟨hT, by rw [hmg]; exact hM.i0, by rw [hmg]; exact hM.i6, by rw [hmg]; exact hM.es, by rw [hmg]; exact hTt⟩, by rw [hmg]; rfl, rfl, rfl, rfl, rfl, rfl, rfl, rfl, rfl, rfl, rfl, rfl, rfl, rfl⟩
    · have h6 : ∀ x, nth (T.ms.set m1.toNat x) m1.toNat = x := fun x => nth_set (by omega)
      have h7 : ∀ x, nth (T.nx.set m1.toNat x) m1.toNat = x := fun x => nth_set (by omega)
      have nm := nm_get hT.nm (by omega) m1.toNat (by omega)
      have hH : handR T mg = ansR T mg := by
        rw [handR, if_neg (by rw [hmg]; exact k1), if_neg (by rw [hmg]; exact k2), if_neg (by rw [hmg]; exact k3)]
      have hi0 : 0 ≤ m4 := hM.i0
      have hi6 : m4 ≤ 60 := hM.i6
      have bX : 0 ≤ mxI (nth T.ms m1.toNat).I (mnI m4 T.log.length) ∧ mxI (nth T.ms m1.toNat).I (mnI m4 T.log.length) ≤ 61 := by
        unfold mxI mnI
        split <;> split <;> omega
      have w1 := wrap64 (n := mxI (nth T.ms m1.toNat).I (mnI m4 T.log.length) + 1) (by omega)
      have w2 := wrap64 (n := (nth T.ms m1.toNat).I + 1) (by omega)
      have w3 := wrap64 (n := (nth T.nx m1.toNat).I - 1) (by omega)
      have w4 := wrap64 (n := m4 + 1) (by omega)
      have hA : ackN T mg = ⟨T.id, T.nodes, T.term, T.vote, T.role, T.up, T.log, T.com, T.ela, T.wt, T.vs, T.nx.set m1.toNat (.int .i64 (mxI (nth T.nx m1.toNat).I (mxI (nth T.ms m1.toNat).I (mnI m4 T.log.length) + 1))), T.ms.set m1.toNat (.int .i64 (mxI (nth T.ms m1.toNat).I (mnI m4 T.log.length)))⟩ := by
        rw [hmg]; simp only [ackN, ackM, h6, pv_I]
      have eN : (nth (nakN T mg).nx m1.toNat).I = mxI ((nth T.ms m1.toNat).I + 1) (mnI ((nth T.nx m1.toNat).I - 1) (m4 + 1)) := by
        rw [hmg]; simp only [nakN, h7, pv_I]
      have rO : repOk (nakN T mg) m1 := by
        have eL : ((nakN T mg).nx.length : Int) = T.nx.length := by rw [hmg]; simp only [nakN, List.length_set]
        have eG : (nakN T mg).log = T.log := rfl
        refine ⟨hm0, by omega, ?_, ?_, by rw [eG]; omega⟩
        · rw [eN]; unfold mxI mnI; split <;> split <;> omega
        · rw [eN, eG]; unfold mxI mnI; split <;> split <;> omega
      unfold mxI mnI at w1
      refine hW.vc [(1, [], .take 0 <| .take 1 <| .take 2 <| .take 3 <| .take 4 <| .take 5 <| .take 6 <| .done), (7, [32], .take 0 <| .take 1 <| .take 2 <| .take 3 <| .take 4 <| .take 5 <| .take 6 <| .take 7 <| .take 8 <| .take 9 <| .take 10 <| .take 11 <| .take 12 <| .take 13 <| .take 14 <| .take 15 <| .take 16 <| .take 17 <| .take 18 <| .take 19 <| .take 20 <| .take 21 <| .take 22 <| .take 23 <| .take 24 <| .take 25 <| .take 26 <| .take 27 <| .take 28 <| .alt 29 (.take 30 <| .take 31 <| .alt 32 (.done) .stop) .stop), (12, [], .take 0 <| .take 1 <| .take 2 <| .take 3 <| .take 4 <| .take 5 <| .take 6 <| .take 7 <| .take 8 <| .take 9 <| .take 10 <| .take 11 <| .take 12 <| .take 13 <| .take 14 <| .take 15 <| .take 16 <| .take 17 <| .take 18 <| .done), (14, [], .take 0 <| .take 1 <| .take 2 <| .take 3 <| .take 4 <| .take 5 <| .alt 6 (.take 7 <| .take 8 <| .take 9 <| .alt 10 (.alt 11 (.done) .stop) .stop) .stop), (16, [9, 12], .take 0 <| .take 1 <| .take 2 <| .take 3 <| .take 4 <| .take 5 <| .take 6 <| .take 7 <| .alt 8 (.alt 9 (.take 10 <| .take 11 <| .alt 12 (.done) .stop) .stop) .stop), (17, [], .take 0 <| .take 1 <| .take 2 <| .take 3 <| .take 4 <| .take 5 <| .take 6 <| .take 7 <| .take 8 <| .take 9 <| .take 10 <| .done), (22, [], .take 0 <| .take 1 <| .take 2 <| .take 3 <| .take 4 <| .take 5 <| .take 6 <| .take 7 <| .take 8 <| .take 9 <| .take 10 <| .take 11 <| .take 12 <| .take 13 <| .done), (25, [24], .take 0 <| .take 1 <| .take 2 <| .take 3 <| .take 4 <| .take 5 <| .take 6 <| .take 7 <| .take 8 <| .take 9 <| .take 10 <| .take 11 <| .take 12 <| .take 13 <| .take 14 <| .take 15 <| .take 16 <| .take 17 <| .take 18 <| .take 19 <| .take 20 <| .take 21 <| .take 22 <| .take 23 <| .alt 24 (.done) .stop), (26, [25], .take 0 <| .take 1 <| .take 2 <| .take 3 <| .take 4 <| .take 5 <| .take 6 <| .take 7 <| .take 8 <| .take 9 <| .take 10 <| .take 11 <| .take 12 <| .take 13 <| .take 14 <| .take 15 <| .take 16 <| .take 17 <| .take 18 <| .take 19 <| .take 20 <| .take 21 <| .take 22 <| .take 23 <| .take 24 <| .alt 25 (.done) .stop), (29, [30], .take 0 <| .take 1 <| .take 2 <| .take 3 <| .take 4 <| .take 5 <| .take 6 <| .take 7 <| .take 8 <| .take 9 <| .take 10 <| .take 11 <| .take 12 <| .take 13 <| .take 14 <| .take 15 <| .take 16 <| .take 17 <| .take 18 <| .take 19 <| .take 20 <| .take 21 <| .take 22 <| .take 23 <| .take 24 <| .take 25 <| .take 26 <| .take 27 <| .take 28 <| .take 29 <| .alt 30 (.done) .stop)] _ _ ?_
      simp [-List.getD_eq_getElem?_getD, c_handle, c_follow, c_message, c_isUpToDate, c_BinarySearch, c_Insert, c_lead, c_take, c_advance, c_replicate, ndOf, mgOf, ND.pv, repM, hTd', eta, h6, h7]
      rw [w1, w2, w3, w4, ← hmg, hH]
      refine ⟨by decide +kernel, fun h => ?_, fun r t => ⟨fun o => ?_, fun o => ?_⟩⟩
      · have e : ansR T mg = (T, []) := by
          rw [ansR, if_pos (by rw [hmg]; exact h)]
        rw [e]
        exact ⟨rfl, rfl, rfl, rfl, rfl, rfl, rfl, rfl, rfl, rfl, rfl, rfl, rfl, rfl⟩
      · have e : ansR T mg = ({ ackN T mg with com := advG (ackN T mg) T.log.length }, []) := by
          rw [ansR, if_neg (by rw [hmg]; simp [r, t]), if_pos (by rw [hmg]; exact o)]
        rw [e, hA]
        exact ⟨by decide +kernel, ⟨hm0, by omega⟩, by omega, fun _ _ => ⟨⟨hm0, by omega⟩, by omega, by decide +kernel, ⟨hm0, by omega⟩, by omega, fun _ => ⟨⟨hm0, by omega⟩, by omega, fun _ _ => ⟨⟨hm0, by omega⟩, by omega, ⟨hT.c0, by omega, by omega⟩, rfl, rfl, rfl, rfl, rfl, rfl, rfl, rfl, rfl, rfl, rfl, rfl, rfl, rfl⟩⟩⟩⟩
      · have e : ansR T mg = (nakN T mg, [repV (nakN T mg) m1]) := by
          rw [ansR, if_neg (by rw [hmg]; simp [r, t]), if_neg (by rw [hmg]; simp [o]), hmg]
        have hN : nakN T mg = ⟨T.id, T.nodes, T.term, T.vote, T.role, T.up, T.log, T.com, T.ela, T.wt, T.vs, T.nx.set m1.toNat (.int .i64 (mxI ((nth T.ms m1.toNat).I + 1) (mnI ((nth T.nx m1.toNat).I - 1) (m4 + 1)))), T.ms⟩ := by
          rw [hmg]; rfl
        rw [hN] at rO
        have hR := congrArg (fun n => repV n m1) hN
        simp only [repV, repM, h7, pv_I] at hR
        rw [e, repV, repM, hR, hN]
        exact ⟨by decide +kernel, ⟨hm0, by omega⟩, by omega, fun _ => ⟨⟨hm0, by omega⟩, by omega, fun _ => ⟨⟨hm0, by omega⟩, by omega, rO, rfl, rfl, rfl, rfl, rfl, rfl, rfl, rfl, rfl, rfl, rfl, rfl, rfl, rfl⟩⟩⟩

end Go.Proofs.Ytmjjdfhpnckacab
end

section
namespace Go.Proofs.Ytmjjdfhpnckacab
set_option maxRecDepth 100000
set_option linter.unusedSimpArgs false

def mgB1 (m : MG) : Bool := inB m.kind 1 4 && inB m.frm 0 4 && inB m.to 0 4 && !decide (m.frm = m.to) && inB m.term 1 1000 && inB m.idx 0 60 && inB m.com 0 60 && inB m.lt 0 m.term
def mgB2 (m : MG) : Bool := entsB m.term m.es && leB m.es.length (60 - m.idx) && (decide ((m.es.length : Int) = 0) || leB m.lt (nth (nth m.es 0).A 0).I) && (ltB 0 m.idx || decide (m.lt = 0))
def mgB (m : MG) : Bool := mgB1 m && cond (m.kind == 3) (mgB2 m) (decide ((m.es.length : Int) = 0))
def c_isMessage : FSpec := ⟨[(.rd, .agg [.int .i64, .int .i64, .int .i64, .int .i64, .int .i64, .int .i64, .int .i64, .bool, .list (.agg [.int .i64, .str])])], [.bool], true, fun _ => True, fun ps => [.bool (mgB (mgOf (nth ps 0).A))], fun _ => []⟩
theorem k_isMessage : FnOk Try.prog 74 c_isMessage := by
  refine fn_mk [0, 1, 2] [.tmp 2] (env_cons (cs := []) k_areEntries (env_cons (cs := []) k_within (env_nil (tyTab_ok [])))) mixed Try.func74 rfl (by decide) rfl (by decide) rfl ?_
  intro ps hT hpre W hW
  simp only [c_isMessage, TyA, Ty, Tys] at hT hpre
  obtain ⟨_, _, rfl, ⟨_, rfl, _, _, rfl, ⟨m0, rfl, hm0⟩, _, _, rfl, ⟨m1, rfl, hm1⟩, _, _, rfl, ⟨m2, rfl, hm2⟩, _, _, rfl, ⟨m3, rfl, hm3⟩, _, _, rfl, ⟨m4, rfl, hm4⟩, _, _, rfl, ⟨m5, rfl, hm5⟩, _, _, rfl, ⟨m6, rfl, hm6⟩, _, _, rfl, ⟨m7, rfl⟩, _, _, rfl, ⟨m8, rfl, hm8, tm8⟩, rfl⟩, rfl⟩ := hT
  refine hW.vc [(5, [], .take 0 <| .take 1 <| .take 2 <| .take 3 <| .alt 4 (.take 5 <| .take 6 <| .take 7 <| .take 8 <| .take 9 <| .take 10 <| .take 11 <| .take 12 <| .take 13 <| .take 14 <| .take 15 <| .take 16 <| .take 17 <| .take 18 <| .take 19 <| .take 20 <| .take 21 <| .take 22 <| .take 23 <| .take 24 <| .take 25 <| .take 26 <| .take 27 <| .take 28 <| .take 29 <| .take 30 <| .take 31 <| .take 32 <| .take 33 <| .take 34 <| .take 35 <| .take 36 <| .take 37 <| .take 38 <| .take 39 <| .alt 40 (.done) .stop) .stop)] _ _ ?_
  simp [-List.getD_eq_getElem?_getD, c_isMessage, c_within, c_areEntries, mgOf]
  refine ⟨fun h => ?_, fun b1 b2 b3 b4 b5 b6 b7 b8 => ⟨fun h _ => ?_, fun h => ⟨by decide +kernel, fun _ _ => ⟨fun a b c => ⟨⟨⟨a, b⟩, c⟩, List.length_pos_iff.2 c⟩, fun _ => ⟨fun a b => ⟨⟨a, b⟩, fun c => ⟨⟨a, b⟩, c⟩⟩, fun a b c => ⟨⟨⟨a, b⟩, c⟩, fun d => ⟨⟨⟨a, b⟩, c⟩, d⟩⟩, ?_⟩⟩⟩⟩⟩
  · have : mgB1 ⟨m0, m1, m2, m3, m4, m5, m6, m7, m8⟩ = false := by
      rcases h with ((((((h | h) | h) | h) | h) | h) | h) | h <;> simp [mgB1, h]
    simp [mgB, this]
  · have h1 : mgB1 ⟨m0, m1, m2, m3, m4, m5, m6, m7, m8⟩ = true := by simp [mgB1, b1, b2, b3, b4, b5, b6, b7, b8]
    have hk : (m0 == 3) = false := by simp [h]
    simp only [mgB, h1, hk, cond_false, Bool.true_and]
    rw [Bool.eq_iff_iff]
    simp
  · have h1 : mgB1 ⟨m0, m1, m2, m3, m4, m5, m6, m7, m8⟩ = true := by simp [mgB1, b1, b2, b3, b4, b5, b6, b7, b8]
    have hk : (m0 == 3) = true := by simp [h]
    rw [wrap64 (n := 60 - m4) (by simp [inB] at b6; omega)]
    simp only [mgB, h1, hk, cond_true, Bool.true_and, mgB2, leB, ltB]
    rw [Bool.eq_iff_iff]
    simp

theorem mgB_F {n : ND} {m : MG} (h : mgB m = true) (hf : m.frm < n.nodes) : MgF n m := by
  have hl : m.es.length ≤ 60 := by
    simp only [mgB, Bool.and_eq_true] at h
    obtain ⟨h1, h2⟩ := h
    cases hk : m.kind == 3 with
    | true =>
      rw [hk, cond_true] at h2
      simp only [mgB2, entsB, leB, Bool.and_eq_true, decide_eq_true_eq] at h2
      omega
    | false =>
      rw [hk, cond_false] at h2
      simp only [decide_eq_true_eq] at h2
      omega
  simp only [mgB, mgB1, inB, Bool.and_eq_true, decide_eq_true_eq] at h
  exact ⟨by omega, by omega, by omega, hf, by omega, by omega, by omega, by omega, by omega, by omega, hl⟩

def tkOf (n : ND) (m : MG) : ND × List PV × Int :=
  cond (nodeB n && mgB m) (cond (decide (m.to = n.id) && decide (m.frm < n.nodes)) (cond n.up (cond (nodeB (handR (newT n m.term) m).1) ((handR (newT n m.term) m).1, (handR (newT n m.term) m).2, 0) (n, [], 3)) (n, [], 13)) (ND.no, [], 4)) (ND.no, [], 1)
def c_iNodeTake : FSpec := ⟨[(.rd, .agg [.int .i64, .int .i64, .int .i64, .int .i64, .int .i64, .bool, .list (.agg [.int .i64, .str]), .int .i64, .int .i64, .int .i64, .list (.int .i64), .list (.int .i64), .list (.int .i64)]), (.rd, .agg [.int .i64, .int .i64, .int .i64, .int .i64, .int .i64, .int .i64, .int .i64, .bool, .list (.agg [.int .i64, .str])])], [.agg [.int .i64, .int .i64, .int .i64, .int .i64, .int .i64, .bool, .list (.agg [.int .i64, .str]), .int .i64, .int .i64, .int .i64, .list (.int .i64), .list (.int .i64), .list (.int .i64)], .list (.agg [.int .i64, .int .i64, .int .i64, .int .i64, .int .i64, .int .i64, .int .i64, .bool, .list (.agg [.int .i64, .str])]), .int .i64], true, fun ps => (nth (nth ps 0).A 10).L.length ≤ 1048576,
  fun ps => [(tkOf (ndOf (nth ps 0).A) (mgOf (nth ps 1).A)).1.pv, .list (tkOf (ndOf (nth ps 0).A) (mgOf (nth ps 1).A)).2.1, .int .i64 (tkOf (ndOf (nth ps 0).A) (mgOf (nth ps 1).A)).2.2], fun _ => []⟩
theorem k_iNodeTake : FnOk Try.prog 29 c_iNodeTake := by
  refine fn_mk [0, 1, 2, 3, 4, 5, 6, 7, 8] [.cell 4 41, .tmp 5, .tmp 6] (env_cons (cs := []) k_handle (env_cons (cs := []) k_cloneNode (env_cons (cs := []) k_isMessage (env_cons (cs := []) k_isNode (env_nil (tyTab_ok [])))))) mixed Try.func29 rfl (by decide) rfl (by decide) rfl ?_
  intro ps hT hpre W hW
  simp only [c_iNodeTake, TyA, Ty, Tys] at hT hpre
  obtain ⟨_, _, rfl, ⟨_, rfl, _, _, rfl, ⟨n0, rfl, hn0⟩, _, _, rfl, ⟨n1, rfl, hn1⟩, _, _, rfl, ⟨n2, rfl, hn2⟩, _, _, rfl, ⟨n3, rfl, hn3⟩, _, _, rfl, ⟨n4, rfl, hn4⟩, _, _, rfl, ⟨u, rfl⟩, _, _, rfl, ⟨es, rfl, hes, tes⟩, _, _, rfl, ⟨n5, rfl, hn5⟩, _, _, rfl, ⟨n6, rfl, hn6⟩, _, _, rfl, ⟨n7, rfl, hn7⟩, _, _, rfl, ⟨vs, rfl, hvs, tvs⟩, _, _, rfl, ⟨xs, rfl, hxs, txs⟩, _, _, rfl, ⟨ms, rfl, hms, tms⟩, rfl⟩, _, _, rfl, ⟨_, rfl, _, _, rfl, ⟨m0, rfl, hm0⟩, _, _, rfl, ⟨m1, rfl, hm1⟩, _, _, rfl, ⟨m2, rfl, hm2⟩, _, _, rfl, ⟨m3, rfl, hm3⟩, _, _, rfl, ⟨m4, rfl, hm4⟩, _, _, rfl, ⟨m5, rfl, hm5⟩, _, _, rfl, ⟨m6, rfl, hm6⟩, _, _, rfl, ⟨m7, rfl⟩, _, _, rfl, ⟨m8, rfl, hm8, tm8⟩, rfl⟩, rfl⟩ := hT
  simp only [nth_zero, nth_succ, pv_I, pv_L, pv_A] at hpre
  refine hW.vc [] _ _ ?_
  simp [-List.getD_eq_getElem?_getD, c_iNodeTake, c_isNode, c_isMessage, c_cloneNode, c_handle, c_toNode, c_toNode, ndOf, mgOf, ND.pv]
  obtain ⟨nd, hnd⟩ : ∃ nd : ND, nd = ⟨n0, n1, n2, n3, n4, u, es, n5, n6, n7, vs, xs, ms⟩ := ⟨_, rfl⟩
  obtain ⟨mg, hmg⟩ : ∃ mg : MG, mg = ⟨m0, m1, m2, m3, m4, m5, m6, m7, m8⟩ := ⟨_, rfl⟩
  rw [← hnd, ← hmg]
  refine ⟨fun h => ?_, fun h1 h2 => ⟨fun h3 => ?_, fun h3 h4 => ?_⟩⟩
  · have e : tkOf nd mg = (ND.no, [], 1) := by rcases h with h | h <;> simp [tkOf, h]
    rw [e]
    simp [ND.no]
  · have e : tkOf nd mg = (ND.no, [], 4) := by
      have : (decide (mg.to = nd.id) && decide (mg.frm < nd.nodes)) = false := by
        rw [hmg, hnd]
        simp only [Bool.and_eq_false_iff, decide_eq_false_iff_not]
        exact h3.imp id fun h => Int.not_lt.2 h
      simp [tkOf, h1, h2, this]
    rw [e]
    simp [ND.no]
  · have hF := nodeB_F h1
    have hM := mgB_F (n := nd) h2 (by rw [hmg, hnd]; exact h4)
    have f1 : es.length ≤ 60 ∧ (xs.length : Int) ≤ 5 ∧ (ms.length : Int) ≤ 5 := by
      have a1 := hF.l6; have a2 := hF.nx; have a3 := hF.ms; have a4 := hF.n5
      rw [hnd] at a1 a2 a3 a4
      simp only at a1 a2 a3 a4
      exact ⟨a1, by omega, by omega⟩
    have e0 : (decide (mg.to = nd.id) && decide (mg.frm < nd.nodes)) = true := by
      rw [hmg, hnd]
      simp only [Bool.and_eq_true, decide_eq_true_eq]
      exact ⟨h3, h4⟩
    have et : mg.term = m3 := by rw [hmg]
    refine ⟨fun hu => ⟨⟨by omega, hpre, by omega, by omega⟩, ?_⟩, fun hu => ⟨⟨by omega, hpre, by omega, by omega⟩, ⟨hF, hM⟩, fun h5 => ⟨⟨by omega, hpre, by omega, by omega⟩, ?_⟩, fun h5 => ?_⟩⟩
    · have e : tkOf nd mg = (nd, [], 13) := by rw [tkOf, h1, h2, e0, show nd.up = false by rw [hnd]; exact hu]; rfl
      rw [e, hnd]; exact ⟨⟨rfl, rfl, rfl, rfl, rfl, rfl, rfl, rfl, rfl, rfl, rfl, rfl, rfl⟩, rfl, rfl⟩
    · have e : tkOf nd mg = (nd, [], 3) := by rw [tkOf, h1, h2, e0, show nd.up = true by rw [hnd]; exact hu, et, show nodeB (handR (newT nd m3) mg).1 = false from h5]; rfl
      rw [e, hnd]; exact ⟨⟨rfl, rfl, rfl, rfl, rfl, rfl, rfl, rfl, rfl, rfl, rfl, rfl, rfl⟩, rfl, rfl⟩
    · have e : tkOf nd mg = ((handR (newT nd m3) mg).1, (handR (newT nd m3) mg).2, 0) := by rw [tkOf, h1, h2, e0, show nd.up = true by rw [hnd]; exact hu, et, show nodeB (handR (newT nd m3) mg).1 = true from h5]; rfl
      rw [e]; exact ⟨⟨rfl, rfl, rfl, rfl, rfl, rfl, rfl, rfl, rfl, rfl, rfl, rfl, rfl⟩, rfl, rfl⟩

end Go.Proofs.Ytmjjdfhpnckacab
end

