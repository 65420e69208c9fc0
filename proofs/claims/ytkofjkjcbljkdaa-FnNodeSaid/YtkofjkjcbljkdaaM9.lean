/-
  Part 9 of the proof of FnNode: a verification-condition generator over the program and the contracts of its functions, in the order of their use.
  Conditions: none.
-/
import Derived.Test.YtkofjkjcbljkdaaM8
set_option linter.unusedVariables false
set_option linter.unusedSimpArgs false
set_option linter.unusedSectionVars false

section
namespace Go.Proofs.Ytkofjkjcbljkdaa
variable [LaidG]
set_option maxRecDepth 100000
set_option linter.unusedSimpArgs false

theorem inB_iff {x a b : Int} : inB x a b = true ↔ a ≤ x ∧ x ≤ b := by simp [inB]
/-- An entry of the newest term behind valid entries. -/
theorem entB_snoc {t : Int} {e : PV} (h1 : leB (nth e.A 1).S.length 400 = true) (h2 : 1 ≤ t) (h3 : (nth e.A 0).I = t) : ∀ {es : List PV} {p : Int}, p ≤ t → entB t p es = true → entB t p (es ++ [e]) = true
  | [], p, hp, _ => by
    simp only [List.nil_append, entB, Bool.and_eq_true, inB_iff, h3]
    exact ⟨⟨⟨h1, h2, by omega⟩, by simp [leB]; omega⟩, trivial⟩
  | x :: es, p, hp, h => by
    simp only [List.cons_append, entB, Bool.and_eq_true, inB_iff] at h ⊢
    exact ⟨h.1, entB_snoc h1 h2 h3 h.1.1.2.2 h.2⟩
theorem entB_get {t : Int} : ∀ {es : List PV} {p : Int}, entB t p es = true → ∀ i, i < es.length → 1 ≤ (nth (nth es i).A 0).I ∧ (nth (nth es i).A 0).I ≤ t
  | [], p, _, i, hi => by simp at hi
  | e :: es, p, h, i, hi => by
    simp only [entB, Bool.and_eq_true, inB_iff] at h
    cases i with
    | zero => rw [nth_zero]; exact ⟨h.1.1.2.1, h.1.1.2.2⟩
    | succ i => rw [nth_succ]; exact entB_get h.2 i (by simpa using hi)
theorem nmB_new {l : Int} (hl : 0 ≤ l) : ∀ k : Nat, nmB l (List.replicate k (.int .i64 (l + 1))) (List.replicate k (.int .i64 0)) = true
  | 0 => rfl
  | k + 1 => by
    rw [List.replicate_succ, List.replicate_succ]
    simp only [nmB, Bool.and_eq_true, inB_iff, PV.I]
    exact ⟨⟨by omega, by omega⟩, nmB_new hl k⟩
theorem nmB_mono {l l' : Int} (h : l ≤ l') : ∀ {xs ms : List PV}, nmB l xs ms = true → nmB l' xs ms = true
  | [], ms, _ => by cases ms <;> rfl
  | x :: xs, [], _ => rfl
  | x :: xs, m :: ms, h1 => by
    simp only [nmB, Bool.and_eq_true, inB_iff] at h1 ⊢
    exact ⟨⟨⟨h1.1.1.1, by omega⟩, h1.1.2⟩, nmB_mono h h1.2⟩
theorem advG_in (n : ND) (h0 : 0 ≤ n.com) : ∀ p : Nat, n.com ≤ advG n p ∧ (advG n p ≤ n.com ∨ advG n p ≤ p)
  | 0 => by simp [advG]
  | p + 1 => by
    have ih := advG_in n h0 p
    rw [advG]
    split
    · omega
    · split
      · omega
      · omega

theorem lead_F {n : ND} (h : NdF n) (ht : 1 ≤ n.term) (hu : n.up = true) : NdF (leadA n) := by
  have hl := leadL_len n.term n.log
  have h6 := h.l6
  have h60 : (leadL n.term n.log).length ≤ 60 := by
    unfold leadL
    split
    · rw [List.length_append]; simp only [List.length_singleton]; omega
    · exact h6
  have hen : entB n.term 0 (leadL n.term n.log) = true := by
    unfold leadL
    split
    · exact entB_snoc rfl ht rfl (by omega) h.en
    · exact h.en
  have hc := advG_in (leadN n) h.c0 (leadN n).log.length
  have hcl : (leadN n).com = n.com := rfl
  have hll : (leadN n).log.length = (leadL n.term n.log).length := rfl
  have hcom : (leadA n).com = advG (leadN n) (leadN n).log.length := rfl
  have hlg : (leadA n).log = leadL n.term n.log := rfl
  have c0 := h.c0; have c1 := h.c1; have n1 := h.n1
  refine ⟨h.n1, h.n5, h.i0, h.i1, h.t0, h.t1, hen, h60, by show (0 : Int) ≤ 2; decide, by show (2 : Int) ≤ 2; decide, .inl hu, by rw [hcom]; omega, by rw [hcom, hlg]; omega, by show (0 : Int) ≤ 0; decide, by show (0 : Int) ≤ 1000; decide, h.w5, h.w1, ?_, ?_, h.vo, ?_, h.vt⟩
  · show ((List.replicate n.nodes.toNat (PV.int .i64 (n.log.length + 1))).length : Int) = n.nodes
    rw [List.length_replicate]; omega
  · show ((List.replicate n.nodes.toNat (PV.int .i64 0)).length : Int) = n.nodes
    rw [List.length_replicate]; omega
  · exact nmB_mono (l := n.log.length) (by rw [hlg]; omega) (nmB_new (by omega) _)
theorem voB_cons {n p : Int} {e : PV} {l : List PV} : voB n p (e :: l) = true ↔ (0 ≤ e.I ∧ e.I ≤ n - 1) ∧ p < e.I ∧ voB n e.I l = true := by
  show (inB e.I 0 (n - 1) && decide (p < e.I) && voB n e.I l) = true ↔ _
  simp only [Bool.and_eq_true, inB_iff, decide_eq_true_eq, and_assoc]
theorem voB_int {n p x : Int} {l : List PV} : voB n p (.int .i64 x :: l) = true ↔ (0 ≤ x ∧ x ≤ n - 1) ∧ p < x ∧ voB n x l = true := voB_cons (e := .int .i64 x)
theorem stand_F {n : ND} {d : Int} (h : NdF n) (ht : n.term ≤ 999) (hd : 0 ≤ d) (hu : n.up = true) : NdF (standN n d) := by
  have t0 := h.t0; have i0 := h.i0; have i1 := h.i1; have n5 := h.n5
  have htm : 0 ≤ d.tmod 8 ∧ d.tmod 8 < 8 := ⟨Int.tmod_nonneg _ hd, Int.tmod_lt_of_pos _ (by omega)⟩
  refine ⟨h.n1, h.n5, h.i0, h.i1, by show 0 ≤ n.term + 1; omega, by show n.term + 1 ≤ 1000; omega, entB_le (t := n.term) (by show n.term ≤ n.term + 1; omega) h.en, h.l6, by show (0 : Int) ≤ 1; decide, by show (1 : Int) ≤ 2; decide, .inl hu, h.c0, h.c1, by show (0 : Int) ≤ 0; decide, by show (0 : Int) ≤ 1000; decide,
    by show 5 ≤ 5 + d.tmod 8; omega, by show 5 + d.tmod 8 ≤ 100; omega, h.nx, h.ms, ?_, h.nm, ⟨by show -1 ≤ n.id; omega, by show n.id ≤ 4; omega, by show n.id < n.nodes; omega⟩⟩
  exact voB_int.2 ⟨⟨i0, i1⟩, by omega, rfl⟩
theorem NdF.ela0 {n : ND} (h : NdF n) : NdF { n with ela := 0 } :=
  ⟨h.n1, h.n5, h.i0, h.i1, h.t0, h.t1, h.en, h.l6, h.r0, h.r2, h.ur, h.c0, h.c1, by show (0 : Int) ≤ 0; decide, by show (0 : Int) ≤ 1000; decide, h.w5, h.w1, h.nx, h.ms, h.vo, h.nm, h.vt⟩
theorem tick_F {n : ND} {d : Int} (h : NdF n) (hd : 0 ≤ d) (hu : n.up = true) : NdF (tickN n d).1 := by
  have t0 := h.t0; have t1 := h.t1
  unfold tickN
  split
  · split
    · exact h.ela'
    · exact h.ela0
  · split
    · exact h.ela'
    · rename_i h1 h2
      have h3 : n.term ≠ 1000 := fun e => h2 (.inr e)
      have hS := stand_F (d := d) h (by omega) hd hu
      unfold standR
      split
      · exact lead_F hS (by show 1 ≤ n.term + 1; omega) hu
      · exact hS

/-- What a step of a node keeps. -/
structure Stp (n x : ND) (k : Int) : Prop where
  t0 : n.term ≤ x.term
  t1 : x.term ≤ n.term + k
  c : n.com ≤ x.com
  v : x.term = n.term → 0 ≤ n.vote → x.vote = n.vote
  u : x.up = n.up
  nd : x.nodes = n.nodes
  i : x.id = n.id
  rt : (n.role ≠ 0 → 1 ≤ n.term) → x.role ≠ 0 → 1 ≤ x.term
theorem Stp.refl (n : ND) : Stp n n 0 := ⟨by omega, by omega, by omega, fun _ _ => rfl, rfl, rfl, rfl, fun h => h⟩
theorem Stp.trans {a b c : ND} {k l : Int} (h : Stp a b k) (g : Stp b c l) : Stp a c (k + l) := by
  have a1 := h.t0; have a2 := h.t1; have a3 := g.t0; have a4 := g.t1; have a5 := h.c; have a6 := g.c
  refine ⟨by omega, by omega, by omega, fun e h0 => ?_, by rw [g.u, h.u], by rw [g.nd, h.nd], by rw [g.i, h.i], fun q => g.rt (h.rt q)⟩
  have e1 := h.v (by omega) h0
  rw [g.v (by omega) (by omega), e1]
theorem Stp.mono {n x : ND} {k l : Int} (h : Stp n x k) (hl : k ≤ l) : Stp n x l := ⟨h.t0, by have := h.t1; omega, h.c, h.v, h.u, h.nd, h.i, h.rt⟩
theorem lead_S {n : ND} (hc : 0 ≤ n.com) (ht : 1 ≤ n.term) : Stp n (leadA n) 0 := by
  have h1 := (advG_in (leadN n) hc (leadN n).log.length).1
  exact ⟨Int.le_refl _, by show n.term ≤ n.term + 0; omega, h1, fun _ _ => rfl, rfl, rfl, rfl, fun _ _ => ht⟩
theorem tick_S {n : ND} {d : Int} (h : NdF n) : Stp n (tickN n d).1 1 := by
  have t0 := h.t0
  have hS : Stp n (standN n d) 1 := ⟨by show n.term ≤ n.term + 1; omega, by show n.term + 1 ≤ n.term + 1; omega, Int.le_refl _, fun (e : n.term + 1 = n.term) _ => by omega, rfl, rfl, rfl, fun _ _ => by show 1 ≤ n.term + 1; omega⟩
  unfold tickN
  split
  · split
    · exact ⟨Int.le_refl _, by show n.term ≤ n.term + 1; omega, Int.le_refl _, fun _ _ => rfl, rfl, rfl, rfl, fun h => h⟩
    · exact ⟨Int.le_refl _, by show n.term ≤ n.term + 1; omega, Int.le_refl _, fun _ _ => rfl, rfl, rfl, rfl, fun h => h⟩
  · split
    · exact ⟨Int.le_refl _, by show n.term ≤ n.term + 1; omega, Int.le_refl _, fun _ _ => rfl, rfl, rfl, rfl, fun h => h⟩
    · unfold standR
      split
      · exact hS.trans (lead_S (n := standN n d) h.c0 (by show 1 ≤ n.term + 1; omega))
      · exact hS
theorem new_S {n : ND} {t k : Int} (hk : 0 ≤ k) (ht : t ≤ n.term + k) : Stp n (newT n t) k := by
  unfold newT
  split
  · rename_i h
    exact ⟨Int.le_of_lt h, ht, Int.le_refl _, fun (e : t = n.term) _ => by omega, rfl, rfl, rfl, fun _ (h : (0 : Int) ≠ 0) => absurd rfl h⟩
  · exact (Stp.refl n).mono hk
theorem hand_S {n : ND} {m : MG} (hc : 0 ≤ n.com) (hm : 1 ≤ m.term) : Stp n (handR n m).1 0 := by
  have r0 := Stp.refl n
  unfold handR
  split
  · show Stp n (votN n m) 0
    unfold votN
    split
    · rename_i hv
      refine ⟨Int.le_refl _, by show n.term ≤ n.term + 0; omega, Int.le_refl _, fun _ h0 => ?_, rfl, rfl, rfl, fun h => h⟩
      simp only [votB, Bool.and_eq_true, Bool.or_eq_true, decide_eq_true_eq] at hv
      show m.frm = n.vote
      omega
    · exact r0
  · split
    · unfold elecR
      split
      · exact r0
      · rename_i he
        have he' : 1 ≤ n.term := by
          have : m.term = n.term := Decidable.byContradiction fun h => he (.inr (.inl h))
          omega
        split
        · have h := lead_S (n := { n with vs := insV m.frm n.vs }) hc he'
          exact ⟨h.t0, h.t1, h.c, h.v, h.u, h.nd, h.i, h.rt⟩
        · exact ⟨Int.le_refl _, by show n.term ≤ n.term + 0; omega, Int.le_refl _, fun _ _ => rfl, rfl, rfl, rfl, fun h => h⟩
    · split
      · show Stp n (takeR n m).1 0
        have hF : Stp n (takeF n m) 0 := by
          unfold takeF
          split
          · exact ⟨Int.le_refl _, by show n.term ≤ n.term + 0; omega, Int.le_refl _, fun _ _ => rfl, rfl, rfl, rfl, fun _ (h : (0 : Int) ≠ 0) => absurd rfl h⟩
          · exact r0
        unfold takeR
        cases takeNo n m with
        | true => exact hF
        | false =>
          refine hF.trans (c := takeE (takeF n m) m) (l := 0) ⟨Int.le_refl _, by show (takeF n m).term ≤ (takeF n m).term + 0; omega, ?_, fun _ _ => rfl, rfl, rfl, rfl, fun h => h⟩
          show (takeF n m).com ≤ mxI (takeF n m).com _
          unfold mxI; split <;> omega
      · unfold ansR
        split
        · exact r0
        · split
          · exact ⟨Int.le_refl _, by show n.term ≤ n.term + 0; omega, (advG_in (ackN n m) hc _).1, fun _ _ => rfl, rfl, rfl, rfl, fun h => h⟩
          · exact ⟨Int.le_refl _, by show n.term ≤ n.term + 0; omega, Int.le_refl _, fun _ _ => rfl, rfl, rfl, rfl, fun h => h⟩
theorem ins_vo {n x : Int} (h0 : 0 ≤ x) (h1 : x ≤ n - 1) : ∀ {es : List PV} {p : Int}, p < x → voB n p es = true → hasV x es = false → voB n p (es.take (posV x es) ++ [.int .i64 x] ++ es.drop (posV x es)) = true
  | [], p, hp, _, _ => voB_int.2 ⟨⟨h0, h1⟩, hp, rfl⟩
  | e :: es, p, hp, hv, hh => by
    obtain ⟨v1, v2, v3⟩ := voB_cons.1 hv
    by_cases hl : e.I < x
    · have hh' : hasV x es = false := by
        simp only [hasV, posV, if_pos hl, nth_succ, List.length_cons, Nat.add_lt_add_iff_right] at hh
        exact hh
      have ih := ins_vo h0 h1 hl v3 hh'
      simp only [posV, if_pos hl, List.take_succ_cons, List.drop_succ_cons, List.cons_append]
      exact voB_cons.2 ⟨v1, v2, ih⟩
    · have hne : e.I ≠ x := by
        intro he
        simp [hasV, posV, if_neg hl, he] at hh
      simp only [posV, if_neg hl, List.take_zero, List.drop_zero, List.nil_append, List.cons_append]
      exact voB_int.2 ⟨⟨h0, h1⟩, hp, voB_cons.2 ⟨v1, by omega, v3⟩⟩
theorem insV_vo {n x : Int} {es : List PV} (h0 : 0 ≤ x) (h1 : x ≤ n - 1) (h : voB n (-1) es = true) : voB n (-1) (insV x es) = true := by
  unfold insV
  split
  · exact h
  · rename_i hh
    exact ins_vo h0 h1 (by omega) h (by simpa using hh)
theorem elec_F {n : ND} {m : MG} (h : NdF n) (hu : n.up = true) (hm : 1 ≤ m.term) (f0 : 0 ≤ m.frm) (f1 : m.frm < n.nodes) : NdF (elecR n m).1 := by
  have hV : NdF { n with vs := insV m.frm n.vs } :=
    ⟨h.n1, h.n5, h.i0, h.i1, h.t0, h.t1, h.en, h.l6, h.r0, h.r2, h.ur, h.c0, h.c1, h.e0, h.e1, h.w5, h.w1, h.nx, h.ms, insV_vo f0 (show m.frm ≤ n.nodes - 1 by omega) h.vo, h.nm, h.vt⟩
  unfold elecR
  split
  · exact h
  · rename_i he
    have he' : 1 ≤ n.term := by
      have : m.term = n.term := Decidable.byContradiction fun h => he (.inr (.inl h))
      omega
    split
    · exact lead_F hV he' hu
    · exact hV
theorem F_nodeB {n : ND} (h : NdF n) : nodeB n = true := by
  obtain ⟨h1, h2, h3, h4, h5, h6, h7, h8, h9, h10, h11, h12, h13, h14, h15, h16, h17, h18, h19, h20, h21, h22⟩ := h
  have k1 : inB n.nodes 1 5 = true := inB_iff.2 ⟨h1, h2⟩
  have k2 : inB n.id 0 (n.nodes - 1) = true := inB_iff.2 ⟨h3, h4⟩
  have k3 : inB n.term 0 1000 = true := inB_iff.2 ⟨h5, h6⟩
  have k4 : inB n.vote (-1) 4 = true := inB_iff.2 ⟨h22.1, h22.2.1⟩
  have k5 : leB n.log.length 60 = true := by simp [leB]; omega
  have k6 : ltB n.vote n.nodes = true := by simp [ltB]; omega
  have k7 : inB n.role 0 2 = true := inB_iff.2 ⟨h9, h10⟩
  have k8 : (n.up || n.role == 0) = true := by rcases h11 with h | h <;> simp [h]
  have k9 : inB n.com 0 n.log.length = true := inB_iff.2 ⟨h12, h13⟩
  have k10 : inB n.ela 0 1000 = true := inB_iff.2 ⟨h14, h15⟩
  have k11 : inB n.wt 5 100 = true := inB_iff.2 ⟨h16, h17⟩
  simp only [nodeB, ndB1, stB, entsB, k1, k2, k3, k4, k5, k6, k7, k8, k9, k10, k11, h7, h18, h19, h20, h21, Bool.and_true, Bool.true_and, beq_self_eq_true]

end Go.Proofs.Ytkofjkjcbljkdaa
end

section
namespace Go.Proofs.Ytkofjkjcbljkdaa
variable [LaidG]
set_option maxRecDepth 100000
set_option linter.unusedSimpArgs false

def c_sFollow : FSpec := ⟨[(.bx, .box [.int .i64, .int .i64, .int .i64, .int .i64, .int .i64, .bool, .list (.agg [.int .i64, .str]), .int .i64, .int .i64, .int .i64, .list (.int .i64), .list (.int .i64), .list (.int .i64), .list (.agg [.int .i64, .int .i64, .int .i64, .int .i64, .int .i64, .int .i64, .int .i64, .bool, .list (.agg [.int .i64, .str])])])], [], true, fun ps => ((nth (nth ps 0).A 11).L.length : Int) = (nth (nth ps 0).A 1).I ∧ ((nth (nth ps 0).A 12).L.length : Int) = (nth (nth ps 0).A 1).I ∧ 1 ≤ (nth (nth ps 0).A 1).I ∧ (nth (nth ps 0).A 1).I ≤ 5, fun _ => [],
  fun ps => [(followN (ndOf (nth ps 0).A)).rv (nth (nth ps 0).A 13).L]⟩
theorem k_sFollow : FnOk Try.prog 114 c_sFollow := by
  refine fn_mk [0, 2] [] (env_nil (tyTab_ok [])) mixed Try.func114 rfl (by decide) rfl (by decide) rfl ?_
  intro ps hT hpre W hW
  simp only [c_sFollow, TyA, Ty, Tys] at hT hpre
  obtain ⟨_, _, rfl, ⟨_, rfl, _, _, rfl, ⟨n0, rfl, hn0⟩, _, _, rfl, ⟨n1, rfl, hn1⟩, _, _, rfl, ⟨n2, rfl, hn2⟩, _, _, rfl, ⟨n3, rfl, hn3⟩, _, _, rfl, ⟨n4, rfl, hn4⟩, _, _, rfl, ⟨u, rfl⟩, _, _, rfl, ⟨es, rfl, hes, tes⟩, _, _, rfl, ⟨n5, rfl, hn5⟩, _, _, rfl, ⟨n6, rfl, hn6⟩, _, _, rfl, ⟨n7, rfl, hn7⟩, _, _, rfl, ⟨vs, rfl, hvs, tvs⟩, _, _, rfl, ⟨xs, rfl, hxs, txs⟩, _, _, rfl, ⟨ms, rfl, hms, tms⟩, _, _, rfl, ⟨out, rfl, hout, tout⟩, rfl⟩, rfl⟩ := hT
  simp only [nth_zero, nth_succ, pv_I, pv_L, pv_A] at hpre
  obtain ⟨p1, p2, p3, p4⟩ := hpre
  refine hW.vc [] _ _ ?_
  simp [-List.getD_eq_getElem?_getD, c_sFollow, ndOf, ND.rv, followN]
  refine hW.loopS _ _ _ [.bx 0 [.int .i64, .int .i64, .int .i64, .int .i64, .int .i64, .bool, .list (.agg [.int .i64, .str]), .int .i64, .int .i64, .int .i64, .list (.int .i64), .list (.int .i64), .list (.int .i64), .list (.agg [.int .i64, .int .i64, .int .i64, .int .i64, .int .i64, .int .i64, .int .i64, .bool, .list (.agg [.int .i64, .str])])], .sl 2 .dp (.int .i64)] (fun ys => ∃ i : Nat, ys = [.agg [.int .i64 n0, .int .i64 n1, .int .i64 n2, .int .i64 n3, .int .i64 0, .bool u, .list es, .int .i64 n5, .int .i64 n6, .int .i64 n7, .list [], .list (List.replicate i (.int .i64 1) ++ xs.drop i), .list (List.replicate i (.int .i64 0) ++ ms.drop i), .list out], .int .i64 i] ∧ (i : Int) ≤ n1) (fun ys => n1.toNat - (nth ys 1).I.toNat) ?_ ?_
  · simp [-List.getD_eq_getElem?_getD, c_sFollow]
    exact ⟨0, ⟨⟨by simp, by simp⟩, rfl⟩, by omega⟩
  · rintro ys ⟨i, rfl, g1⟩
    refine hW.vc [] _ _ ?_
    simp [-List.getD_eq_getElem?_getD, c_sFollow, ndOf, ND.rv, followN]
    rw [wrap64 (n := (i : Int) + 1) (by omega)]
    refine ⟨fun g2 => ⟨by omega, by omega, by omega, by omega, ⟨i + 1, ⟨⟨rep_set (by omega), rep_set (by omega)⟩, rfl⟩, by omega⟩, by omega⟩, fun g2 => ?_⟩
    have hi : i = n1.toNat := by omega
    have d1 : xs.drop i = [] := List.drop_eq_nil_of_le (by omega)
    have d2 : ms.drop i = [] := List.drop_eq_nil_of_le (by omega)
    rw [d1, d2, List.append_nil, List.append_nil, hi]
    exact ⟨rfl, rfl⟩

def c_sUpToDate : FSpec := ⟨[(.rd, .agg [.int .i64, .int .i64, .int .i64, .int .i64, .int .i64, .bool, .list (.agg [.int .i64, .str]), .int .i64, .int .i64, .int .i64, .list (.int .i64), .list (.int .i64), .list (.int .i64)]), (.rd, .int .i64), (.rd, .int .i64)], [.bool], true, fun ps => (nth (nth ps 0).A 6).L.length ≤ 1048576, fun ps => [.bool (upB1 (nth (nth ps 0).A 6).L (nth ps 1).I (nth ps 2).I)], fun _ => []⟩
theorem k_sUpToDate : FnOk Try.prog 137 c_sUpToDate := by
  refine fn_mk [0, 1, 2, 3, 6, 7] [.tmp 6] (env_cons (cs := []) k_l08Term (env_nil (tyTab_ok []))) mixed Try.func137 rfl (by decide) rfl (by decide) rfl ?_
  intro ps hT hpre W hW
  simp only [c_sUpToDate, TyA, Ty, Tys] at hT hpre
  obtain ⟨_, _, rfl, ⟨_, rfl, _, _, rfl, ⟨n0, rfl, hn0⟩, _, _, rfl, ⟨n1, rfl, hn1⟩, _, _, rfl, ⟨n2, rfl, hn2⟩, _, _, rfl, ⟨n3, rfl, hn3⟩, _, _, rfl, ⟨n4, rfl, hn4⟩, _, _, rfl, ⟨u, rfl⟩, _, _, rfl, ⟨es, rfl, hes, tes⟩, _, _, rfl, ⟨n5, rfl, hn5⟩, _, _, rfl, ⟨n6, rfl, hn6⟩, _, _, rfl, ⟨n7, rfl, hn7⟩, _, _, rfl, ⟨vs, rfl, hvs, tvs⟩, _, _, rfl, ⟨xs, rfl, hxs, txs⟩, _, _, rfl, ⟨ms, rfl, hms, tms⟩, rfl⟩, _, _, rfl, ⟨x, rfl, hx⟩, _, _, rfl, ⟨t, rfl, ht⟩, rfl⟩ := hT
  simp only [nth_zero, nth_succ, pv_I, pv_L, pv_A] at hpre
  refine hW.vc [] _ _ ?_
  simp [-List.getD_eq_getElem?_getD, c_sUpToDate, c_l08Term]
  exact fun _ _ => ⟨fun a => ⟨a, fun b => ⟨a, b⟩⟩, rfl⟩

def c_vote : FSpec := ⟨[(.bx, .box [.int .i64, .int .i64, .int .i64, .int .i64, .int .i64, .bool, .list (.agg [.int .i64, .str]), .int .i64, .int .i64, .int .i64, .list (.int .i64), .list (.int .i64), .list (.int .i64), .list (.agg [.int .i64, .int .i64, .int .i64, .int .i64, .int .i64, .int .i64, .int .i64, .bool, .list (.agg [.int .i64, .str])])]), (.rd, .agg [.int .i64, .int .i64, .int .i64, .int .i64, .int .i64, .int .i64, .int .i64, .bool, .list (.agg [.int .i64, .str])])], [], true, fun ps => (nth (nth ps 0).A 13).L.length ≤ 900 ∧ (nth (nth ps 0).A 6).L.length ≤ 1024, fun _ => [],
  fun ps => [(votN (ndOf (nth ps 0).A) (mgOf (nth ps 1).A)).rv ((nth (nth ps 0).A 13).L ++ [votM (ndOf (nth ps 0).A) (mgOf (nth ps 1).A)])]⟩
theorem k_vote : FnOk Try.prog 115 c_vote := by
  refine fn_mk [0, 1, 3, 4] [] (env_cons (cs := []) k_send (env_cons (cs := []) k_sUpToDate (env_nil (tyTab_ok [])))) mixed Try.func115 rfl (by decide) rfl (by decide) rfl ?_
  intro ps hT hpre W hW
  simp only [c_vote, TyA, Ty, Tys] at hT hpre
  obtain ⟨_, _, rfl, ⟨_, rfl, _, _, rfl, ⟨n0, rfl, hn0⟩, _, _, rfl, ⟨n1, rfl, hn1⟩, _, _, rfl, ⟨n2, rfl, hn2⟩, _, _, rfl, ⟨n3, rfl, hn3⟩, _, _, rfl, ⟨n4, rfl, hn4⟩, _, _, rfl, ⟨u, rfl⟩, _, _, rfl, ⟨es, rfl, hes, tes⟩, _, _, rfl, ⟨n5, rfl, hn5⟩, _, _, rfl, ⟨n6, rfl, hn6⟩, _, _, rfl, ⟨n7, rfl, hn7⟩, _, _, rfl, ⟨vs, rfl, hvs, tvs⟩, _, _, rfl, ⟨xs, rfl, hxs, txs⟩, _, _, rfl, ⟨ms, rfl, hms, tms⟩, _, _, rfl, ⟨out, rfl, hout, tout⟩, rfl⟩, _, _, rfl, ⟨_, rfl, _, _, rfl, ⟨m0, rfl, hm0⟩, _, _, rfl, ⟨m1, rfl, hm1⟩, _, _, rfl, ⟨m2, rfl, hm2⟩, _, _, rfl, ⟨m3, rfl, hm3⟩, _, _, rfl, ⟨m4, rfl, hm4⟩, _, _, rfl, ⟨m5, rfl, hm5⟩, _, _, rfl, ⟨m6, rfl, hm6⟩, _, _, rfl, ⟨m7, rfl⟩, _, _, rfl, ⟨m8, rfl, hm8, tm8⟩, rfl⟩, rfl⟩ := hT
  simp only [nth_zero, nth_succ, pv_I, pv_L, pv_A] at hpre
  refine hW.vc [(1, [], .take 0 <| .take 1 <| .take 2 <| .take 3 <| .take 4 <| .take 5 <| .take 6 <| .take 7 <| .take 8 <| .take 9 <| .take 10 <| .take 11 <| .take 12 <| .take 13 <| .take 14 <| .take 15 <| .take 16 <| .take 17 <| .take 18 <| .take 19 <| .take 20 <| .take 21 <| .take 22 <| .take 23 <| .take 24 <| .take 25 <| .take 26 <| .take 27 <| .take 28 <| .take 29 <| .take 30 <| .take 31 <| .take 32 <| .take 33 <| .take 34 <| .alt 35 (.take 36 <| .alt 37 (.done) .stop) .stop)] _ _ ?_
  simp [-List.getD_eq_getElem?_getD, c_vote, c_sUpToDate, c_send, ndOf, mgOf, ND.rv]
  obtain ⟨p1, p2⟩ := hpre
  obtain ⟨nd, hnd⟩ : ∃ nd : ND, nd = ⟨n0, n1, n2, n3, n4, u, es, n5, n6, n7, vs, xs, ms⟩ := ⟨_, rfl⟩
  obtain ⟨mg, hmg⟩ : ∃ mg : MG, mg = ⟨m0, m1, m2, m3, m4, m5, m6, m7, m8⟩ := ⟨_, rfl⟩
  rw [← hnd, ← hmg]
  have hvB : votB nd mg = (decide (m3 = n2) && (decide (n3 = -1) || decide (n3 = m1)) && upB1 es m4 m5) := by rw [hmg, hnd]; rfl
  refine ⟨by decide +kernel, fun a => ⟨a, fun b => ⟨a, b⟩⟩, fun _ _ => by omega, fun a b c => ⟨by omega, ?_⟩, fun a => ⟨by omega, ?_⟩⟩
  · have hv : votB nd mg = true := by rw [hvB]; simp [a, b, c]
    rw [votN, if_pos hv, votM, hvB, hmg, hnd]
    and_intros <;> rfl
  · have hv : ¬ votB nd mg = true := by
      rw [hvB]
      simp only [Bool.and_eq_true, Bool.or_eq_true, decide_eq_true_eq]
      intro h
      have := a h.1.1 h.1.2
      rw [this] at h
      exact absurd h.2 (by simp)
    rw [votN, if_neg hv, votM, hvB, hmg, hnd]
    and_intros <;> rfl

end Go.Proofs.Ytkofjkjcbljkdaa
end

section
namespace Go.Proofs.Ytkofjkjcbljkdaa
variable [LaidG]
set_option maxRecDepth 100000
set_option linter.unusedSimpArgs false

def c_voted : FSpec := ⟨[(.bx, .box [.int .i64, .int .i64, .int .i64, .int .i64, .int .i64, .bool, .list (.agg [.int .i64, .str]), .int .i64, .int .i64, .int .i64, .list (.int .i64), .list (.int .i64), .list (.int .i64), .list (.agg [.int .i64, .int .i64, .int .i64, .int .i64, .int .i64, .int .i64, .int .i64, .bool, .list (.agg [.int .i64, .str])])]), (.rd, .agg [.int .i64, .int .i64, .int .i64, .int .i64, .int .i64, .int .i64, .int .i64, .bool, .list (.agg [.int .i64, .str])])], [], true, fun ps => NdF (ndOf (nth ps 0).A) ∧ (nth (nth ps 0).A 13).L.length ≤ 900 ∧ 0 ≤ (nth (nth ps 1).A 1).I ∧ (nth (nth ps 1).A 1).I < 5, fun _ => [],
  fun ps => [(elecR (ndOf (nth ps 0).A) (mgOf (nth ps 1).A)).1.rv ((nth (nth ps 0).A 13).L ++ (elecR (ndOf (nth ps 0).A) (mgOf (nth ps 1).A)).2)]⟩
set_option maxHeartbeats 4000000 in
theorem k_voted : FnOk Try.prog 116 c_voted := by
  refine fn_mk [0, 1, 3, 4] [] (env_cons (cs := []) k_sLead (env_nil (tyTab_ok []))) mixed Try.func116 rfl (by decide) rfl (by decide) rfl ?_
  intro ps hT hpre W hW
  simp only [c_voted, TyA, Ty, Tys] at hT hpre
  obtain ⟨_, _, rfl, ⟨_, rfl, _, _, rfl, ⟨n0, rfl, hn0⟩, _, _, rfl, ⟨n1, rfl, hn1⟩, _, _, rfl, ⟨n2, rfl, hn2⟩, _, _, rfl, ⟨n3, rfl, hn3⟩, _, _, rfl, ⟨n4, rfl, hn4⟩, _, _, rfl, ⟨u, rfl⟩, _, _, rfl, ⟨es, rfl, hes, tes⟩, _, _, rfl, ⟨n5, rfl, hn5⟩, _, _, rfl, ⟨n6, rfl, hn6⟩, _, _, rfl, ⟨n7, rfl, hn7⟩, _, _, rfl, ⟨vs, rfl, hvs, tvs⟩, _, _, rfl, ⟨xs, rfl, hxs, txs⟩, _, _, rfl, ⟨ms, rfl, hms, tms⟩, _, _, rfl, ⟨out, rfl, hout, tout⟩, rfl⟩, _, _, rfl, ⟨_, rfl, _, _, rfl, ⟨m0, rfl, hm0⟩, _, _, rfl, ⟨m1, rfl, hm1⟩, _, _, rfl, ⟨m2, rfl, hm2⟩, _, _, rfl, ⟨m3, rfl, hm3⟩, _, _, rfl, ⟨m4, rfl, hm4⟩, _, _, rfl, ⟨m5, rfl, hm5⟩, _, _, rfl, ⟨m6, rfl, hm6⟩, _, _, rfl, ⟨m7, rfl⟩, _, _, rfl, ⟨m8, rfl, hm8, tm8⟩, rfl⟩, rfl⟩ := hT
  simp only [nth_zero, nth_succ, pv_I, pv_L, pv_A] at hpre
  refine hW.vc [(1, [], .take 0 <| .take 1 <| .take 2 <| .take 3 <| .take 4 <| .take 5 <| .take 6 <| .take 7 <| .take 8 <| .take 9 <| .take 10 <| .take 11 <| .take 12 <| .take 13 <| .take 14 <| .take 15 <| .take 16 <| .take 17 <| .take 18 <| .take 19 <| .take 20 <| .done), (3, [], .take 0 <| .take 1 <| .take 2 <| .take 3 <| .take 4 <| .take 5 <| .take 6 <| .take 7 <| .take 8 <| .take 9 <| .take 10 <| .take 11 <| .take 12 <| .take 13 <| .take 14 <| .take 15 <| .take 16 <| .take 17 <| .take 18 <| .take 19 <| .take 20 <| .done), (5, [], .take 0 <| .take 1 <| .take 2 <| .take 3 <| .take 4 <| .take 5 <| .take 6 <| .take 7 <| .take 8 <| .take 9 <| .take 10 <| .take 11 <| .take 12 <| .take 13 <| .take 14 <| .take 15 <| .take 16 <| .take 17 <| .take 18 <| .take 19 <| .take 20 <| .done), (6, [9, 13, 21, 25], .take 0 <| .take 2 <| .take 3 <| .take 4 <| .take 5 <| .take 6 <| .take 7 <| .take 8 <| .take 10 <| .take 14 <| .take 15 <| .take 16 <| .take 17 <| .take 19 <| .alt 1 (.alt 9 (.take 11 <| .alt 12 (.alt 13 (.take 18 <| .take 20 <| .alt 21 (.take 22 <| .take 23 <| .take 24 <| .alt 25 (.done) .stop) .stop) (.alt 18 (.take 20 <| .alt 13 (.alt 21 (.take 22 <| .take 23 <| .take 24 <| .alt 25 (.done) .stop) .stop) .stop) .stop)) (.alt 18 (.take 20 <| .alt 12 (.alt 13 (.alt 21 (.take 22 <| .take 23 <| .take 24 <| .alt 25 (.done) .stop) .stop) .stop) .stop) .stop)) (.alt 11 (.alt 9 (.alt 12 (.alt 13 (.take 18 <| .take 20 <| .alt 21 (.take 22 <| .take 23 <| .take 24 <| .alt 25 (.done) .stop) .stop) (.alt 18 (.take 20 <| .alt 13 (.alt 21 (.take 22 <| .take 23 <| .take 24 <| .alt 25 (.done) .stop) .stop) .stop) .stop)) (.alt 18 (.take 20 <| .alt 12 (.alt 13 (.alt 21 (.take 22 <| .take 23 <| .take 24 <| .alt 25 (.done) .stop) .stop) .stop) .stop) .stop)) (.alt 12 (.alt 9 (.alt 13 (.take 18 <| .take 20 <| .alt 21 (.take 22 <| .take 23 <| .take 24 <| .alt 25 (.done) .stop) .stop) (.alt 18 (.take 20 <| .alt 13 (.alt 21 (.take 22 <| .take 23 <| .take 24 <| .alt 25 (.done) .stop) .stop) .stop) .stop)) (.alt 18 (.take 20 <| .alt 9 (.alt 13 (.alt 21 (.take 22 <| .take 23 <| .take 24 <| .alt 25 (.done) .stop) .stop) .stop) .stop) .stop)) (.alt 18 (.take 20 <| .alt 9 (.alt 12 (.alt 13 (.alt 21 (.take 22 <| .take 23 <| .take 24 <| .alt 25 (.done) .stop) .stop) .stop) .stop) (.alt 12 (.alt 9 (.alt 13 (.alt 21 (.take 22 <| .take 23 <| .take 24 <| .alt 25 (.done) .stop) .stop) .stop) .stop) .stop)) .stop))) (.alt 18 (.take 20 <| .alt 9 (.take 11 <| .alt 12 (.alt 13 (.alt 21 (.take 22 <| .take 23 <| .take 24 <| .alt 25 (.done) .stop) .stop) .stop) .stop) (.alt 11 (.alt 9 (.alt 12 (.alt 13 (.alt 21 (.take 22 <| .take 23 <| .take 24 <| .alt 25 (.done) .stop) .stop) .stop) .stop) (.alt 12 (.alt 9 (.alt 13 (.alt 21 (.take 22 <| .take 23 <| .take 24 <| .alt 25 (.done) .stop) .stop) .stop) .stop) .stop)) .stop)) .stop))) (.alt 11 (.alt 1 (.alt 9 (.alt 12 (.alt 13 (.take 18 <| .take 20 <| .alt 21 (.take 22 <| .take 23 <| .take 24 <| .alt 25 (.done) .stop) .stop) (.alt 18 (.take 20 <| .alt 13 (.alt 21 (.take 22 <| .take 23 <| .take 24 <| .alt 25 (.done) .stop) .stop) .stop) .stop)) (.alt 18 (.take 20 <| .alt 12 (.alt 13 (.alt 21 (.take 22 <| .take 23 <| .take 24 <| .alt 25 (.done) .stop) .stop) .stop) .stop) .stop)) (.alt 12 (.alt 9 (.alt 13 (.take 18 <| .take 20 <| .alt 21 (.take 22 <| .take 23 <| .take 24 <| .alt 25 (.done) .stop) .stop) (.alt 18 (.take 20 <| .alt 13 (.alt 21 (.take 22 <| .take 23 <| .take 24 <| .alt 25 (.done) .stop) .stop) .stop) .stop)) (.alt 18 (.take 20 <| .alt 9 (.alt 13 (.alt 21 (.take 22 <| .take 23 <| .take 24 <| .alt 25 (.done) .stop) .stop) .stop) .stop) .stop)) (.alt 18 (.take 20 <| .alt 9 (.alt 12 (.alt 13 (.alt 21 (.take 22 <| .take 23 <| .take 24 <| .alt 25 (.done) .stop) .stop) .stop) .stop) (.alt 12 (.alt 9 (.alt 13 (.alt 21 (.take 22 <| .take 23 <| .take 24 <| .alt 25 (.done) .stop) .stop) .stop) .stop) .stop)) .stop))) (.alt 12 (.alt 1 (.alt 9 (.alt 13 (.take 18 <| .take 20 <| .alt 21 (.take 22 <| .take 23 <| .take 24 <| .alt 25 (.done) .stop) .stop) (.alt 18 (.take 20 <| .alt 13 (.alt 21 (.take 22 <| .take 23 <| .take 24 <| .alt 25 (.done) .stop) .stop) .stop) .stop)) (.alt 18 (.take 20 <| .alt 9 (.alt 13 (.alt 21 (.take 22 <| .take 23 <| .take 24 <| .alt 25 (.done) .stop) .stop) .stop) .stop) .stop)) (.alt 18 (.take 20 <| .alt 1 (.alt 9 (.alt 13 (.alt 21 (.take 22 <| .take 23 <| .take 24 <| .alt 25 (.done) .stop) .stop) .stop) .stop) .stop) .stop)) (.alt 18 (.take 20 <| .alt 1 (.alt 9 (.alt 12 (.alt 13 (.alt 21 (.take 22 <| .take 23 <| .take 24 <| .alt 25 (.done) .stop) .stop) .stop) .stop) (.alt 12 (.alt 9 (.alt 13 (.alt 21 (.take 22 <| .take 23 <| .take 24 <| .alt 25 (.done) .stop) .stop) .stop) .stop) .stop)) (.alt 12 (.alt 1 (.alt 9 (.alt 13 (.alt 21 (.take 22 <| .take 23 <| .take 24 <| .alt 25 (.done) .stop) .stop) .stop) .stop) .stop) .stop)) .stop))) (.alt 18 (.take 20 <| .alt 1 (.alt 9 (.take 11 <| .alt 12 (.alt 13 (.alt 21 (.take 22 <| .take 23 <| .take 24 <| .alt 25 (.done) .stop) .stop) .stop) .stop) (.alt 11 (.alt 9 (.alt 12 (.alt 13 (.alt 21 (.take 22 <| .take 23 <| .take 24 <| .alt 25 (.done) .stop) .stop) .stop) .stop) (.alt 12 (.alt 9 (.alt 13 (.alt 21 (.take 22 <| .take 23 <| .take 24 <| .alt 25 (.done) .stop) .stop) .stop) .stop) .stop)) .stop)) (.alt 11 (.alt 1 (.alt 9 (.alt 12 (.alt 13 (.alt 21 (.take 22 <| .take 23 <| .take 24 <| .alt 25 (.done) .stop) .stop) .stop) .stop) (.alt 12 (.alt 9 (.alt 13 (.alt 21 (.take 22 <| .take 23 <| .take 24 <| .alt 25 (.done) .stop) .stop) .stop) .stop) .stop)) (.alt 12 (.alt 1 (.alt 9 (.alt 13 (.alt 21 (.take 22 <| .take 23 <| .take 24 <| .alt 25 (.done) .stop) .stop) .stop) .stop) .stop) .stop)) .stop)) .stop))), (7, [], .take 0 <| .take 1 <| .take 2 <| .take 3 <| .take 4 <| .take 5 <| .take 6 <| .take 7 <| .take 8 <| .take 9 <| .take 10 <| .take 11 <| .take 12 <| .done)] _ _ ?_
  simp [-List.getD_eq_getElem?_getD, c_voted, c_sLead, ndOf, mgOf, ND.rv]
  obtain ⟨hF, p1, p2, p3⟩ := hpre
  have hn1' : 1 ≤ n1 := hF.n1
  have vl := vo_len' (n := n1) (es := vs) (p := -1) hF.vo (by omega)
  have hn5 : n1 ≤ 5 := hF.n5
  have l6 : es.length ≤ 60 := hF.l6
  obtain ⟨nd, hnd⟩ : ∃ nd : ND, nd = ⟨n0, n1, n2, n3, n4, u, es, n5, n6, n7, vs, xs, ms⟩ := ⟨_, rfl⟩
  obtain ⟨mg, hmg⟩ : ∃ mg : MG, mg = ⟨m0, m1, m2, m3, m4, m5, m6, m7, m8⟩ := ⟨_, rfl⟩
  rw [← hnd, ← hmg]
  refine ⟨by decide +kernel, fun h => ?_, fun r t o => ?_⟩
  · have e : elecR nd mg = (nd, []) := by
      rw [elecR, if_pos]
      rw [hmg, hnd]
      rcases h with (h | h) | h
      · exact .inl h
      · exact .inr (.inl h)
      · exact .inr (.inr h)
    rw [e, hnd]
    and_intros <;> rfl
  have hE1 : elecR nd mg = if nd.nodes < 2 * (insV m1 vs).length then (leadA { nd with vs := insV m1 vs }, repAll (leadA { nd with vs := insV m1 vs }) nd.nodes.toNat) else ({ nd with vs := insV m1 vs }, []) := by
    rw [elecR, if_neg (by rw [hmg, hnd]; simp [r, t, o]), hmg, hnd]
  have pl := posV_le m1 vs
  refine hW.loopS _ _ _ [.sl 4 .dp (.int .i64)] (fun ys => ∃ k : Nat, ys = [.int .i64 k] ∧ k ≤ vs.length ∧ posV m1 vs = k + posV m1 (vs.drop k)) (fun ys => vs.length - (nth ys 0).I.toNat) ?_ ?_
  · simp [-List.getD_eq_getElem?_getD, c_voted, c_sLead]
    exact ⟨0, rfl, by omega, by simp⟩
  · rintro ys ⟨k, rfl, g1, g2⟩
    refine hW.vc [(1, [], .take 0 <| .take 1 <| .take 2 <| .take 3 <| .take 4 <| .take 5 <| .take 6 <| .take 7 <| .take 8 <| .take 9 <| .take 10 <| .take 11 <| .take 12 <| .take 13 <| .take 14 <| .take 15 <| .take 16 <| .take 17 <| .take 18 <| .take 19 <| .take 20 <| .done), (3, [], .take 0 <| .take 1 <| .take 2 <| .take 3 <| .take 4 <| .take 5 <| .take 6 <| .take 7 <| .take 8 <| .take 9 <| .take 10 <| .take 11 <| .take 12 <| .take 13 <| .take 14 <| .take 15 <| .take 16 <| .take 17 <| .take 18 <| .take 19 <| .take 20 <| .done), (5, [], .take 0 <| .take 1 <| .take 2 <| .take 3 <| .take 4 <| .take 5 <| .take 6 <| .take 7 <| .take 8 <| .take 9 <| .take 10 <| .take 11 <| .take 12 <| .take 13 <| .take 14 <| .take 15 <| .take 16 <| .take 17 <| .take 18 <| .take 19 <| .take 20 <| .done), (7, [], .take 0 <| .take 1 <| .take 2 <| .take 3 <| .take 4 <| .take 5 <| .take 6 <| .take 7 <| .take 8 <| .take 9 <| .take 10 <| .take 11 <| .take 12 <| .done)] _ _ ?_
    simp [-List.getD_eq_getElem?_getD, c_voted, c_sLead, ndOf, mgOf, ND.rv]
    have hv' : vs.length ≤ 140737488355328 := hvs
    refine ⟨by decide +kernel, fun _ _ => ⟨fun q1 q2 => ⟨⟨k + 1, wrap64 (by omega), by omega, ?_⟩, by rw [wrap64 (by omega)]; omega⟩, fun q1 => ⟨by decide +kernel, fun _ => ⟨fun h => ⟨h, by omega⟩, fun _ => ?_⟩⟩⟩⟩
    · rw [g2, drop_nth q1, posV, if_pos q2]; omega
    have hk : posV m1 vs = k := by
      rw [g2]
      by_cases h : k < vs.length
      · rw [drop_nth h, posV, if_neg (Int.not_lt.2 (q1 h))]; rfl
      · rw [List.drop_eq_nil_of_le (by omega), posV]; rfl
    have sl : ∀ ws, sleadOk { nd with vs := ws } := fun ws => by
      rw [hnd]; exact ⟨⟨hF.n1, hF.n5, hF.c0, hF.l6⟩, hF.nx, hF.ms, mono_of hF.en⟩
    refine ⟨fun q3 => ?_, fun q3 q4 => ⟨by decide +kernel, fun _ => ?_⟩⟩
    · have hI : insV m1 vs = vs.take k ++ (.int .i64 m1 :: vs.drop k) := by
        have : ¬ hasV m1 vs = true := by
          rw [hasV, hk]
          simp only [Bool.and_eq_true, decide_eq_true_eq]
          intro h
          rcases q3 with q3 | q3
          · omega
          · exact q3 h.2
        rw [insV, if_neg this, hk]; simp
      have hlen : (insV m1 vs).length = vs.length + 1 := by rw [hI]; simp; omega
      refine hW.cutS [_] _ _ [.bx 0 [.int .i64, .int .i64, .int .i64, .int .i64, .int .i64, .bool, .list (.agg [.int .i64, .str]), .int .i64, .int .i64, .int .i64, .list (.int .i64), .list (.int .i64), .list (.int .i64), .list (.agg [.int .i64, .int .i64, .int .i64, .int .i64, .int .i64, .int .i64, .int .i64, .bool, .list (.agg [.int .i64, .str])])]] (fun ys => ys = [({ nd with vs := insV m1 vs } : ND).rv out]) ?_ ?_
      · refine hW.vc [(6, [9, 13, 21, 25], .take 0 <| .take 2 <| .take 3 <| .take 4 <| .take 5 <| .take 6 <| .take 7 <| .take 8 <| .take 10 <| .take 14 <| .take 15 <| .take 16 <| .take 17 <| .take 19 <| .alt 1 (.alt 9 (.take 11 <| .alt 12 (.alt 13 (.take 18 <| .take 20 <| .alt 21 (.take 22 <| .take 23 <| .take 24 <| .alt 25 (.done) .stop) .stop) (.alt 18 (.take 20 <| .alt 13 (.alt 21 (.take 22 <| .take 23 <| .take 24 <| .alt 25 (.done) .stop) .stop) .stop) .stop)) (.alt 18 (.take 20 <| .alt 12 (.alt 13 (.alt 21 (.take 22 <| .take 23 <| .take 24 <| .alt 25 (.done) .stop) .stop) .stop) .stop) .stop)) (.alt 11 (.alt 9 (.alt 12 (.alt 13 (.take 18 <| .take 20 <| .alt 21 (.take 22 <| .take 23 <| .take 24 <| .alt 25 (.done) .stop) .stop) (.alt 18 (.take 20 <| .alt 13 (.alt 21 (.take 22 <| .take 23 <| .take 24 <| .alt 25 (.done) .stop) .stop) .stop) .stop)) (.alt 18 (.take 20 <| .alt 12 (.alt 13 (.alt 21 (.take 22 <| .take 23 <| .take 24 <| .alt 25 (.done) .stop) .stop) .stop) .stop) .stop)) (.alt 12 (.alt 9 (.alt 13 (.take 18 <| .take 20 <| .alt 21 (.take 22 <| .take 23 <| .take 24 <| .alt 25 (.done) .stop) .stop) (.alt 18 (.take 20 <| .alt 13 (.alt 21 (.take 22 <| .take 23 <| .take 24 <| .alt 25 (.done) .stop) .stop) .stop) .stop)) (.alt 18 (.take 20 <| .alt 9 (.alt 13 (.alt 21 (.take 22 <| .take 23 <| .take 24 <| .alt 25 (.done) .stop) .stop) .stop) .stop) .stop)) (.alt 18 (.take 20 <| .alt 9 (.alt 12 (.alt 13 (.alt 21 (.take 22 <| .take 23 <| .take 24 <| .alt 25 (.done) .stop) .stop) .stop) .stop) (.alt 12 (.alt 9 (.alt 13 (.alt 21 (.take 22 <| .take 23 <| .take 24 <| .alt 25 (.done) .stop) .stop) .stop) .stop) .stop)) .stop))) (.alt 18 (.take 20 <| .alt 9 (.take 11 <| .alt 12 (.alt 13 (.alt 21 (.take 22 <| .take 23 <| .take 24 <| .alt 25 (.done) .stop) .stop) .stop) .stop) (.alt 11 (.alt 9 (.alt 12 (.alt 13 (.alt 21 (.take 22 <| .take 23 <| .take 24 <| .alt 25 (.done) .stop) .stop) .stop) .stop) (.alt 12 (.alt 9 (.alt 13 (.alt 21 (.take 22 <| .take 23 <| .take 24 <| .alt 25 (.done) .stop) .stop) .stop) .stop) .stop)) .stop)) .stop))) (.alt 11 (.alt 1 (.alt 9 (.alt 12 (.alt 13 (.take 18 <| .take 20 <| .alt 21 (.take 22 <| .take 23 <| .take 24 <| .alt 25 (.done) .stop) .stop) (.alt 18 (.take 20 <| .alt 13 (.alt 21 (.take 22 <| .take 23 <| .take 24 <| .alt 25 (.done) .stop) .stop) .stop) .stop)) (.alt 18 (.take 20 <| .alt 12 (.alt 13 (.alt 21 (.take 22 <| .take 23 <| .take 24 <| .alt 25 (.done) .stop) .stop) .stop) .stop) .stop)) (.alt 12 (.alt 9 (.alt 13 (.take 18 <| .take 20 <| .alt 21 (.take 22 <| .take 23 <| .take 24 <| .alt 25 (.done) .stop) .stop) (.alt 18 (.take 20 <| .alt 13 (.alt 21 (.take 22 <| .take 23 <| .take 24 <| .alt 25 (.done) .stop) .stop) .stop) .stop)) (.alt 18 (.take 20 <| .alt 9 (.alt 13 (.alt 21 (.take 22 <| .take 23 <| .take 24 <| .alt 25 (.done) .stop) .stop) .stop) .stop) .stop)) (.alt 18 (.take 20 <| .alt 9 (.alt 12 (.alt 13 (.alt 21 (.take 22 <| .take 23 <| .take 24 <| .alt 25 (.done) .stop) .stop) .stop) .stop) (.alt 12 (.alt 9 (.alt 13 (.alt 21 (.take 22 <| .take 23 <| .take 24 <| .alt 25 (.done) .stop) .stop) .stop) .stop) .stop)) .stop))) (.alt 12 (.alt 1 (.alt 9 (.alt 13 (.take 18 <| .take 20 <| .alt 21 (.take 22 <| .take 23 <| .take 24 <| .alt 25 (.done) .stop) .stop) (.alt 18 (.take 20 <| .alt 13 (.alt 21 (.take 22 <| .take 23 <| .take 24 <| .alt 25 (.done) .stop) .stop) .stop) .stop)) (.alt 18 (.take 20 <| .alt 9 (.alt 13 (.alt 21 (.take 22 <| .take 23 <| .take 24 <| .alt 25 (.done) .stop) .stop) .stop) .stop) .stop)) (.alt 18 (.take 20 <| .alt 1 (.alt 9 (.alt 13 (.alt 21 (.take 22 <| .take 23 <| .take 24 <| .alt 25 (.done) .stop) .stop) .stop) .stop) .stop) .stop)) (.alt 18 (.take 20 <| .alt 1 (.alt 9 (.alt 12 (.alt 13 (.alt 21 (.take 22 <| .take 23 <| .take 24 <| .alt 25 (.done) .stop) .stop) .stop) .stop) (.alt 12 (.alt 9 (.alt 13 (.alt 21 (.take 22 <| .take 23 <| .take 24 <| .alt 25 (.done) .stop) .stop) .stop) .stop) .stop)) (.alt 12 (.alt 1 (.alt 9 (.alt 13 (.alt 21 (.take 22 <| .take 23 <| .take 24 <| .alt 25 (.done) .stop) .stop) .stop) .stop) .stop) .stop)) .stop))) (.alt 18 (.take 20 <| .alt 1 (.alt 9 (.take 11 <| .alt 12 (.alt 13 (.alt 21 (.take 22 <| .take 23 <| .take 24 <| .alt 25 (.done) .stop) .stop) .stop) .stop) (.alt 11 (.alt 9 (.alt 12 (.alt 13 (.alt 21 (.take 22 <| .take 23 <| .take 24 <| .alt 25 (.done) .stop) .stop) .stop) .stop) (.alt 12 (.alt 9 (.alt 13 (.alt 21 (.take 22 <| .take 23 <| .take 24 <| .alt 25 (.done) .stop) .stop) .stop) .stop) .stop)) .stop)) (.alt 11 (.alt 1 (.alt 9 (.alt 12 (.alt 13 (.alt 21 (.take 22 <| .take 23 <| .take 24 <| .alt 25 (.done) .stop) .stop) .stop) .stop) (.alt 12 (.alt 9 (.alt 13 (.alt 21 (.take 22 <| .take 23 <| .take 24 <| .alt 25 (.done) .stop) .stop) .stop) .stop) .stop)) (.alt 12 (.alt 1 (.alt 9 (.alt 13 (.alt 21 (.take 22 <| .take 23 <| .take 24 <| .alt 25 (.done) .stop) .stop) .stop) .stop) .stop) .stop)) .stop)) .stop)))] _ _ ?_
        simp [-List.getD_eq_getElem?_getD, c_voted, c_sLead, ndOf, ND.rv]
        have ht : List.take (vs.length - k) (List.drop k vs) = List.drop k vs := List.take_of_length_le (by simp)
        rw [ht, hI, hnd]
        repeat' (first | apply And.intro | intro _)
        all_goals first | rfl | omega | assumption | decide +kernel
      · rintro ys rfl
        refine hW.vc [(7, [], .take 0 <| .take 1 <| .take 2 <| .take 3 <| .take 4 <| .take 5 <| .take 6 <| .take 7 <| .take 8 <| .take 9 <| .take 10 <| .take 11 <| .take 12 <| .done)] _ _ ?_
        simp [-List.getD_eq_getElem?_getD, c_voted, c_sLead, ndOf, mgOf, ND.rv]
        rw [← hnd, ← hmg, wrap64 (n := 2 * _) (by omega), hE1]
        refine ⟨by decide +kernel, fun _ => ⟨fun h => ?_, fun h => ?_⟩⟩
        · rw [if_pos h]
          exact ⟨⟨sl _, by omega⟩, by and_intros <;> rfl⟩
        · rw [if_neg (by omega)]
          and_intros <;> rfl
    · have hI : insV m1 vs = vs := by
        rw [insV, if_pos]
        rw [hasV, hk]
        simp only [Bool.and_eq_true, decide_eq_true_eq]
        exact ⟨by omega, q4⟩
      rw [hI] at hE1
      have e1 : ({ nd with vs := vs } : ND) = nd := by rw [hnd]
      rw [e1] at hE1
      have e2 : nd.nodes = n1 := by rw [hnd]
      rw [wrap64 (n := 2 * _) (by omega), ← hnd, ← hmg, hE1, e2]
      refine ⟨fun h => ?_, fun h => ?_⟩
      · rw [if_pos h]
        exact ⟨⟨by have := sl vs; rw [e1] at this; exact this, by omega⟩, by and_intros <;> rfl⟩
      · rw [if_neg (by omega), hnd]
        and_intros <;> rfl

end Go.Proofs.Ytkofjkjcbljkdaa
end

section
namespace Go.Proofs.Ytkofjkjcbljkdaa
variable [LaidG]
set_option maxRecDepth 100000
set_option linter.unusedSimpArgs false

def c_sEntries : FSpec := ⟨[(.bx, .box [.int .i64, .int .i64, .int .i64, .int .i64, .int .i64, .bool, .list (.agg [.int .i64, .str]), .int .i64, .int .i64, .int .i64, .list (.int .i64), .list (.int .i64), .list (.int .i64), .list (.agg [.int .i64, .int .i64, .int .i64, .int .i64, .int .i64, .int .i64, .int .i64, .bool, .list (.agg [.int .i64, .str])])]), (.rd, .agg [.int .i64, .int .i64, .int .i64, .int .i64, .int .i64, .int .i64, .int .i64, .bool, .list (.agg [.int .i64, .str])])], [], true, fun ps => NdF (ndOf (nth ps 0).A) ∧ (nth (nth ps 0).A 13).L.length ≤ 900 ∧ MgF (ndOf (nth ps 0).A) (mgOf (nth ps 1).A) ∧ (nth (nth ps 1).A 3).I ≤ (nth (nth ps 0).A 2).I, fun _ => [],
  fun ps => [(takeR (ndOf (nth ps 0).A) (mgOf (nth ps 1).A)).1.rv ((nth (nth ps 0).A 13).L ++ [takeM (ndOf (nth ps 0).A) (mgOf (nth ps 1).A) (takeR (ndOf (nth ps 0).A) (mgOf (nth ps 1).A)).2.1 (takeR (ndOf (nth ps 0).A) (mgOf (nth ps 1).A)).2.2])]⟩
set_option maxHeartbeats 4000000 in
theorem k_sEntries : FnOk Try.prog 117 c_sEntries := by
  refine fn_mk [0, 1, 3, 4, 5, 6, 7] [] (env_cons (cs := []) k_l08Term (env_cons (cs := []) k_sFollow (env_cons (cs := []) k_send (env_nil (tyTab_ok []))))) mixed Try.func117 rfl (by decide) rfl (by decide) rfl ?_
  intro ps hT hpre W hW
  simp only [c_sEntries, TyA, Ty, Tys] at hT hpre
  obtain ⟨_, _, rfl, ⟨_, rfl, _, _, rfl, ⟨n0, rfl, hn0⟩, _, _, rfl, ⟨n1, rfl, hn1⟩, _, _, rfl, ⟨n2, rfl, hn2⟩, _, _, rfl, ⟨n3, rfl, hn3⟩, _, _, rfl, ⟨n4, rfl, hn4⟩, _, _, rfl, ⟨u, rfl⟩, _, _, rfl, ⟨es, rfl, hes, tes⟩, _, _, rfl, ⟨n5, rfl, hn5⟩, _, _, rfl, ⟨n6, rfl, hn6⟩, _, _, rfl, ⟨n7, rfl, hn7⟩, _, _, rfl, ⟨vs, rfl, hvs, tvs⟩, _, _, rfl, ⟨xs, rfl, hxs, txs⟩, _, _, rfl, ⟨ms, rfl, hms, tms⟩, _, _, rfl, ⟨out, rfl, hout, tout⟩, rfl⟩, _, _, rfl, ⟨_, rfl, _, _, rfl, ⟨m0, rfl, hm0⟩, _, _, rfl, ⟨m1, rfl, hm1⟩, _, _, rfl, ⟨m2, rfl, hm2⟩, _, _, rfl, ⟨m3, rfl, hm3⟩, _, _, rfl, ⟨m4, rfl, hm4⟩, _, _, rfl, ⟨m5, rfl, hm5⟩, _, _, rfl, ⟨m6, rfl, hm6⟩, _, _, rfl, ⟨m7, rfl⟩, _, _, rfl, ⟨m8, rfl, hm8, tm8⟩, rfl⟩, rfl⟩ := hT
  simp only [nth_zero, nth_succ, pv_I, pv_L, pv_A] at hpre
  refine hW.vc [(1, [15], .take 0 <| .take 1 <| .take 2 <| .take 3 <| .take 4 <| .take 5 <| .take 6 <| .take 7 <| .take 8 <| .take 9 <| .take 10 <| .take 11 <| .take 12 <| .take 13 <| .alt 14 (.alt 15 (.done) .stop) .stop), (2, [], .take 0 <| .take 1 <| .take 2 <| .take 3 <| .take 4 <| .take 5 <| .take 6 <| .take 7 <| .done), (6, [], .take 0 <| .take 1 <| .take 2 <| .take 3 <| .take 4 <| .take 5 <| .take 6 <| .take 7 <| .take 8 <| .take 9 <| .take 10 <| .take 11 <| .take 12 <| .take 13 <| .take 14 <| .take 15 <| .take 17 <| .take 18 <| .alt 16 (.take 19 <| .take 20 <| .done) .stop), (12, [], .take 0 <| .take 1 <| .take 2 <| .take 3 <| .take 4 <| .take 5 <| .take 6 <| .take 7 <| .take 8 <| .take 9 <| .take 10 <| .take 11 <| .take 12 <| .take 13 <| .take 14 <| .take 15 <| .take 16 <| .take 17 <| .take 18 <| .take 19 <| .take 20 <| .take 21 <| .take 22 <| .take 23 <| .take 24 <| .take 25 <| .done), (13, [9, 14, 18], .take 0 <| .take 2 <| .take 3 <| .take 4 <| .take 5 <| .take 6 <| .take 7 <| .take 8 <| .take 10 <| .take 12 <| .alt 1 (.alt 9 (.take 11 <| .take 13 <| .alt 14 (.take 15 <| .take 16 <| .take 17 <| .alt 18 (.done) .stop) .stop) (.alt 11 (.take 13 <| .alt 9 (.alt 14 (.take 15 <| .take 16 <| .take 17 <| .alt 18 (.done) .stop) .stop) .stop) .stop)) (.alt 11 (.take 13 <| .alt 1 (.alt 9 (.alt 14 (.take 15 <| .take 16 <| .take 17 <| .alt 18 (.done) .stop) .stop) .stop) .stop) .stop)), (15, [14], .take 0 <| .take 1 <| .take 2 <| .take 3 <| .take 4 <| .take 5 <| .take 6 <| .take 7 <| .take 8 <| .take 9 <| .take 10 <| .take 11 <| .take 12 <| .take 13 <| .alt 14 (.done) .stop)] _ _ ?_
  simp [-List.getD_eq_getElem?_getD, c_sEntries, c_send, c_sFollow, c_l08Term, ndOf, mgOf, ND.rv]
  obtain ⟨hF, p1, hM, p2⟩ := hpre
  obtain ⟨nd, hnd⟩ : ∃ nd : ND, nd = ⟨n0, n1, n2, n3, n4, u, es, n5, n6, n7, vs, xs, ms⟩ := ⟨_, rfl⟩
  obtain ⟨mg, hmg⟩ : ∃ mg : MG, mg = ⟨m0, m1, m2, m3, m4, m5, m6, m7, m8⟩ := ⟨_, rfl⟩
  have l6 : es.length ≤ 60 := hF.l6
  have hx : (xs.length : Int) = n1 := hF.nx
  have hm : (ms.length : Int) = n1 := hF.ms
  have h1 : 1 ≤ n1 := hF.n1
  have h5 : n1 ≤ 5 := hF.n5
  have i0 : 0 ≤ m4 := hM.i0
  have i6 : m4 ≤ 60 := hM.i6
  have e6 : m8.length ≤ 60 := hM.es
  have k1 : IntKind.i64.wrap (m4 - 1) = m4 - 1 := wrap64 (by omega)
  have kI : (if (if 0 < m4 - 1 then m4 - 1 else 0) < (es.length : Int) then if 0 < m4 - 1 then m4 - 1 else 0 else (es.length : Int)) = mxI 0 (mnI es.length (m4 - 1)) := by
    unfold mxI mnI
    repeat' split
    all_goals omega
  have hno : ((m3 < n2 ∨ (es.length : Int) < m4) ∨ ¬ tmAt es m4 = m5) → takeR nd mg = (takeF nd mg, mxI 0 (mnI es.length (m4 - 1)), false) := fun h => by
    rw [takeR_no (by rw [hnd, hmg]; exact h), hnd, hmg]
  have hF1 : m3 = n2 → takeF nd mg = ⟨n0, n1, n2, n3, 0, u, es, n5, 0, n7, [], List.replicate n1.toNat (.int .i64 1), List.replicate n1.toNat (.int .i64 0)⟩ := fun h => by
    rw [hnd, hmg, takeF, if_pos h]; rfl
  have hF2 : ¬ m3 = n2 → takeF nd mg = ⟨n0, n1, n2, n3, n4, u, es, n5, n6, n7, vs, xs, ms⟩ := fun h => by
    rw [hnd, hmg, takeF, if_neg h]
  have hfo : followN nd = ⟨n0, n1, n2, n3, 0, u, es, n5, n6, n7, [], List.replicate n1.toNat (.int .i64 1), List.replicate n1.toNat (.int .i64 0)⟩ := by rw [hnd]; rfl
  rw [k1, kI, ← hnd, ← hmg, hfo]
  refine ⟨by decide +kernel, fun _ => ⟨by decide +kernel, fun q => ?_, fun q => ⟨⟨hx, hm, h1, h5⟩, by decide +kernel, fun _ => ⟨fun q1 => ⟨i0, q1⟩, fun q1 => ?_, fun q1 q2 => ?_⟩⟩⟩⟩
  · rw [hno (.inl (.inl q)), hF2 (by omega), takeM, hnd, hmg]
    repeat' (first | apply And.intro | intro _)
    all_goals first | rfl | omega | assumption | decide +kernel
  · rw [hno (q1.elim (fun h => .inl (.inr h)) .inr), hF1 (by omega), takeM, hnd, hmg]
    repeat' (first | apply And.intro | intro _)
    all_goals first | rfl | omega | assumption | decide +kernel
  have hT : takeR nd mg = (takeE (takeF nd mg) mg, m4 + m8.length, true) := by
    rw [takeR_yes (by rw [hnd, hmg]; exact q) (by rw [hnd, hmg]; exact q1) (by rw [hnd, hmg]; exact q2), hmg]
  rw [hF1 (by omega), hmg] at hT
  simp only [takeE] at hT
  rw [← hmg] at hT
  refine hW.loopS _ _ _ [.sl 5 .dp (.int .i64)] (fun ys => ∃ i : Nat, ys = [.int .i64 i] ∧ i ≤ m8.length ∧ m4.toNat + i ≤ es.length ∧ mergeL es m4.toNat m8 = mergeL es (m4.toNat + i) (m8.drop i)) (fun ys => m8.length - (nth ys 0).I.toNat) ?_ ?_
  · simp [-List.getD_eq_getElem?_getD, c_sEntries, c_send, c_sFollow, c_l08Term]
    exact ⟨0, rfl, by omega, by simp only at q1; omega, rfl⟩
  · rintro ys ⟨i, rfl, g1, g2, g3⟩
    refine hW.vc [(1, [15], .take 0 <| .take 1 <| .take 2 <| .take 3 <| .take 4 <| .take 5 <| .take 6 <| .take 7 <| .take 8 <| .take 9 <| .take 10 <| .take 11 <| .take 12 <| .take 13 <| .alt 14 (.alt 15 (.done) .stop) .stop), (2, [], .take 0 <| .take 1 <| .take 2 <| .take 3 <| .take 4 <| .take 5 <| .take 6 <| .take 7 <| .done), (6, [], .take 0 <| .take 1 <| .take 2 <| .take 3 <| .take 4 <| .take 5 <| .take 6 <| .take 7 <| .take 8 <| .take 9 <| .take 10 <| .take 11 <| .take 12 <| .take 13 <| .take 14 <| .take 15 <| .take 17 <| .take 18 <| .alt 16 (.take 19 <| .take 20 <| .done) .stop), (12, [], .take 0 <| .take 1 <| .take 2 <| .take 3 <| .take 4 <| .take 5 <| .take 6 <| .take 7 <| .take 8 <| .take 9 <| .take 10 <| .take 11 <| .take 12 <| .take 13 <| .take 14 <| .take 15 <| .take 16 <| .take 17 <| .take 18 <| .take 19 <| .take 20 <| .take 21 <| .take 22 <| .take 23 <| .take 24 <| .take 25 <| .done), (13, [9, 14, 18], .take 0 <| .take 2 <| .take 3 <| .take 4 <| .take 5 <| .take 6 <| .take 7 <| .take 8 <| .take 10 <| .take 12 <| .alt 1 (.alt 9 (.take 11 <| .take 13 <| .alt 14 (.take 15 <| .take 16 <| .take 17 <| .alt 18 (.done) .stop) .stop) (.alt 11 (.take 13 <| .alt 9 (.alt 14 (.take 15 <| .take 16 <| .take 17 <| .alt 18 (.done) .stop) .stop) .stop) .stop)) (.alt 11 (.take 13 <| .alt 1 (.alt 9 (.alt 14 (.take 15 <| .take 16 <| .take 17 <| .alt 18 (.done) .stop) .stop) .stop) .stop) .stop)), (15, [14], .take 0 <| .take 1 <| .take 2 <| .take 3 <| .take 4 <| .take 5 <| .take 6 <| .take 7 <| .take 8 <| .take 9 <| .take 10 <| .take 11 <| .take 12 <| .take 13 <| .alt 14 (.done) .stop)] _ _ ?_
    simp [-List.getD_eq_getElem?_getD, c_sEntries, c_send, c_sFollow, c_l08Term, ndOf, mgOf, ND.rv, takeM]
    have e1 : IntKind.i64.wrap (m4 + (i : Int)) = ((m4.toNat + i : Nat) : Int) := by rw [wrap64 (by omega)]; omega
    have e2 : IntKind.i64.wrap (m4 + (m8.length : Int)) = m4 + m8.length := wrap64 (by omega)
    rw [e1, e2, wrap64 (n := (i : Int) + 1) (by omega), ← hnd, ← hmg, hT]
    obtain ⟨k, hk⟩ : ∃ k, k = m4.toNat + i := ⟨_, rfl⟩
    rw [← hk] at g2 g3 ⊢
    simp [mxI, mnI, g3]
    have hm : i < m8.length → (k < es.length → ¬(nth (nth es k).A 0).I = (nth (nth m8 i).A 0).I) → es.take k ++ (m8.drop i).take (m8.length - i) = mergeL es k (m8.drop i) := fun q1 q2 => by
      rw [List.take_of_length_le (l := m8.drop i) (by simp), drop_nth q1, mergeL, if_neg (fun h => q2 h.1 h.2)]
    have hs : i < m8.length → k < es.length → (nth (nth es k).A 0).I = (nth (nth m8 i).A 0).I → mergeL es k (m8.drop i) = mergeL es (m4.toNat + (i + 1)) (m8.drop (i + 1)) := fun q1 q2 q3 => by
      have e : k + 1 = m4.toNat + (i + 1) := by omega
      rw [drop_nth q1, mergeL, if_pos ⟨q2, q3⟩, e]
    have hz : m8.length ≤ i → es = mergeL es k (m8.drop i) := fun q1 => by rw [List.drop_eq_nil_of_le q1, mergeL]
    repeat' (first | apply And.intro | intro _)
    all_goals first | rfl | omega | assumption | decide +kernel | exact hm ‹_› ‹_› | exact hz ‹_› | exact ⟨i + 1, by omega, by omega, by omega, hs ‹_› ‹_› ‹_›⟩ | trace_state

end Go.Proofs.Ytkofjkjcbljkdaa
end

section
namespace Go.Proofs.Ytkofjkjcbljkdaa
variable [LaidG]
set_option maxRecDepth 100000
set_option linter.unusedSimpArgs false

def c_sAnswer : FSpec := ⟨[(.bx, .box [.int .i64, .int .i64, .int .i64, .int .i64, .int .i64, .bool, .list (.agg [.int .i64, .str]), .int .i64, .int .i64, .int .i64, .list (.int .i64), .list (.int .i64), .list (.int .i64), .list (.agg [.int .i64, .int .i64, .int .i64, .int .i64, .int .i64, .int .i64, .int .i64, .bool, .list (.agg [.int .i64, .str])])]), (.rd, .agg [.int .i64, .int .i64, .int .i64, .int .i64, .int .i64, .int .i64, .int .i64, .bool, .list (.agg [.int .i64, .str])])], [], true, fun ps => NdF (ndOf (nth ps 0).A) ∧ (nth (nth ps 0).A 13).L.length ≤ 900 ∧ MgF (ndOf (nth ps 0).A) (mgOf (nth ps 1).A), fun _ => [],
  fun ps => [(ansR (ndOf (nth ps 0).A) (mgOf (nth ps 1).A)).1.rv ((nth (nth ps 0).A 13).L ++ (ansR (ndOf (nth ps 0).A) (mgOf (nth ps 1).A)).2)]⟩
theorem k_sAnswer : FnOk Try.prog 118 c_sAnswer := by
  refine fn_mk [0, 1, 3] [] (env_cons (cs := []) k_tell (env_cons (cs := []) k_sAdvance (env_nil (tyTab_ok [])))) mixed Try.func118 rfl (by decide) rfl (by decide) rfl ?_
  intro ps hT hpre W hW
  simp only [c_sAnswer, TyA, Ty, Tys] at hT hpre
  obtain ⟨_, _, rfl, ⟨_, rfl, _, _, rfl, ⟨n0, rfl, hn0⟩, _, _, rfl, ⟨n1, rfl, hn1⟩, _, _, rfl, ⟨n2, rfl, hn2⟩, _, _, rfl, ⟨n3, rfl, hn3⟩, _, _, rfl, ⟨n4, rfl, hn4⟩, _, _, rfl, ⟨u, rfl⟩, _, _, rfl, ⟨es, rfl, hes, tes⟩, _, _, rfl, ⟨n5, rfl, hn5⟩, _, _, rfl, ⟨n6, rfl, hn6⟩, _, _, rfl, ⟨n7, rfl, hn7⟩, _, _, rfl, ⟨vs, rfl, hvs, tvs⟩, _, _, rfl, ⟨xs, rfl, hxs, txs⟩, _, _, rfl, ⟨ms, rfl, hms, tms⟩, _, _, rfl, ⟨out, rfl, hout, tout⟩, rfl⟩, _, _, rfl, ⟨_, rfl, _, _, rfl, ⟨m0, rfl, hm0⟩, _, _, rfl, ⟨m1, rfl, hm1⟩, _, _, rfl, ⟨m2, rfl, hm2⟩, _, _, rfl, ⟨m3, rfl, hm3⟩, _, _, rfl, ⟨m4, rfl, hm4⟩, _, _, rfl, ⟨m5, rfl, hm5⟩, _, _, rfl, ⟨m6, rfl, hm6⟩, _, _, rfl, ⟨m7, rfl⟩, _, _, rfl, ⟨m8, rfl, hm8, tm8⟩, rfl⟩, rfl⟩ := hT
  simp only [nth_zero, nth_succ, pv_I, pv_L, pv_A] at hpre
  obtain ⟨hF, p1, hM⟩ := hpre
  have hm0 : 0 ≤ m1 := hM.f0
  have hm1 : m1 < n1 := hM.f1
  have a3 : (xs.length : Int) = n1 := hF.nx
  have a4 : (ms.length : Int) = n1 := hF.ms
  have l6 : es.length ≤ 60 := hF.l6
  have h5 : n1 ≤ 5 := hF.n5
  have c0 : 0 ≤ n5 := hF.c0
  have hi0 : 0 ≤ m4 := hM.i0
  have hi6 : m4 ≤ 60 := hM.i6
  have hmo : monoP n2 es := mono_of hF.en
  have h6 : ∀ x, nth (ms.set m1.toNat x) m1.toNat = x := fun x => nth_set (by omega)
  have h7 : ∀ x, nth (xs.set m1.toNat x) m1.toNat = x := fun x => nth_set (by omega)
  have nm := nm_get (xs := xs) (ms := ms) (l := es.length) hF.nm (by omega) m1.toNat (by omega)
  have bX : 0 ≤ mxI (nth ms m1.toNat).I (mnI m4 es.length) ∧ mxI (nth ms m1.toNat).I (mnI m4 es.length) ≤ 61 := by
    unfold mxI mnI
    split <;> split <;> omega
  have w1 := wrap64 (n := mxI (nth ms m1.toNat).I (mnI m4 es.length) + 1) (by omega)
  have w2 := wrap64 (n := (nth ms m1.toNat).I + 1) (by omega)
  have w3 := wrap64 (n := (nth xs m1.toNat).I - 1) (by omega)
  have w4 := wrap64 (n := m4 + 1) (by omega)
  obtain ⟨nd, hnd⟩ : ∃ nd : ND, nd = ⟨n0, n1, n2, n3, n4, u, es, n5, n6, n7, vs, xs, ms⟩ := ⟨_, rfl⟩
  obtain ⟨mg, hmg⟩ : ∃ mg : MG, mg = ⟨m0, m1, m2, m3, m4, m5, m6, m7, m8⟩ := ⟨_, rfl⟩
  have hA : ackN nd mg = ⟨n0, n1, n2, n3, n4, u, es, n5, n6, n7, vs, xs.set m1.toNat (.int .i64 (mxI (nth xs m1.toNat).I (mxI (nth ms m1.toNat).I (mnI m4 es.length) + 1))), ms.set m1.toNat (.int .i64 (mxI (nth ms m1.toNat).I (mnI m4 es.length)))⟩ := by
    rw [hmg, hnd]; simp only [ackN, ackM, h6, pv_I]
  have hN : nakN nd mg = ⟨n0, n1, n2, n3, n4, u, es, n5, n6, n7, vs, xs.set m1.toNat (.int .i64 (mxI ((nth ms m1.toNat).I + 1) (mnI ((nth xs m1.toNat).I - 1) (m4 + 1)))), ms⟩ := by
    rw [hmg, hnd]; rfl
  have rO : repOk (nakN nd mg) m1 := by
    rw [hN]
    refine ⟨hm0, by simp only [List.length_set]; omega, ?_, ?_, by simp only; omega⟩
    · simp only [h7, pv_I]; unfold mxI mnI; split <;> split <;> omega
    · simp only [h7, pv_I]; unfold mxI mnI; split <;> split <;> omega
  unfold mxI mnI at w1
  refine hW.vc [(1, [], .take 0 <| .take 1 <| .take 2 <| .take 3 <| .take 4 <| .take 5 <| .take 6 <| .take 7 <| .take 8 <| .take 9 <| .take 10 <| .take 11 <| .take 12 <| .take 13 <| .take 14 <| .take 15 <| .done), (3, [33], .take 0 <| .take 1 <| .take 2 <| .take 3 <| .take 4 <| .take 5 <| .take 6 <| .take 7 <| .take 8 <| .take 9 <| .take 10 <| .take 11 <| .take 12 <| .take 13 <| .take 14 <| .take 15 <| .take 16 <| .take 17 <| .take 18 <| .take 19 <| .take 20 <| .take 21 <| .take 22 <| .take 23 <| .take 24 <| .take 25 <| .take 26 <| .take 27 <| .take 28 <| .take 29 <| .take 30 <| .take 31 <| .take 32 <| .alt 33 (.done) .stop), (5, [27], .take 0 <| .take 1 <| .take 2 <| .take 3 <| .take 4 <| .take 5 <| .take 6 <| .take 7 <| .take 8 <| .take 9 <| .take 10 <| .take 11 <| .take 12 <| .take 13 <| .take 14 <| .take 15 <| .take 16 <| .take 17 <| .take 18 <| .take 19 <| .take 20 <| .take 21 <| .take 22 <| .take 23 <| .take 24 <| .take 25 <| .take 26 <| .alt 27 (.done) .stop), (6, [28], .take 0 <| .take 1 <| .take 2 <| .take 3 <| .take 4 <| .take 5 <| .take 6 <| .take 7 <| .take 8 <| .take 9 <| .take 10 <| .take 11 <| .take 12 <| .take 13 <| .take 14 <| .take 15 <| .take 16 <| .take 17 <| .take 18 <| .take 19 <| .take 20 <| .take 21 <| .take 22 <| .take 23 <| .take 24 <| .take 25 <| .take 26 <| .take 27 <| .alt 28 (.done) .stop)] _ _ ?_
  simp [-List.getD_eq_getElem?_getD, c_sAnswer, c_sAdvance, c_tell, ndOf, mgOf, ND.rv, h6, h7]
  rw [w1, w2, w3, w4, ← hnd, ← hmg]
  refine ⟨by decide +kernel, fun h => ?_, fun r t => ⟨fun o => ?_, fun o => ?_⟩⟩
  · have e : ansR nd mg = (nd, []) := by
      rw [ansR, if_pos (by rw [hmg, hnd]; exact h)]
    rw [e, hnd]
    repeat' (first | apply And.intro | intro _)
    all_goals first | rfl | omega | assumption | decide +kernel
  · have e : ansR nd mg = (nakN nd mg, [repV (nakN nd mg) m1]) := by
      rw [ansR, if_neg (by rw [hmg, hnd]; simp [r, t]), if_neg (by rw [hmg]; simp [o]), hmg]
    rw [e]
    rw [hN] at rO ⊢
    obtain ⟨r1, r2, r3, r4, r5⟩ := rO
    clear bX nm w1 w2 w3 w4 hA hN e
    repeat' (first | apply And.intro | intro _)
    all_goals first | rfl | exact r1 | exact r2 | exact r3 | exact r4 | exact r5 | omega | decide +kernel
  · have e : ansR nd mg = ({ ackN nd mg with com := advG (ackN nd mg) es.length }, []) := by
      rw [ansR, if_neg (by rw [hmg, hnd]; simp [r, t]), if_pos (by rw [hmg]; exact o), hnd]
    rw [e, hA]
    clear bX nm w1 w2 w3 w4 hA hN e rO
    repeat' (first | exact hmo | apply And.intro | intro _)
    all_goals first | rfl | omega | assumption | decide +kernel

end Go.Proofs.Ytkofjkjcbljkdaa
end

section
namespace Go.Proofs.Ytkofjkjcbljkdaa
variable [LaidG]
set_option maxRecDepth 100000
set_option linter.unusedSimpArgs false

def c_sTake : FSpec := ⟨[(.bx, .box [.int .i64, .int .i64, .int .i64, .int .i64, .int .i64, .bool, .list (.agg [.int .i64, .str]), .int .i64, .int .i64, .int .i64, .list (.int .i64), .list (.int .i64), .list (.int .i64), .list (.agg [.int .i64, .int .i64, .int .i64, .int .i64, .int .i64, .int .i64, .int .i64, .bool, .list (.agg [.int .i64, .str])])]), (.rd, .agg [.int .i64, .int .i64, .int .i64, .int .i64, .int .i64, .int .i64, .int .i64, .bool, .list (.agg [.int .i64, .str])])], [], true, fun ps => NdF (ndOf (nth ps 0).A) ∧ MgF (ndOf (nth ps 0).A) (mgOf (nth ps 1).A) ∧ (nth (nth ps 0).A 13).L.length ≤ 900, fun _ => [],
  fun ps => [(handR (newT (ndOf (nth ps 0).A) (nth (nth ps 1).A 3).I) (mgOf (nth ps 1).A)).1.rv ((nth (nth ps 0).A 13).L ++ (handR (newT (ndOf (nth ps 0).A) (nth (nth ps 1).A 3).I) (mgOf (nth ps 1).A)).2)]⟩
theorem k_sTake : FnOk Try.prog 78 c_sTake := by
  refine fn_mk [0, 1, 3, 25] [] (env_cons (cs := []) k_sAnswer (env_cons (cs := []) k_sEntries (env_cons (cs := []) k_voted (env_cons (cs := []) k_vote (env_cons (cs := []) k_sFollow (env_nil (tyTab_ok []))))))) mixed Try.func78 rfl (by decide) rfl (by decide) rfl ?_
  intro ps hT hpre W hW
  simp only [c_sTake, TyA, Ty, Tys] at hT hpre
  obtain ⟨_, _, rfl, ⟨_, rfl, _, _, rfl, ⟨n0, rfl, hn0⟩, _, _, rfl, ⟨n1, rfl, hn1⟩, _, _, rfl, ⟨n2, rfl, hn2⟩, _, _, rfl, ⟨n3, rfl, hn3⟩, _, _, rfl, ⟨n4, rfl, hn4⟩, _, _, rfl, ⟨u, rfl⟩, _, _, rfl, ⟨es, rfl, hes, tes⟩, _, _, rfl, ⟨n5, rfl, hn5⟩, _, _, rfl, ⟨n6, rfl, hn6⟩, _, _, rfl, ⟨n7, rfl, hn7⟩, _, _, rfl, ⟨vs, rfl, hvs, tvs⟩, _, _, rfl, ⟨xs, rfl, hxs, txs⟩, _, _, rfl, ⟨ms, rfl, hms, tms⟩, _, _, rfl, ⟨out, rfl, hout, tout⟩, rfl⟩, _, _, rfl, ⟨_, rfl, _, _, rfl, ⟨m0, rfl, hm0⟩, _, _, rfl, ⟨m1, rfl, hm1⟩, _, _, rfl, ⟨m2, rfl, hm2⟩, _, _, rfl, ⟨m3, rfl, hm3⟩, _, _, rfl, ⟨m4, rfl, hm4⟩, _, _, rfl, ⟨m5, rfl, hm5⟩, _, _, rfl, ⟨m6, rfl, hm6⟩, _, _, rfl, ⟨m7, rfl⟩, _, _, rfl, ⟨m8, rfl, hm8, tm8⟩, rfl⟩, rfl⟩ := hT
  simp only [nth_zero, nth_succ, pv_I, pv_L, pv_A, pv_B, ndOf, mgOf] at hpre
  obtain ⟨hF, hM, p1⟩ := hpre
  obtain ⟨nd, hnd⟩ : ∃ nd : ND, nd = ⟨n0, n1, n2, n3, n4, u, es, n5, n6, n7, vs, xs, ms⟩ := ⟨_, rfl⟩
  refine hW.vc [] _ _ ?_
  simp [-List.getD_eq_getElem?_getD, c_sTake, c_sFollow, c_vote, c_voted, c_sEntries, c_sAnswer]
  refine hW.cutS [_, _] _ _ [.bx 0 [.int .i64, .int .i64, .int .i64, .int .i64, .int .i64, .bool, .list (.agg [.int .i64, .str]), .int .i64, .int .i64, .int .i64, .list (.int .i64), .list (.int .i64), .list (.int .i64), .list (.agg [.int .i64, .int .i64, .int .i64, .int .i64, .int .i64, .int .i64, .int .i64, .bool, .list (.agg [.int .i64, .str])])]] (fun ys => ys = [(newT nd m3).rv out]) ?_ ?_
  · refine hW.vc [(1, [], .take 0 <| .take 1 <| .take 2 <| .take 3 <| .take 4 <| .take 5 <| .take 6 <| .take 7 <| .done)] _ _ ?_
    simp [-List.getD_eq_getElem?_getD, c_sTake, c_sFollow, c_vote, c_voted, c_sEntries, c_sAnswer, ndOf, ND.rv, followN]
    have a3 : (xs.length : Int) = n1 := hF.nx
    have a4 : (ms.length : Int) = n1 := hF.ms
    refine ⟨by decide +kernel, fun h => ⟨⟨a3, a4, hF.n1, hF.n5⟩, ?_⟩, fun h => ?_⟩
    · have e : newT nd m3 = ⟨n0, n1, m3, -1, 0, u, es, n5, n6, n7, [], List.replicate n1.toNat (.int .i64 1), List.replicate n1.toNat (.int .i64 0)⟩ := by rw [hnd, newT, if_pos h]; rfl
      rw [e]; and_intros <;> rfl
    · have e : newT nd m3 = ⟨n0, n1, n2, n3, n4, u, es, n5, n6, n7, vs, xs, ms⟩ := by rw [hnd, newT, if_neg (Int.not_lt.2 h)]
      rw [e]; and_intros <;> rfl
  · rintro ys rfl
    refine hW.vc [(1, [], .take 0 <| .take 1 <| .take 2 <| .take 3 <| .take 4 <| .take 5 <| .take 6 <| .take 7 <| .done)] _ _ ?_
    simp [-List.getD_eq_getElem?_getD, c_sTake, c_sFollow, c_vote, c_voted, c_sEntries, c_sAnswer, ndOf, mgOf, ND.rv]
    have hT : NdF (newT nd m3) := newT_F (by rw [hnd]; exact hF) hM.tM
    obtain ⟨mg, hmg⟩ : ∃ mg : MG, mg = ⟨m0, m1, m2, m3, m4, m5, m6, m7, m8⟩ := ⟨_, rfl⟩
    obtain ⟨T, hTd⟩ : ∃ T, T = newT nd m3 := ⟨_, rfl⟩
    rw [← hTd] at hT ⊢
    have hTd' : newT ⟨n0, n1, n2, n3, n4, u, es, n5, n6, n7, vs, xs, ms⟩ m3 = T := by rw [hTd, hnd]
    have eta : (⟨T.id, T.nodes, T.term, T.vote, T.role, T.up, T.log, T.com, T.ela, T.wt, T.vs, T.nx, T.ms⟩ : ND) = T := rfl
    have l6 := hT.l6
    have a2 := hT.n5
    have hTn : T.nodes = n1 := by rw [hTd, hnd, newT]; split <;> rfl
    have hTt : m3 ≤ T.term := by
      rw [hTd, hnd, newT]; split
      · exact Int.le_refl _
      · rename_i h; exact Int.not_lt.1 h
    have hMT : MgF T mg := by
      rw [hmg]
      exact ⟨hM.k1, hM.k4, hM.f0, by rw [hTn]; exact hM.f1, hM.t1, hM.tM, hM.i0, hM.i6, hM.c0, hM.c6, hM.es⟩
    have hm0 : 0 ≤ m1 := hM.f0
    have hm1 : m1 < n1 := hM.f1
    rw [hTd', eta, ← hmg]
    refine ⟨fun k1 => ?_, fun k1 => ⟨fun k2 => ?_, fun k2 => ⟨fun k3 => ?_, fun k3 => ?_⟩⟩⟩
    · rw [handR, if_pos (by rw [hmg]; exact k1)]
      repeat' (first | exact hT | exact hMT | apply And.intro | intro _)
      all_goals first | rfl | omega | assumption | decide +kernel
    · rw [handR, if_neg (by rw [hmg]; exact k1), if_pos (by rw [hmg]; exact k2)]
      repeat' (first | exact hT | exact hMT | apply And.intro | intro _)
      all_goals first | rfl | omega | assumption | decide +kernel
    · rw [handR, if_neg (by rw [hmg]; exact k1), if_neg (by rw [hmg]; exact k2), if_pos (by rw [hmg]; exact k3)]
      repeat' (first | exact hT | exact hMT | apply And.intro | intro _)
      all_goals first | rfl | omega | assumption | decide +kernel
    · rw [handR, if_neg (by rw [hmg]; exact k1), if_neg (by rw [hmg]; exact k2), if_neg (by rw [hmg]; exact k3)]
      repeat' (first | exact hT | exact hMT | apply And.intro | intro _)
      all_goals first | rfl | omega | assumption | decide +kernel

def c_l08Take : FSpec := ⟨[(.rd, .agg [.int .i64, .int .i64, .int .i64, .int .i64, .int .i64, .bool, .list (.agg [.int .i64, .str]), .int .i64, .int .i64, .int .i64, .list (.int .i64), .list (.int .i64), .list (.int .i64)]), (.rd, .agg [.int .i64, .int .i64, .int .i64, .int .i64, .int .i64, .int .i64, .int .i64, .bool, .list (.agg [.int .i64, .str])])], [.agg [.int .i64, .int .i64, .int .i64, .int .i64, .int .i64, .bool, .list (.agg [.int .i64, .str]), .int .i64, .int .i64, .int .i64, .list (.int .i64), .list (.int .i64), .list (.int .i64)], .list (.agg [.int .i64, .int .i64, .int .i64, .int .i64, .int .i64, .int .i64, .int .i64, .bool, .list (.agg [.int .i64, .str])])], true, fun ps => NdF (ndOf (nth ps 0).A) ∧ MgF (ndOf (nth ps 0).A) (mgOf (nth ps 1).A) ∧ (nth (nth ps 0).A 10).L.length ≤ 1048576,
  fun ps => [(handR (newT (ndOf (nth ps 0).A) (nth (nth ps 1).A 3).I) (mgOf (nth ps 1).A)).1.pv, .list (handR (newT (ndOf (nth ps 0).A) (nth (nth ps 1).A 3).I) (mgOf (nth ps 1).A)).2], fun _ => []⟩
theorem k_l08Take : FnOk Try.prog 36 c_l08Take := by
  refine fn_mk [0, 1, 2, 3, 4, 5, 6] [.cell 4 26, .tmp 5] (env_cons (cs := []) k_sTake (env_cons (cs := []) k_l08Own (env_nil (tyTab_ok [])))) mixed Try.func36 rfl (by decide) rfl (by decide) rfl ?_
  intro ps hT hpre W hW
  simp only [c_l08Take, TyA, Ty, Tys] at hT hpre
  obtain ⟨_, _, rfl, ⟨_, rfl, _, _, rfl, ⟨n0, rfl, hn0⟩, _, _, rfl, ⟨n1, rfl, hn1⟩, _, _, rfl, ⟨n2, rfl, hn2⟩, _, _, rfl, ⟨n3, rfl, hn3⟩, _, _, rfl, ⟨n4, rfl, hn4⟩, _, _, rfl, ⟨u, rfl⟩, _, _, rfl, ⟨es, rfl, hes, tes⟩, _, _, rfl, ⟨n5, rfl, hn5⟩, _, _, rfl, ⟨n6, rfl, hn6⟩, _, _, rfl, ⟨n7, rfl, hn7⟩, _, _, rfl, ⟨vs, rfl, hvs, tvs⟩, _, _, rfl, ⟨xs, rfl, hxs, txs⟩, _, _, rfl, ⟨ms, rfl, hms, tms⟩, rfl⟩, _, _, rfl, ⟨_, rfl, _, _, rfl, ⟨m0, rfl, hm0⟩, _, _, rfl, ⟨m1, rfl, hm1⟩, _, _, rfl, ⟨m2, rfl, hm2⟩, _, _, rfl, ⟨m3, rfl, hm3⟩, _, _, rfl, ⟨m4, rfl, hm4⟩, _, _, rfl, ⟨m5, rfl, hm5⟩, _, _, rfl, ⟨m6, rfl, hm6⟩, _, _, rfl, ⟨m7, rfl⟩, _, _, rfl, ⟨m8, rfl, hm8, tm8⟩, rfl⟩, rfl⟩ := hT
  simp only [nth_zero, nth_succ, pv_I, pv_L, pv_A, pv_B, ndOf, mgOf] at hpre
  refine hW.vc [(3, [8], .take 0 <| .take 1 <| .take 2 <| .take 3 <| .take 4 <| .take 5 <| .take 6 <| .alt 7 (.alt 8 (.alt 9 (.done) .stop) .stop) (.alt 8 (.take 7 <| .alt 9 (.done) .stop) .stop))] _ _ ?_
  simp [-List.getD_eq_getElem?_getD, c_l08Take, c_l08Own, c_sTake, c_toNode, c_toNode, ndOf, mgOf, ND.rv, ND.pv]
  obtain ⟨hF, hM, q3⟩ := hpre
  have a1 : es.length ≤ 60 := hF.l6
  have a2 : (xs.length : Int) = n1 := hF.nx
  have a3 : (ms.length : Int) = n1 := hF.ms
  have a4 : n1 ≤ 5 := hF.n5
  exact ⟨⟨by omega, q3, by omega, by omega⟩, ⟨hF, hM⟩, by decide +kernel⟩

def c_sMessageOK : FSpec := c_isMessage
theorem k_sMessageOK : FnOk Try.prog 34 c_sMessageOK := by
  refine fn_mk [0, 1, 2] [.tmp 2] (env_cons (cs := []) k_StateOK (env_cons (cs := []) k_l01In (env_nil (tyTab_ok [])))) mixed Try.func34 rfl (by decide) rfl (by decide) rfl ?_
  intro ps hT hpre W hW
  simp only [c_sMessageOK, TyA, Ty, Tys] at hT hpre
  simp only [c_isMessage, TyA, Ty, Tys] at hT hpre
  obtain ⟨_, _, rfl, ⟨_, rfl, _, _, rfl, ⟨m0, rfl, hm0⟩, _, _, rfl, ⟨m1, rfl, hm1⟩, _, _, rfl, ⟨m2, rfl, hm2⟩, _, _, rfl, ⟨m3, rfl, hm3⟩, _, _, rfl, ⟨m4, rfl, hm4⟩, _, _, rfl, ⟨m5, rfl, hm5⟩, _, _, rfl, ⟨m6, rfl, hm6⟩, _, _, rfl, ⟨m7, rfl⟩, _, _, rfl, ⟨m8, rfl, hm8, tm8⟩, rfl⟩, rfl⟩ := hT
  refine hW.vc [(5, [], .take 0 <| .take 1 <| .take 2 <| .take 3 <| .take 4 <| .take 5 <| .take 6 <| .take 7 <| .take 8 <| .take 9 <| .take 10 <| .take 11 <| .take 12 <| .alt 13 (.take 14 <| .take 15 <| .take 16 <| .take 17 <| .take 18 <| .take 19 <| .take 20 <| .take 21 <| .take 22 <| .take 23 <| .take 24 <| .take 25 <| .take 26 <| .take 27 <| .take 28 <| .take 29 <| .take 30 <| .take 31 <| .take 32 <| .take 33 <| .take 34 <| .take 35 <| .take 36 <| .take 37 <| .take 38 <| .take 39 <| .take 40 <| .alt 41 (.done) .stop) .stop)] _ _ ?_
  simp [-List.getD_eq_getElem?_getD, c_sMessageOK, c_l01In, c_StateOK, c_isMessage, c_within, c_isState, c_within, c_isState, c_isMessage, mgOf]
  refine ⟨fun h => ?_, fun b1 b2 b3 b4 b5 b6 b7 b8 => ⟨fun h _ => ?_, fun h => ⟨by decide +kernel, fun _ _ => ⟨fun a b c => ⟨⟨⟨a, b⟩, c⟩, List.length_pos_iff.2 c⟩, fun _ => ⟨fun a b => ⟨⟨a, b⟩, fun c => ⟨⟨a, b⟩, c⟩⟩, fun a b c => ⟨⟨⟨a, b⟩, c⟩, fun d => ⟨⟨⟨a, b⟩, c⟩, d⟩⟩, ?_⟩⟩⟩⟩⟩
  · have : mgB1 ⟨m0, m1, m2, m3, m4, m5, m6, m7, m8⟩ = false := by
      rcases h with ((((((h | h) | h) | h) | h) | h) | h) | h <;> simp [mgB1, h]
    simp [mgB, this]
  · have h1 : mgB1 ⟨m0, m1, m2, m3, m4, m5, m6, m7, m8⟩ = true := by simp [mgB1, b1, b2, b3, b4, b5, b6, b7, b8]
    have hk : (m0 == 3) = false := by simp [h]
    simp only [mgB, h1, hk, cond_false, Bool.true_and]
    rw [Bool.eq_iff_iff]
    simp
  · have h1 : mgB1 ⟨m0, m1, m2, m3, m4, m5, m6, m7, m8⟩ = true := by simp [mgB1, b1, b2, b3, b4, b5, b6, b7, b8]
    have hk : (m0 == 3) = true := by simp [h]
    rw [wrap64 (n := 60 - m4) (by simp [inB] at b6; omega)]
    have hq : stB m3 0 m8 = entsB m3 m8 := by
      have q1 : inB m3 0 1000 = true := by simp [inB] at b5 ⊢; omega
      have q2 : inB 0 (-1) 4 = true := by decide
      simp [stB, q1, q2]
    simp only [mgB, h1, hk, cond_true, Bool.true_and, mgB2, leB, ltB, hq]
    rw [Bool.eq_iff_iff]
    simp
    exact fun _ _ => And.comm

def c_szMessage : FSpec := ⟨[(.rd, .agg [.int .i64, .int .i64, .int .i64, .int .i64, .int .i64, .int .i64, .int .i64, .bool, .list (.agg [.int .i64, .str])]), (.rd, .int .i64)], [.int .i64], true, fun ps => 0 ≤ (nth ps 1).I, fun ps => [.int .i64 (szGs rowLen (nth (nth ps 0).A 8).L (nth ps 1).I)], fun _ => []⟩
def c_toMessage : FSpec := ⟨[(.rd, .agg [.int .i64, .int .i64, .int .i64, .int .i64, .int .i64, .int .i64, .int .i64, .bool, .list (.agg [.int .i64, .str])])], [.agg [.int .i64, .int .i64, .int .i64, .int .i64, .int .i64, .int .i64, .int .i64, .bool, .list (.agg [.int .i64, .str])]], true, fun ps => (nth (nth ps 0).A 8).L.length ≤ 1048576, fun ps => [nth ps 0], fun _ => []⟩
def c_markMessage : FSpec := ⟨[(.mt, .agg [.int .i64, .int .i64, .int .i64, .int .i64, .int .i64, .int .i64, .int .i64, .bool, .list (.agg [.int .i64, .str])]), (.rd, .int .i64)], [.int .i64], true, fun ps => 0 ≤ (nth ps 1).I ∧ (nth ps 1).I + 2 * (nth (nth ps 0).A 8).L.length ≤ 1073741823, fun ps => [.int .i64 ((nth ps 1).I + 2 * (nth (nth ps 0).A 8).L.length)],
  fun ps => [.agg [nth (nth ps 0).A 0, nth (nth ps 0).A 1, nth (nth ps 0).A 2, nth (nth ps 0).A 3, nth (nth ps 0).A 4, nth (nth ps 0).A 5, nth (nth ps 0).A 6, nth (nth ps 0).A 7, .list (markR (nth ps 1).I (nth (nth ps 0).A 8).L.length)]]⟩
end Go.Proofs.Ytkofjkjcbljkdaa
end

section
namespace Go.Proofs.Ytkofjkjcbljkdaa
variable [LaidG]
set_option maxRecDepth 100000
set_option linter.unusedSimpArgs false

@[simp] def srcOut (s : Src) : PV := .agg [.list [], .int .i64 s.p, .int .i64 s.q]
/-- One of some texts. -/
def pickR (es : List PV) (s : Src) (l : List PV) : List UInt8 × Src := if l.length = 0 then ([], s) else ((nth l (srcN es s l.length).1.toNat).S, (srcN es s l.length).2)
theorem pickR_ok {es : List PV} {s : Src} {l : List PV} {k : Int} (hc : codeOk es) (h : srcOk s.p s.q k) (hk : 3 ≤ k) : srcOk (pickR es s l).2.p (pickR es s l).2.q (k - 3) := by
  unfold pickR
  split
  · exact h.mono (by omega)
  · exact (srcN_ok hc h hk).1
def c_pick : FSpec := ⟨[(.bs, .box [.list (.int .u8), .int .i64, .int .i64]), (.rd, .list .str)], [.str], true, fun ps => srcOk (nth (nth ps 0).A 1).I (nth (nth ps 0).A 2).I 3, fun ps => [.str (pickR (nth (nth ps 0).A 0).L ⟨(nth (nth ps 0).A 1).I, (nth (nth ps 0).A 2).I⟩ (nth ps 1).L).1], fun ps => [.agg [.list [], .int .i64 (pickR (nth (nth ps 0).A 0).L ⟨(nth (nth ps 0).A 1).I, (nth (nth ps 0).A 2).I⟩ (nth ps 1).L).2.p, .int .i64 (pickR (nth (nth ps 0).A 0).L ⟨(nth (nth ps 0).A 1).I, (nth (nth ps 0).A 2).I⟩ (nth ps 1).L).2.q]]⟩
theorem k_pick : FnOk Try.prog 107 c_pick := by
  refine fn_mk [0, 1, 4] [.tmp 4] (env_cons (cs := []) k_srcNext (env_nil (tyTab_ok []))) mixed Try.func107 rfl (by decide) rfl (by decide) rfl ?_
  intro ps hT hpre W hW
  simp only [c_pick, TyA, Ty, Tys] at hT hpre
  obtain ⟨_, _, rfl, ⟨_, rfl, _, _, rfl, ⟨es, rfl, hes, tes⟩, _, _, rfl, ⟨p, rfl, hp⟩, _, _, rfl, ⟨q, rfl, hq⟩, rfl⟩, _, _, rfl, ⟨l, rfl, hl, tl⟩, rfl⟩ := hT
  simp only [nth_zero, nth_succ, pv_A, pv_I] at hpre
  refine hW.vc [] _ _ ?_
  simp [-List.getD_eq_getElem?_getD, c_pick, c_srcNext]
  intro hl1
  have hc := codeOk_ty tes
  refine ⟨fun h => by simp [pickR, h], fun h _ => ?_⟩
  have h0 : 0 < l.length := List.length_pos_iff.2 h
  have hn := srcN_ok (s := ⟨p, q⟩) (n := l.length) hc hpre (by omega)
  have hn2 := hn.2.2 (by omega)
  exact ⟨hpre, ⟨hn.2.1, hn2⟩, by omega, fun _ => by simp [pickR, h]⟩
def c_chance : FSpec := ⟨[(.bs, .box [.list (.int .u8), .int .i64, .int .i64]), (.rd, .int .i64)], [.bool], true, fun ps => srcOk (nth (nth ps 0).A 1).I (nth (nth ps 0).A 2).I 3 ∧ 1 ≤ (nth ps 1).I ∧ (nth ps 1).I ≤ 1000000, fun ps => [.bool ((srcN (nth (nth ps 0).A 0).L ⟨(nth (nth ps 0).A 1).I, (nth (nth ps 0).A 2).I⟩ (nth ps 1).I).1 == (nth ps 1).I - 1)], fun ps => [.agg [.list [], .int .i64 (srcN (nth (nth ps 0).A 0).L ⟨(nth (nth ps 0).A 1).I, (nth (nth ps 0).A 2).I⟩ (nth ps 1).I).2.p, .int .i64 (srcN (nth (nth ps 0).A 0).L ⟨(nth (nth ps 0).A 1).I, (nth (nth ps 0).A 2).I⟩ (nth ps 1).I).2.q]]⟩
theorem k_chance : FnOk Try.prog 60 c_chance := by
  refine fn_mk [0, 1, 4] [.tmp 4] (env_cons (cs := []) k_srcNext (env_nil (tyTab_ok []))) mixed Try.func60 rfl (by decide) rfl (by decide) rfl ?_
  intro ps hT hpre W hW
  simp only [c_chance, TyA, Ty, Tys] at hT hpre
  obtain ⟨_, _, rfl, ⟨_, rfl, _, _, rfl, ⟨es, rfl, hes, tes⟩, _, _, rfl, ⟨p, rfl, hp⟩, _, _, rfl, ⟨q, rfl, hq⟩, rfl⟩, _, _, rfl, ⟨n, rfl, hn⟩, rfl⟩ := hT
  simp only [nth_zero, nth_succ, pv_A, pv_I] at hpre
  refine hW.vc [] _ _ ?_
  simp [-List.getD_eq_getElem?_getD, c_chance, c_srcNext]
  exact ⟨hpre.1, by rw [wrap64 (by omega)]⟩
def datL : List PV := [.str [], .str [100, 97, 116, 97], .str [109, 111, 114, 101], .str [0]]
def c_drawEntry : FSpec := ⟨[(.bs, .box [.list (.int .u8), .int .i64, .int .i64]), (.rd, .int .i64)], [.agg [.int .i64, .str]], true, fun ps => srcOk (nth (nth ps 0).A 1).I (nth (nth ps 0).A 2).I 3, fun ps => [.agg [.int .i64 (nth ps 1).I, .str (pickR (nth (nth ps 0).A 0).L ⟨(nth (nth ps 0).A 1).I, (nth (nth ps 0).A 2).I⟩ datL).1]], fun ps => [.agg [.list [], .int .i64 (pickR (nth (nth ps 0).A 0).L ⟨(nth (nth ps 0).A 1).I, (nth (nth ps 0).A 2).I⟩ datL).2.p, .int .i64 (pickR (nth (nth ps 0).A 0).L ⟨(nth (nth ps 0).A 1).I, (nth (nth ps 0).A 2).I⟩ datL).2.q]]⟩
theorem k_drawEntry : FnOk Try.prog 62 c_drawEntry := by
  refine fn_mk [0, 1, 4] [.cell 4 93] (env_cons (cs := []) k_pick (env_nil (tyTab_ok []))) mixed Try.func62 rfl (by decide) rfl (by decide) rfl ?_
  intro ps hT hpre W hW
  simp only [c_drawEntry, TyA, Ty, Tys] at hT hpre
  obtain ⟨_, _, rfl, ⟨_, rfl, _, _, rfl, ⟨es, rfl, hes, tes⟩, _, _, rfl, ⟨p, rfl, hp⟩, _, _, rfl, ⟨q, rfl, hq⟩, rfl⟩, _, _, rfl, ⟨t, rfl, ht⟩, rfl⟩ := hT
  simp only [nth_zero, nth_succ, pv_A, pv_I] at hpre
  refine hW.vc [] _ _ ?_
  simp [-List.getD_eq_getElem?_getD, c_drawEntry, c_pick]
  exact ⟨rfl, hpre, rfl, rfl, rfl⟩
/-- Another node than one. -/
def peerR (es : List PV) (s : Src) (n no : Int) : Int × Src := (if (srcN es s n).1 = no then ((srcN es s n).1 + 1).tmod n else (srcN es s n).1, (srcN es s n).2)
theorem peerR_ok {es : List PV} {s : Src} {n no k : Int} (hc : codeOk es) (h : srcOk s.p s.q k) (hk : 3 ≤ k) (hn : 2 ≤ n) : srcOk (peerR es s n no).2.p (peerR es s n no).2.q (k - 3) ∧ 0 ≤ (peerR es s n no).1 ∧ (peerR es s n no).1 < n ∧ (peerR es s n no).1 ≠ no := by
  have h1 := srcN_ok (n := n) hc h hk
  have h2 := h1.2.2 (by omega)
  refine ⟨h1.1, ?_⟩
  unfold peerR
  simp only
  split
  · rename_i e
    by_cases hl : (srcN es s n).1 + 1 < n
    · rw [Int.tmod_eq_of_lt (by omega) hl]; omega
    · rw [show (srcN es s n).1 + 1 = n by omega, Int.tmod_self]; omega
  · rename_i e
    exact ⟨h1.2.1, h2, e⟩
def c_peer : FSpec := ⟨[(.bs, .box [.list (.int .u8), .int .i64, .int .i64]), (.rd, .int .i64), (.rd, .int .i64)], [.int .i64], true, fun ps => srcOk (nth (nth ps 0).A 1).I (nth (nth ps 0).A 2).I 3 ∧ 1 ≤ (nth ps 1).I ∧ (nth ps 1).I ≤ 1000, fun ps => [.int .i64 (peerR (nth (nth ps 0).A 0).L ⟨(nth (nth ps 0).A 1).I, (nth (nth ps 0).A 2).I⟩ (nth ps 1).I (nth ps 2).I).1], fun ps => [.agg [.list [], .int .i64 (peerR (nth (nth ps 0).A 0).L ⟨(nth (nth ps 0).A 1).I, (nth (nth ps 0).A 2).I⟩ (nth ps 1).I (nth ps 2).I).2.p, .int .i64 (peerR (nth (nth ps 0).A 0).L ⟨(nth (nth ps 0).A 1).I, (nth (nth ps 0).A 2).I⟩ (nth ps 1).I (nth ps 2).I).2.q]]⟩
theorem k_peer : FnOk Try.prog 59 c_peer := by
  refine fn_mk [0, 1, 2, 6, 7] [.tmp 6] (env_cons (cs := []) k_srcNext (env_nil (tyTab_ok []))) mixed Try.func59 rfl (by decide) rfl (by decide) rfl ?_
  intro ps hT hpre W hW
  simp only [c_peer, TyA, Ty, Tys] at hT hpre
  obtain ⟨_, _, rfl, ⟨_, rfl, _, _, rfl, ⟨es, rfl, hes, tes⟩, _, _, rfl, ⟨p, rfl, hp⟩, _, _, rfl, ⟨q, rfl, hq⟩, rfl⟩, _, _, rfl, ⟨n, rfl, hn⟩, _, _, rfl, ⟨no, rfl, hno⟩, rfl⟩ := hT
  simp only [nth_zero, nth_succ, pv_A, pv_I] at hpre
  refine hW.vc [] _ _ ?_
  simp [-List.getD_eq_getElem?_getD, c_peer, c_srcNext]
  have hc := codeOk_ty tes
  have hn := srcN_ok (s := ⟨p, q⟩) (n := n) hc hpre.1 (by omega)
  have hn2 := hn.2.2 (by omega)
  rw [wrap64 (n := (srcN es ⟨p, q⟩ n).1 + 1) (by omega)]
  exact ⟨hpre.1, fun h => ⟨by omega, by rw [peerR, if_pos h], rfl, rfl⟩, fun h => ⟨by rw [peerR, if_neg h], rfl, rfl⟩⟩
/-- Drawn entries. -/
def entD (es : List PV) (t i : Int) : Nat → Src → List PV → List PV × Src
  | 0, s, acc => (acc, s)
  | k + 1, s, acc => if (acc.length : Int) + i < 60 then entD es t i k (pickR es s datL).2 (acc ++ [.agg [.int .i64 t, .str (pickR es s datL).1]]) else (acc, s)
structure MD where
  k : Int
  f : Int
  t : Int
  i : Int
  c : Int
  o : Bool
  s : Src
/-- The numbers of a drawn message. -/
def mdOf (es : List PV) (s : Src) (n : ND) : MD :=
  let a := srcN es s 4
  let b := peerR es a.2 n.nodes n.id
  let c := srcN es b.2 3
  let d := srcN es c.2 (n.log.length + 2)
  let e := srcN es d.2 4
  let f := srcN es e.2 2
  ⟨1 + a.1, b.1, if 1 < n.term + c.1 - 1 then n.term + c.1 - 1 else 1, if 60 < d.1 then 60 else d.1, e.1, f.1 == 1, f.2⟩
def mdLt (n : ND) (d : MD) : Int := if 0 < d.i ∧ d.i ≤ n.log.length then (if tmAt n.log d.i < d.t then tmAt n.log d.i else d.t) else if d.k = 3 ∧ (n.log.length : Int) < d.i then 1 else 0
def mdEs (es : List PV) (d : MD) : List PV × Src := if d.k = 3 then entD es d.t d.i (srcN es d.s 3).1.toNat (srcN es d.s 3).2 [] else ([], d.s)
def msgR (es : List PV) (s : Src) (n : ND) : MG × Src :=
  let d := mdOf es s n
  (⟨d.k, d.f, n.id, d.t, d.i, mdLt n d, d.c, d.o, (mdEs es d).1⟩, (mdEs es d).2)
structure MdF (n : ND) (d : MD) (k : Int) : Prop where
  k1 : 1 ≤ d.k
  k4 : d.k ≤ 4
  f0 : 0 ≤ d.f
  f1 : d.f < n.nodes
  fn : d.f ≠ n.id
  t1 : 1 ≤ d.t
  tn : d.t ≤ n.term + 1
  i0 : 0 ≤ d.i
  i6 : d.i ≤ 60
  c0 : 0 ≤ d.c
  c3 : d.c ≤ 3
  s : srcOk d.s.p d.s.q k
theorem mdOf_F {es : List PV} {s : Src} {n : ND} {k : Int} (hc : codeOk es) (h : srcOk s.p s.q k) (hk : 18 ≤ k) (hn : 2 ≤ n.nodes) (ht : 0 ≤ n.term) : MdF n (mdOf es s n) (k - 18) := by
  have a := srcN_ok (n := 4) hc h (by omega)
  have b := peerR_ok (n := n.nodes) (no := n.id) hc a.1 (by omega) hn
  have c := srcN_ok (n := 3) hc b.1 (by omega)
  have d := srcN_ok (n := n.log.length + 2) hc c.1 (by omega)
  have e := srcN_ok (n := 4) hc d.1 (by omega)
  have f := srcN_ok (n := 2) hc e.1 (by omega)
  have a2 := a.2.2 (by omega); have c2 := c.2.2 (by omega); have d2 := d.2.2 (by omega); have e2 := e.2.2 (by omega)
  refine ⟨?_, ?_, b.2.1, b.2.2.1, b.2.2.2, ?_, ?_, ?_, ?_, e.2.1, ?_, f.1.mono (by omega)⟩
  · simp only [mdOf]; omega
  · simp only [mdOf]; omega
  · simp only [mdOf]; split <;> omega
  · simp only [mdOf]; split <;> omega
  · simp only [mdOf]; split <;> omega
  · simp only [mdOf]; split <;> omega
  · simp only [mdOf]; omega
def entT (t : Int) (l : List PV) : Prop := ∀ e ∈ l, ∃ d : List UInt8, e = .agg [.int .i64 t, .str d] ∧ d.length ≤ 4
theorem datL_len (i : Nat) : (nth datL i).S.length ≤ 4 := by
  match i with
  | 0 => decide
  | 1 => decide
  | 2 => decide
  | 3 => decide
  | (i + 4) => simp [nth, datL, PV.d, PV.S]
theorem entD_ok {es : List PV} {t i : Int} (hc : codeOk es) (hi : 0 ≤ i ∧ i ≤ 60) : ∀ (k : Nat) (s : Src) (acc : List PV) (b : Int), srcOk s.p s.q b → 3 * (k : Int) ≤ b → entT t acc → (acc.length : Int) + i ≤ 60 →
    srcOk (entD es t i k s acc).2.p (entD es t i k s acc).2.q (b - 3 * k) ∧ entT t (entD es t i k s acc).1 ∧ ((entD es t i k s acc).1.length : Int) + i ≤ 60
  | 0, s, acc, b, h, _, ha, hl => ⟨by simpa [entD] using h, ha, hl⟩
  | k + 1, s, acc, b, h, hb, ha, hl => by
    rw [entD]
    split
    · rename_i h1
      have h2 := entD_ok (t := t) (i := i) hc hi k (pickR es s datL).2 (acc ++ [.agg [.int .i64 t, .str (pickR es s datL).1]]) (b - 3) (pickR_ok hc h (by omega)) (by omega) ?_ (by simp; omega)
      · exact ⟨by have e : b - 3 * ((k + 1 : Nat) : Int) = b - 3 - 3 * k := by omega
                  rw [e]; exact h2.1, h2.2⟩
      · intro e he
        rcases List.mem_append.1 he with he | he
        · exact ha e he
        · simp only [List.mem_singleton] at he
          refine ⟨_, he, ?_⟩
          unfold pickR
          split
          · simp
          · exact datL_len _
    · exact ⟨h.mono (by omega), ha, hl⟩
theorem mdEs_ok {es : List PV} {n : ND} {d : MD} {k : Int} (hc : codeOk es) (hF : MdF n d k) (hk : 12 ≤ k) : srcOk (mdEs es d).2.p (mdEs es d).2.q (k - 12) ∧ entT d.t (mdEs es d).1 ∧ ((mdEs es d).1.length : Int) + d.i ≤ 60 ∧ (d.k ≠ 3 → (mdEs es d).1 = []) := by
  have i0 := hF.i0; have i6 := hF.i6
  unfold mdEs
  split
  · have h1 := srcN_ok (n := 3) hc hF.s (by omega)
    have h2 := h1.2.2 (by omega)
    have h3 := entD_ok (t := d.t) (i := d.i) hc ⟨i0, i6⟩ (srcN es d.s 3).1.toNat (srcN es d.s 3).2 [] (k - 3) h1.1 (by omega) (by intro e he; simp at he) (by simp; omega)
    exact ⟨h3.1.mono (by omega), h3.2.1, h3.2.2, fun h => absurd ‹_› h⟩
  · exact ⟨hF.s.mono (by omega), by intro e he; simp at he, by simp; omega, fun _ => rfl⟩
theorem entT_entB {t : Int} (h1 : 1 ≤ t) : ∀ {l : List PV} {p : Int}, p ≤ t → entT t l → entB t p l = true
  | [], p, _, _ => rfl
  | e :: l, p, hp, h => by
    obtain ⟨d, rfl, hd⟩ := h e (by simp)
    have h2 := entT_entB (l := l) h1 (Int.le_refl t) (fun x hx => h x (List.mem_cons_of_mem _ hx))
    have e : entB t p (PV.agg [.int .i64 t, .str d] :: l) = (leB d.length 400 && inB t 1 t && leB p t && entB t t l) := rfl
    rw [e, h2]
    simp [leB, inB]
    omega
theorem tmAt_in {n : ND} (h : NdF n) {i : Int} (h0 : 0 < i) (h1 : i ≤ n.log.length) : 1 ≤ tmAt n.log i ∧ tmAt n.log i ≤ n.term := by
  rw [tmAt, if_neg (by omega)]
  have := entB_get h.en (i - 1).toNat (by omega)
  exact this
/-- A drawn message is a right one. -/
theorem msg_ok {es : List PV} {s : Src} {n : ND} {k : Int} (hc : codeOk es) (h : srcOk s.p s.q k) (hk : 30 ≤ k) (hn : 2 ≤ n.nodes) (hF : NdF n) (ht : n.term ≤ 999) :
    srcOk (msgR es s n).2.p (msgR es s n).2.q (k - 30) ∧ mgB (msgR es s n).1 = true ∧ (msgR es s n).1.term ≤ n.term + 1 ∧ 0 ≤ (msgR es s n).1.frm ∧ (msgR es s n).1.frm < n.nodes ∧ 1 ≤ (msgR es s n).1.term ∧ (msgR es s n).1.to = n.id := by
  have hM := mdOf_F (n := n) hc h (by omega) hn hF.t0
  have hE := mdEs_ok hc hM (by omega)
  have h5 := hF.n5; have i0 := hF.i0; have i1 := hF.i1
  obtain ⟨d, hd⟩ : ∃ d, d = mdOf es s n := ⟨_, rfl⟩
  have hm : msgR es s n = (⟨d.k, d.f, n.id, d.t, d.i, mdLt n d, d.c, d.o, (mdEs es d).1⟩, (mdEs es d).2) := by rw [hd]; rfl
  rw [← hd] at hM hE
  obtain ⟨E, hEd⟩ : ∃ E, E = mdEs es d := ⟨_, rfl⟩
  rw [hm, ← hEd]
  rw [← hEd] at hE
  obtain ⟨e1, e2, e3, e4⟩ := hE
  obtain ⟨k1, k4, f0, f1, fn, t1, tn, d0, d6, c0, c3, hs⟩ := hM
  refine ⟨e1.mono (by omega), ?_, tn, f0, f1, t1, rfl⟩
  have hlt : 0 ≤ mdLt n d ∧ mdLt n d ≤ d.t ∧ (d.i = 0 → mdLt n d = 0) := by
    unfold mdLt
    split
    · rename_i hq
      have := tmAt_in hF hq.1 hq.2
      split <;> omega
    · split <;> omega
  obtain ⟨l1, l2, l3⟩ := hlt
  have b1 : mgB1 ⟨d.k, d.f, n.id, d.t, d.i, mdLt n d, d.c, d.o, E.1⟩ = true := by
    simp only [mgB1, Bool.and_eq_true, inB_iff, Bool.not_eq_true', decide_eq_false_iff_not]
    exact ⟨⟨⟨⟨⟨⟨⟨⟨k1, k4⟩, f0, by omega⟩, i0, by omega⟩, fn⟩, t1, by omega⟩, d0, d6⟩, c0, by omega⟩, l1, l2⟩
  rw [mgB, b1, Bool.true_and]
  by_cases h3 : d.k = 3
  · have hb : ((d.k == 3) = true) := by simp [h3]
    rw [hb, cond_true]
    have hen := entT_entB t1 (show (0 : Int) ≤ d.t by omega) e2
    have hlt2 : (decide ((E.1.length : Int) = 0) || leB (mdLt n d) (nth (nth E.1 0).A 0).I) = true := by
      cases hE1 : E.1 with
      | nil => simp
      | cons x xs =>
        obtain ⟨t', rfl, _⟩ := e2 x (by simp [hE1])
        simp [nth_zero, pv_A, pv_I, leB, l2]
    have hen2 : entsB d.t E.1 = true := by
      rw [entsB, hen, Bool.true_and, leB]; simp; omega
    have hle : leB (E.1.length : Int) (60 - d.i) = true := by simp [leB]; omega
    have h0 : (ltB 0 d.i || decide (mdLt n d = 0)) = true := by
      by_cases hz : d.i = 0
      · simp [l3 hz]
      · simp [ltB]; omega
    simp only [mgB2, hen2, hle, hlt2, h0, Bool.and_true, Bool.true_and]
  · have hb : ((d.k == 3) = false) := by simp [h3]
    rw [hb, cond_false, e4 h3]; rfl

end Go.Proofs.Ytkofjkjcbljkdaa
end

section
namespace Go.Proofs.Ytkofjkjcbljkdaa
variable [LaidG]
set_option maxRecDepth 100000
set_option linter.unusedSimpArgs false

def newND (id nodes t v : Int) (log : List PV) : ND := ⟨id, nodes, t, v, 0, true, log, 0, 0, 5 + id, [], List.replicate nodes.toNat (.int .i64 1), List.replicate nodes.toNat (.int .i64 0)⟩
def c_l08New : FSpec := ⟨[(.rd, .int .i64), (.rd, .int .i64), (.rd, .agg [.int .i64, .int .i64, .list (.agg [.int .i64, .str])])], [.agg [.int .i64, .int .i64, .int .i64, .int .i64, .int .i64, .bool, .list (.agg [.int .i64, .str]), .int .i64, .int .i64, .int .i64, .list (.int .i64), .list (.int .i64), .list (.int .i64)]], true, fun ps => 0 ≤ (nth ps 0).I ∧ (nth ps 0).I ≤ 1000 ∧ 1 ≤ (nth ps 1).I ∧ (nth ps 1).I ≤ 5 ∧ (nth (nth ps 2).A 2).L.length ≤ 1048576,
  fun ps => [(newND (nth ps 0).I (nth ps 1).I (nth (nth ps 2).A 0).I (nth (nth ps 2).A 1).I (nth (nth ps 2).A 2).L).pv], fun _ => []⟩
set_option maxHeartbeats 0 in
theorem k_l08New : FnOk Try.prog 57 c_l08New := by
  refine fn_mk [0, 1, 2, 5, 6, 7, 8] [.cell 6 26] (env_nil (tyTab_ok [])) mixed Try.func57 rfl (by decide) rfl (by decide) rfl ?_
  intro ps hT hpre W hW
  simp only [c_l08New, TyA, Ty, Tys] at hT hpre
  obtain ⟨_, _, rfl, ⟨id, rfl, hid⟩, _, _, rfl, ⟨nodes, rfl, hnodes⟩, _, _, rfl, ⟨_, rfl, _, _, rfl, ⟨t, rfl, ht⟩, _, _, rfl, ⟨v, rfl, hv⟩, _, _, rfl, ⟨log, rfl, hlog, tlog⟩, rfl⟩, rfl⟩ := hT
  simp only [nth_zero, nth_succ, pv_A, pv_I, pv_L] at hpre
  obtain ⟨p1, p2, p3, p4, p5⟩ := hpre
  refine hW.vc [] _ _ ?_
  simp [-List.getD_eq_getElem?_getD, c_l08New]
  have w1 : IntKind.i64.wrap (5 + id) = 5 + id := wrap64 (by omega)
  refine hW.cutS [_] _ _ [.nb 7 26 [.int .i64, .int .i64, .int .i64, .int .i64, .int .i64, .bool, .list (.agg [.int .i64, .str]), .int .i64, .int .i64, .int .i64, .list (.int .i64), .list (.int .i64), .list (.int .i64)]] (fun ys => ys = [.agg [.int .i64 id, .int .i64 nodes, .int .i64 t, .int .i64 v, .int .i64 0, .bool true, .list log, .int .i64 0, .int .i64 0, .int .i64 (5 + id), .list [], .list [], .list (List.replicate nodes.toNat (.int .i64 0))]]) ?_ ?_
  · refine hW.vc [(1, [9, 17], .take 0 <| .take 1 <| .take 2 <| .take 4 <| .take 7 <| .take 8 <| .take 10 <| .take 11 <| .take 13 <| .tak2 3 <| .tak2 5 <| .alt 6 (.alt 9 (.alt 12 (.alt 14 (.take 15 <| .alt 16 (.alt 17 (.done) .stop) .stop) (.alt 16 (.alt 14 (.take 15 <| .alt 17 (.done) .stop) .stop) .stop)) (.alt 14 (.alt 12 (.take 15 <| .alt 16 (.alt 17 (.done) .stop) .stop) (.alt 16 (.alt 12 (.take 15 <| .alt 17 (.done) .stop) .stop) .stop)) (.alt 16 (.alt 12 (.alt 14 (.take 15 <| .alt 17 (.done) .stop) .stop) (.alt 14 (.alt 12 (.take 15 <| .alt 17 (.done) .stop) .stop) .stop)) .stop))) (.alt 12 (.alt 9 (.alt 14 (.take 15 <| .alt 16 (.alt 17 (.done) .stop) .stop) (.alt 16 (.alt 14 (.take 15 <| .alt 17 (.done) .stop) .stop) .stop)) (.alt 14 (.alt 9 (.take 15 <| .alt 16 (.alt 17 (.done) .stop) .stop) (.alt 16 (.alt 9 (.take 15 <| .alt 17 (.done) .stop) .stop) .stop)) (.alt 16 (.alt 9 (.alt 14 (.take 15 <| .alt 17 (.done) .stop) .stop) (.alt 14 (.alt 9 (.take 15 <| .alt 17 (.done) .stop) .stop) .stop)) .stop))) (.alt 14 (.alt 9 (.alt 12 (.take 15 <| .alt 16 (.alt 17 (.done) .stop) .stop) (.alt 16 (.alt 12 (.take 15 <| .alt 17 (.done) .stop) .stop) .stop)) (.alt 12 (.alt 9 (.take 15 <| .alt 16 (.alt 17 (.done) .stop) .stop) (.alt 16 (.alt 9 (.take 15 <| .alt 17 (.done) .stop) .stop) .stop)) (.alt 16 (.alt 9 (.alt 12 (.take 15 <| .alt 17 (.done) .stop) .stop) (.alt 12 (.alt 9 (.take 15 <| .alt 17 (.done) .stop) .stop) .stop)) .stop))) (.alt 16 (.alt 9 (.alt 12 (.alt 14 (.take 15 <| .alt 17 (.done) .stop) .stop) (.alt 14 (.alt 12 (.take 15 <| .alt 17 (.done) .stop) .stop) .stop)) (.alt 12 (.alt 9 (.alt 14 (.take 15 <| .alt 17 (.done) .stop) .stop) (.alt 14 (.alt 9 (.take 15 <| .alt 17 (.done) .stop) .stop) .stop)) (.alt 14 (.alt 9 (.alt 12 (.take 15 <| .alt 17 (.done) .stop) .stop) (.alt 12 (.alt 9 (.take 15 <| .alt 17 (.done) .stop) .stop) .stop)) .stop))) .stop)))) (.alt 12 (.alt 6 (.alt 9 (.alt 14 (.take 15 <| .alt 16 (.alt 17 (.done) .stop) .stop) (.alt 16 (.alt 14 (.take 15 <| .alt 17 (.done) .stop) .stop) .stop)) (.alt 14 (.alt 9 (.take 15 <| .alt 16 (.alt 17 (.done) .stop) .stop) (.alt 16 (.alt 9 (.take 15 <| .alt 17 (.done) .stop) .stop) .stop)) (.alt 16 (.alt 9 (.alt 14 (.take 15 <| .alt 17 (.done) .stop) .stop) (.alt 14 (.alt 9 (.take 15 <| .alt 17 (.done) .stop) .stop) .stop)) .stop))) (.alt 14 (.alt 6 (.alt 9 (.take 15 <| .alt 16 (.alt 17 (.done) .stop) .stop) (.alt 16 (.alt 9 (.take 15 <| .alt 17 (.done) .stop) .stop) .stop)) (.alt 16 (.alt 6 (.alt 9 (.take 15 <| .alt 17 (.done) .stop) .stop) .stop) .stop)) (.alt 16 (.alt 6 (.alt 9 (.alt 14 (.take 15 <| .alt 17 (.done) .stop) .stop) (.alt 14 (.alt 9 (.take 15 <| .alt 17 (.done) .stop) .stop) .stop)) (.alt 14 (.alt 6 (.alt 9 (.take 15 <| .alt 17 (.done) .stop) .stop) .stop) .stop)) .stop))) (.alt 14 (.alt 6 (.alt 9 (.alt 12 (.take 15 <| .alt 16 (.alt 17 (.done) .stop) .stop) (.alt 16 (.alt 12 (.take 15 <| .alt 17 (.done) .stop) .stop) .stop)) (.alt 12 (.alt 9 (.take 15 <| .alt 16 (.alt 17 (.done) .stop) .stop) (.alt 16 (.alt 9 (.take 15 <| .alt 17 (.done) .stop) .stop) .stop)) (.alt 16 (.alt 9 (.alt 12 (.take 15 <| .alt 17 (.done) .stop) .stop) (.alt 12 (.alt 9 (.take 15 <| .alt 17 (.done) .stop) .stop) .stop)) .stop))) (.alt 12 (.alt 6 (.alt 9 (.take 15 <| .alt 16 (.alt 17 (.done) .stop) .stop) (.alt 16 (.alt 9 (.take 15 <| .alt 17 (.done) .stop) .stop) .stop)) (.alt 16 (.alt 6 (.alt 9 (.take 15 <| .alt 17 (.done) .stop) .stop) .stop) .stop)) (.alt 16 (.alt 6 (.alt 9 (.alt 12 (.take 15 <| .alt 17 (.done) .stop) .stop) (.alt 12 (.alt 9 (.take 15 <| .alt 17 (.done) .stop) .stop) .stop)) (.alt 12 (.alt 6 (.alt 9 (.take 15 <| .alt 17 (.done) .stop) .stop) .stop) .stop)) .stop))) (.alt 16 (.alt 6 (.alt 9 (.alt 12 (.alt 14 (.take 15 <| .alt 17 (.done) .stop) .stop) (.alt 14 (.alt 12 (.take 15 <| .alt 17 (.done) .stop) .stop) .stop)) (.alt 12 (.alt 9 (.alt 14 (.take 15 <| .alt 17 (.done) .stop) .stop) (.alt 14 (.alt 9 (.take 15 <| .alt 17 (.done) .stop) .stop) .stop)) (.alt 14 (.alt 9 (.alt 12 (.take 15 <| .alt 17 (.done) .stop) .stop) (.alt 12 (.alt 9 (.take 15 <| .alt 17 (.done) .stop) .stop) .stop)) .stop))) (.alt 12 (.alt 6 (.alt 9 (.alt 14 (.take 15 <| .alt 17 (.done) .stop) .stop) (.alt 14 (.alt 9 (.take 15 <| .alt 17 (.done) .stop) .stop) .stop)) (.alt 14 (.alt 6 (.alt 9 (.take 15 <| .alt 17 (.done) .stop) .stop) .stop) .stop)) (.alt 14 (.alt 6 (.alt 9 (.alt 12 (.take 15 <| .alt 17 (.done) .stop) .stop) (.alt 12 (.alt 9 (.take 15 <| .alt 17 (.done) .stop) .stop) .stop)) (.alt 12 (.alt 6 (.alt 9 (.take 15 <| .alt 17 (.done) .stop) .stop) .stop) .stop)) .stop))) .stop))))] _ _ ?_
    simp (maxSteps := 20000000) [-List.reduceReplicate, -List.getD_eq_getElem?_getD, c_l08New, w1]
    refine ⟨by decide +kernel, ?_⟩
    and_intros <;> omega
  · rintro ys rfl
    refine hW.vc [(1, [9, 17], .take 0 <| .take 1 <| .take 2 <| .take 4 <| .take 7 <| .take 8 <| .take 10 <| .take 11 <| .take 13 <| .tak2 3 <| .tak2 5 <| .alt 6 (.alt 9 (.alt 12 (.alt 14 (.take 15 <| .alt 16 (.alt 17 (.done) .stop) .stop) (.alt 16 (.alt 14 (.take 15 <| .alt 17 (.done) .stop) .stop) .stop)) (.alt 14 (.alt 12 (.take 15 <| .alt 16 (.alt 17 (.done) .stop) .stop) (.alt 16 (.alt 12 (.take 15 <| .alt 17 (.done) .stop) .stop) .stop)) (.alt 16 (.alt 12 (.alt 14 (.take 15 <| .alt 17 (.done) .stop) .stop) (.alt 14 (.alt 12 (.take 15 <| .alt 17 (.done) .stop) .stop) .stop)) .stop))) (.alt 12 (.alt 9 (.alt 14 (.take 15 <| .alt 16 (.alt 17 (.done) .stop) .stop) (.alt 16 (.alt 14 (.take 15 <| .alt 17 (.done) .stop) .stop) .stop)) (.alt 14 (.alt 9 (.take 15 <| .alt 16 (.alt 17 (.done) .stop) .stop) (.alt 16 (.alt 9 (.take 15 <| .alt 17 (.done) .stop) .stop) .stop)) (.alt 16 (.alt 9 (.alt 14 (.take 15 <| .alt 17 (.done) .stop) .stop) (.alt 14 (.alt 9 (.take 15 <| .alt 17 (.done) .stop) .stop) .stop)) .stop))) (.alt 14 (.alt 9 (.alt 12 (.take 15 <| .alt 16 (.alt 17 (.done) .stop) .stop) (.alt 16 (.alt 12 (.take 15 <| .alt 17 (.done) .stop) .stop) .stop)) (.alt 12 (.alt 9 (.take 15 <| .alt 16 (.alt 17 (.done) .stop) .stop) (.alt 16 (.alt 9 (.take 15 <| .alt 17 (.done) .stop) .stop) .stop)) (.alt 16 (.alt 9 (.alt 12 (.take 15 <| .alt 17 (.done) .stop) .stop) (.alt 12 (.alt 9 (.take 15 <| .alt 17 (.done) .stop) .stop) .stop)) .stop))) (.alt 16 (.alt 9 (.alt 12 (.alt 14 (.take 15 <| .alt 17 (.done) .stop) .stop) (.alt 14 (.alt 12 (.take 15 <| .alt 17 (.done) .stop) .stop) .stop)) (.alt 12 (.alt 9 (.alt 14 (.take 15 <| .alt 17 (.done) .stop) .stop) (.alt 14 (.alt 9 (.take 15 <| .alt 17 (.done) .stop) .stop) .stop)) (.alt 14 (.alt 9 (.alt 12 (.take 15 <| .alt 17 (.done) .stop) .stop) (.alt 12 (.alt 9 (.take 15 <| .alt 17 (.done) .stop) .stop) .stop)) .stop))) .stop)))) (.alt 12 (.alt 6 (.alt 9 (.alt 14 (.take 15 <| .alt 16 (.alt 17 (.done) .stop) .stop) (.alt 16 (.alt 14 (.take 15 <| .alt 17 (.done) .stop) .stop) .stop)) (.alt 14 (.alt 9 (.take 15 <| .alt 16 (.alt 17 (.done) .stop) .stop) (.alt 16 (.alt 9 (.take 15 <| .alt 17 (.done) .stop) .stop) .stop)) (.alt 16 (.alt 9 (.alt 14 (.take 15 <| .alt 17 (.done) .stop) .stop) (.alt 14 (.alt 9 (.take 15 <| .alt 17 (.done) .stop) .stop) .stop)) .stop))) (.alt 14 (.alt 6 (.alt 9 (.take 15 <| .alt 16 (.alt 17 (.done) .stop) .stop) (.alt 16 (.alt 9 (.take 15 <| .alt 17 (.done) .stop) .stop) .stop)) (.alt 16 (.alt 6 (.alt 9 (.take 15 <| .alt 17 (.done) .stop) .stop) .stop) .stop)) (.alt 16 (.alt 6 (.alt 9 (.alt 14 (.take 15 <| .alt 17 (.done) .stop) .stop) (.alt 14 (.alt 9 (.take 15 <| .alt 17 (.done) .stop) .stop) .stop)) (.alt 14 (.alt 6 (.alt 9 (.take 15 <| .alt 17 (.done) .stop) .stop) .stop) .stop)) .stop))) (.alt 14 (.alt 6 (.alt 9 (.alt 12 (.take 15 <| .alt 16 (.alt 17 (.done) .stop) .stop) (.alt 16 (.alt 12 (.take 15 <| .alt 17 (.done) .stop) .stop) .stop)) (.alt 12 (.alt 9 (.take 15 <| .alt 16 (.alt 17 (.done) .stop) .stop) (.alt 16 (.alt 9 (.take 15 <| .alt 17 (.done) .stop) .stop) .stop)) (.alt 16 (.alt 9 (.alt 12 (.take 15 <| .alt 17 (.done) .stop) .stop) (.alt 12 (.alt 9 (.take 15 <| .alt 17 (.done) .stop) .stop) .stop)) .stop))) (.alt 12 (.alt 6 (.alt 9 (.take 15 <| .alt 16 (.alt 17 (.done) .stop) .stop) (.alt 16 (.alt 9 (.take 15 <| .alt 17 (.done) .stop) .stop) .stop)) (.alt 16 (.alt 6 (.alt 9 (.take 15 <| .alt 17 (.done) .stop) .stop) .stop) .stop)) (.alt 16 (.alt 6 (.alt 9 (.alt 12 (.take 15 <| .alt 17 (.done) .stop) .stop) (.alt 12 (.alt 9 (.take 15 <| .alt 17 (.done) .stop) .stop) .stop)) (.alt 12 (.alt 6 (.alt 9 (.take 15 <| .alt 17 (.done) .stop) .stop) .stop) .stop)) .stop))) (.alt 16 (.alt 6 (.alt 9 (.alt 12 (.alt 14 (.take 15 <| .alt 17 (.done) .stop) .stop) (.alt 14 (.alt 12 (.take 15 <| .alt 17 (.done) .stop) .stop) .stop)) (.alt 12 (.alt 9 (.alt 14 (.take 15 <| .alt 17 (.done) .stop) .stop) (.alt 14 (.alt 9 (.take 15 <| .alt 17 (.done) .stop) .stop) .stop)) (.alt 14 (.alt 9 (.alt 12 (.take 15 <| .alt 17 (.done) .stop) .stop) (.alt 12 (.alt 9 (.take 15 <| .alt 17 (.done) .stop) .stop) .stop)) .stop))) (.alt 12 (.alt 6 (.alt 9 (.alt 14 (.take 15 <| .alt 17 (.done) .stop) .stop) (.alt 14 (.alt 9 (.take 15 <| .alt 17 (.done) .stop) .stop) .stop)) (.alt 14 (.alt 6 (.alt 9 (.take 15 <| .alt 17 (.done) .stop) .stop) .stop) .stop)) (.alt 14 (.alt 6 (.alt 9 (.alt 12 (.take 15 <| .alt 17 (.done) .stop) .stop) (.alt 12 (.alt 9 (.take 15 <| .alt 17 (.done) .stop) .stop) .stop)) (.alt 12 (.alt 6 (.alt 9 (.take 15 <| .alt 17 (.done) .stop) .stop) .stop) .stop)) .stop))) .stop))))] _ _ ?_
    simp [-List.reduceReplicate, -List.getD_eq_getElem?_getD, c_l08New]
    refine hW.loopS _ _ _ [.bx 7 [.int .i64, .int .i64, .int .i64, .int .i64, .int .i64, .bool, .list (.agg [.int .i64, .str]), .int .i64, .int .i64, .int .i64, .list (.int .i64), .list (.int .i64), .list (.int .i64)], .sl 8 .dp (.int .i64)] (fun ys => ∃ i : Nat, ys = [.agg [.int .i64 id, .int .i64 nodes, .int .i64 t, .int .i64 v, .int .i64 0, .bool true, .list log, .int .i64 0, .int .i64 0, .int .i64 (5 + id), .list [], .list (List.replicate i (.int .i64 1)), .list (List.replicate nodes.toNat (.int .i64 0))], .int .i64 i] ∧ (i : Int) ≤ nodes) (fun ys => nodes.toNat - (nth ys 1).I.toNat) ?_ ?_
    · simp [-List.reduceReplicate, -List.getD_eq_getElem?_getD, c_l08New]
      exact ⟨0, ⟨rfl, rfl⟩, by omega⟩
    · rintro ys ⟨i, rfl, g1⟩
      refine hW.vc [(1, [9, 17], .take 0 <| .take 1 <| .take 2 <| .take 4 <| .take 7 <| .take 8 <| .take 10 <| .take 11 <| .take 13 <| .tak2 3 <| .tak2 5 <| .alt 6 (.alt 9 (.alt 12 (.alt 14 (.take 15 <| .alt 16 (.alt 17 (.done) .stop) .stop) (.alt 16 (.alt 14 (.take 15 <| .alt 17 (.done) .stop) .stop) .stop)) (.alt 14 (.alt 12 (.take 15 <| .alt 16 (.alt 17 (.done) .stop) .stop) (.alt 16 (.alt 12 (.take 15 <| .alt 17 (.done) .stop) .stop) .stop)) (.alt 16 (.alt 12 (.alt 14 (.take 15 <| .alt 17 (.done) .stop) .stop) (.alt 14 (.alt 12 (.take 15 <| .alt 17 (.done) .stop) .stop) .stop)) .stop))) (.alt 12 (.alt 9 (.alt 14 (.take 15 <| .alt 16 (.alt 17 (.done) .stop) .stop) (.alt 16 (.alt 14 (.take 15 <| .alt 17 (.done) .stop) .stop) .stop)) (.alt 14 (.alt 9 (.take 15 <| .alt 16 (.alt 17 (.done) .stop) .stop) (.alt 16 (.alt 9 (.take 15 <| .alt 17 (.done) .stop) .stop) .stop)) (.alt 16 (.alt 9 (.alt 14 (.take 15 <| .alt 17 (.done) .stop) .stop) (.alt 14 (.alt 9 (.take 15 <| .alt 17 (.done) .stop) .stop) .stop)) .stop))) (.alt 14 (.alt 9 (.alt 12 (.take 15 <| .alt 16 (.alt 17 (.done) .stop) .stop) (.alt 16 (.alt 12 (.take 15 <| .alt 17 (.done) .stop) .stop) .stop)) (.alt 12 (.alt 9 (.take 15 <| .alt 16 (.alt 17 (.done) .stop) .stop) (.alt 16 (.alt 9 (.take 15 <| .alt 17 (.done) .stop) .stop) .stop)) (.alt 16 (.alt 9 (.alt 12 (.take 15 <| .alt 17 (.done) .stop) .stop) (.alt 12 (.alt 9 (.take 15 <| .alt 17 (.done) .stop) .stop) .stop)) .stop))) (.alt 16 (.alt 9 (.alt 12 (.alt 14 (.take 15 <| .alt 17 (.done) .stop) .stop) (.alt 14 (.alt 12 (.take 15 <| .alt 17 (.done) .stop) .stop) .stop)) (.alt 12 (.alt 9 (.alt 14 (.take 15 <| .alt 17 (.done) .stop) .stop) (.alt 14 (.alt 9 (.take 15 <| .alt 17 (.done) .stop) .stop) .stop)) (.alt 14 (.alt 9 (.alt 12 (.take 15 <| .alt 17 (.done) .stop) .stop) (.alt 12 (.alt 9 (.take 15 <| .alt 17 (.done) .stop) .stop) .stop)) .stop))) .stop)))) (.alt 12 (.alt 6 (.alt 9 (.alt 14 (.take 15 <| .alt 16 (.alt 17 (.done) .stop) .stop) (.alt 16 (.alt 14 (.take 15 <| .alt 17 (.done) .stop) .stop) .stop)) (.alt 14 (.alt 9 (.take 15 <| .alt 16 (.alt 17 (.done) .stop) .stop) (.alt 16 (.alt 9 (.take 15 <| .alt 17 (.done) .stop) .stop) .stop)) (.alt 16 (.alt 9 (.alt 14 (.take 15 <| .alt 17 (.done) .stop) .stop) (.alt 14 (.alt 9 (.take 15 <| .alt 17 (.done) .stop) .stop) .stop)) .stop))) (.alt 14 (.alt 6 (.alt 9 (.take 15 <| .alt 16 (.alt 17 (.done) .stop) .stop) (.alt 16 (.alt 9 (.take 15 <| .alt 17 (.done) .stop) .stop) .stop)) (.alt 16 (.alt 6 (.alt 9 (.take 15 <| .alt 17 (.done) .stop) .stop) .stop) .stop)) (.alt 16 (.alt 6 (.alt 9 (.alt 14 (.take 15 <| .alt 17 (.done) .stop) .stop) (.alt 14 (.alt 9 (.take 15 <| .alt 17 (.done) .stop) .stop) .stop)) (.alt 14 (.alt 6 (.alt 9 (.take 15 <| .alt 17 (.done) .stop) .stop) .stop) .stop)) .stop))) (.alt 14 (.alt 6 (.alt 9 (.alt 12 (.take 15 <| .alt 16 (.alt 17 (.done) .stop) .stop) (.alt 16 (.alt 12 (.take 15 <| .alt 17 (.done) .stop) .stop) .stop)) (.alt 12 (.alt 9 (.take 15 <| .alt 16 (.alt 17 (.done) .stop) .stop) (.alt 16 (.alt 9 (.take 15 <| .alt 17 (.done) .stop) .stop) .stop)) (.alt 16 (.alt 9 (.alt 12 (.take 15 <| .alt 17 (.done) .stop) .stop) (.alt 12 (.alt 9 (.take 15 <| .alt 17 (.done) .stop) .stop) .stop)) .stop))) (.alt 12 (.alt 6 (.alt 9 (.take 15 <| .alt 16 (.alt 17 (.done) .stop) .stop) (.alt 16 (.alt 9 (.take 15 <| .alt 17 (.done) .stop) .stop) .stop)) (.alt 16 (.alt 6 (.alt 9 (.take 15 <| .alt 17 (.done) .stop) .stop) .stop) .stop)) (.alt 16 (.alt 6 (.alt 9 (.alt 12 (.take 15 <| .alt 17 (.done) .stop) .stop) (.alt 12 (.alt 9 (.take 15 <| .alt 17 (.done) .stop) .stop) .stop)) (.alt 12 (.alt 6 (.alt 9 (.take 15 <| .alt 17 (.done) .stop) .stop) .stop) .stop)) .stop))) (.alt 16 (.alt 6 (.alt 9 (.alt 12 (.alt 14 (.take 15 <| .alt 17 (.done) .stop) .stop) (.alt 14 (.alt 12 (.take 15 <| .alt 17 (.done) .stop) .stop) .stop)) (.alt 12 (.alt 9 (.alt 14 (.take 15 <| .alt 17 (.done) .stop) .stop) (.alt 14 (.alt 9 (.take 15 <| .alt 17 (.done) .stop) .stop) .stop)) (.alt 14 (.alt 9 (.alt 12 (.take 15 <| .alt 17 (.done) .stop) .stop) (.alt 12 (.alt 9 (.take 15 <| .alt 17 (.done) .stop) .stop) .stop)) .stop))) (.alt 12 (.alt 6 (.alt 9 (.alt 14 (.take 15 <| .alt 17 (.done) .stop) .stop) (.alt 14 (.alt 9 (.take 15 <| .alt 17 (.done) .stop) .stop) .stop)) (.alt 14 (.alt 6 (.alt 9 (.take 15 <| .alt 17 (.done) .stop) .stop) .stop) .stop)) (.alt 14 (.alt 6 (.alt 9 (.alt 12 (.take 15 <| .alt 17 (.done) .stop) .stop) (.alt 12 (.alt 9 (.take 15 <| .alt 17 (.done) .stop) .stop) .stop)) (.alt 12 (.alt 6 (.alt 9 (.take 15 <| .alt 17 (.done) .stop) .stop) .stop) .stop)) .stop))) .stop))))] _ _ ?_
      simp [-List.reduceReplicate, -List.getD_eq_getElem?_getD, c_l08New, newND, ND.pv]
      rw [wrap64 (n := (i : Int) + 1) (by omega)]
      refine ⟨fun h => ⟨by omega, fun _ => ⟨⟨i + 1, ⟨(List.replicate_succ').symm, rfl⟩, by omega⟩, by omega⟩⟩, fun h => ?_⟩
      have : i = nodes.toNat := by omega
      rw [this]

end Go.Proofs.Ytkofjkjcbljkdaa
end

section
namespace Go.Proofs.Ytkofjkjcbljkdaa
variable [LaidG]
set_option maxRecDepth 100000
set_option linter.unusedSimpArgs false

/-- A leader's log with one more entry. -/
def propN (n : ND) (d : List UInt8) : ND := { n with log := n.log ++ [.agg [.int .i64 n.term, .str d]] }
def propA (n : ND) (d : List UInt8) : ND := { propN n d with com := advG (propN n d) (n.log.length + 1) }
def propR (n : ND) (d : List UInt8) : ND × List PV × Int :=
  if n.up = false then (n, [], 13) else if n.role ≠ 2 then (n, [], 12) else if (n.log.length : Int) = 60 then (n, [], 7) else (propA n d, repAll (propA n d) n.nodes.toNat, 0)
theorem mono_snoc {t : Int} {es : List PV} {d : List UInt8} (h : monoP t es) : monoP t (es ++ [.agg [.int .i64 t, .str d]]) := by
  intro j hj
  rw [List.length_append, List.length_singleton] at hj
  by_cases h1 : j < es.length
  · rw [nth_app_l h1]
    refine ⟨(h j h1).1, fun i hi => ?_⟩
    rw [nth_app_l (by omega)]
    exact (h j h1).2 i hi
  · have : j = es.length := by omega
    subst this
    rw [nth_app_r]
    refine ⟨Int.le_refl _, fun i hi => ?_⟩
    by_cases h2 : i < es.length
    · rw [nth_app_l h2]; exact (h i h2).1
    · have : i = es.length := by omega
      subst this
      rw [nth_app_r]; exact Int.le_refl _
theorem prop_reps {n : ND} {d : List UInt8} (h : NdF n) (hl : n.log.length ≤ 1000) : repsOk (propA n d) := by
  refine ⟨h.n1, h.n5, fun i hi => ?_⟩
  have h1 := h.nx
  have h2 := h.ms
  have hi' : (i : Int) < n.nodes := hi
  have := nm_get h.nm (by omega) i (by omega)
  have hll : ((propA n d).log.length : Int) = n.log.length + 1 := by show ((n.log ++ [_]).length : Int) = _; simp
  refine ⟨by omega, by show (i : Int) < n.nx.length; omega, ?_, ?_, by omega⟩
  · show 1 ≤ (nth n.nx ((i : Int)).toNat).I
    rw [Int.toNat_natCast]; omega
  · show (nth n.nx ((i : Int)).toNat).I ≤ ((propA n d).log.length : Int) + 1
    rw [Int.toNat_natCast, hll]; omega
def c_l08Propose : FSpec := ⟨[(.rd, .agg [.int .i64, .int .i64, .int .i64, .int .i64, .int .i64, .bool, .list (.agg [.int .i64, .str]), .int .i64, .int .i64, .int .i64, .list (.int .i64), .list (.int .i64), .list (.int .i64)]), (.rd, .str)], [.agg [.int .i64, .int .i64, .int .i64, .int .i64, .int .i64, .bool, .list (.agg [.int .i64, .str]), .int .i64, .int .i64, .int .i64, .list (.int .i64), .list (.int .i64), .list (.int .i64)], .list (.agg [.int .i64, .int .i64, .int .i64, .int .i64, .int .i64, .int .i64, .int .i64, .bool, .list (.agg [.int .i64, .str])]), .int .i64], false, fun ps => NdF (ndOf (nth ps 0).A) ∧ (nth (nth ps 0).A 10).L.length ≤ 1048576,
  fun ps => [(propR (ndOf (nth ps 0).A) (nth ps 1).S).1.pv, .list (propR (ndOf (nth ps 0).A) (nth ps 1).S).2.1, .int .i64 (propR (ndOf (nth ps 0).A) (nth ps 1).S).2.2], fun _ => []⟩
theorem k_l08Propose : FnOk Try.prog 58 c_l08Propose := by
  refine fn_mk [0, 1, 2, 4, 5, 6, 7] [.cell 4 26, .tmp 5, .tmp 6] (env_cons (cs := []) k_all (env_cons (cs := []) k_sAdvance (env_cons (cs := []) k_l08Own (env_nil (tyTab_ok []))))) mixed Try.func58 rfl (by decide) rfl (by decide) rfl ?_
  intro ps hT hpre W hW
  simp only [c_l08Propose, TyA, Ty, Tys] at hT hpre
  obtain ⟨_, _, rfl, ⟨_, rfl, _, _, rfl, ⟨n0, rfl, hn0⟩, _, _, rfl, ⟨n1, rfl, hn1⟩, _, _, rfl, ⟨n2, rfl, hn2⟩, _, _, rfl, ⟨n3, rfl, hn3⟩, _, _, rfl, ⟨n4, rfl, hn4⟩, _, _, rfl, ⟨u, rfl⟩, _, _, rfl, ⟨es, rfl, hes, tes⟩, _, _, rfl, ⟨n5, rfl, hn5⟩, _, _, rfl, ⟨n6, rfl, hn6⟩, _, _, rfl, ⟨n7, rfl, hn7⟩, _, _, rfl, ⟨vs, rfl, hvs, tvs⟩, _, _, rfl, ⟨xs, rfl, hxs, txs⟩, _, _, rfl, ⟨ms, rfl, hms, tms⟩, rfl⟩, _, _, rfl, ⟨d, rfl, hd⟩, rfl⟩ := hT
  simp only [nth_zero, nth_succ, pv_I, pv_L, pv_A, pv_B, ndOf] at hpre
  refine hW.vc [(8, [11, 15], .take 0 <| .take 1 <| .take 2 <| .take 3 <| .take 4 <| .take 5 <| .take 6 <| .take 7 <| .take 8 <| .take 9 <| .alt 10 (.alt 11 (.take 12 <| .take 13 <| .take 14 <| .alt 15 (.done) .stop) .stop) .stop), (11, [8], .take 0 <| .take 1 <| .take 2 <| .take 3 <| .take 4 <| .take 5 <| .take 6 <| .tak2 7 <| .alt 8 (.alt 9 (.alt 10 (.done) .stop) .stop) .stop)] _ _ ?_
  simp [-List.getD_eq_getElem?_getD, c_l08Propose, c_l08Own, c_sAdvance, c_all, c_toNode, c_toNode, ndOf, ND.rv, ND.pv]
  obtain ⟨hF, q3⟩ := hpre
  have a1 : es.length ≤ 60 := hF.l6
  have a2 : (xs.length : Int) = n1 := hF.nx
  have a3 : (ms.length : Int) = n1 := hF.ms
  have a4 : n1 ≤ 5 := hF.n5
  have a5 : 0 ≤ n5 := hF.c0
  have a6 : 1 ≤ n1 := hF.n1
  obtain ⟨nd, hnd⟩ : ∃ nd : ND, nd = ⟨n0, n1, n2, n3, n4, u, es, n5, n6, n7, vs, xs, ms⟩ := ⟨_, rfl⟩
  rw [← hnd]
  refine ⟨fun h => ?_, fun h => ⟨fun h2 => ?_, fun h2 _ => ⟨fun h3 => ?_, fun h3 => ⟨⟨by omega, q3, by omega, by omega⟩, by decide +kernel, by omega, fun _ => ?_⟩⟩⟩⟩
  · have e : propR nd d = (nd, [], 13) := by rw [propR, if_pos (by rw [hnd]; exact h)]
    rw [e, hnd]
    and_intros <;> rfl
  · have e : propR nd d = (nd, [], 12) := by rw [propR, if_neg (by rw [hnd]; simp [h]), if_pos (by rw [hnd]; exact h2)]
    rw [e, hnd]
    and_intros <;> rfl
  · have e : propR nd d = (nd, [], 7) := by rw [propR, if_neg (by rw [hnd]; simp [h]), if_neg (by rw [hnd]; simp [h2]), if_pos (by rw [hnd]; exact h3)]
    rw [e, hnd]
    and_intros <;> rfl
  · have e : propR nd d = (propA nd d, repAll (propA nd d) nd.nodes.toNat, 0) := by rw [propR, if_neg (by rw [hnd]; simp [h]), if_neg (by rw [hnd]; simp [h2]), if_neg (by rw [hnd]; exact h3)]
    have hA : propA nd d = ⟨n0, n1, n2, n3, n4, u, es ++ [.agg [.int .i64 n2, .str d]], advG ⟨n0, n1, n2, n3, n4, u, es ++ [.agg [.int .i64 n2, .str d]], n5, n6, n7, vs, xs, ms⟩ (es.length + 1), n6, n7, vs, xs, ms⟩ := by rw [hnd]; rfl
    have hR : repsOk (propA nd d) := prop_reps (by rw [hnd]; exact hF) (by rw [hnd]; show es.length ≤ 1000; omega)
    have hN : nd.nodes = n1 := by rw [hnd]
    rw [e, hN]
    rw [hA] at hR ⊢
    exact ⟨⟨a5, a3, a4, by omega, mono_snoc (mono_of hF.en)⟩, hR, by decide +kernel, by and_intros <;> rfl⟩
/-- Propose, where the node is given away. -/
def c_l08ProposeW : FSpec := ⟨[(.ow, .agg [.int .i64, .int .i64, .int .i64, .int .i64, .int .i64, .bool, .list (.agg [.int .i64, .str]), .int .i64, .int .i64, .int .i64, .list (.int .i64), .list (.int .i64), .list (.int .i64)]), (.rd, .str)], [.agg [.int .i64, .int .i64, .int .i64, .int .i64, .int .i64, .bool, .list (.agg [.int .i64, .str]), .int .i64, .int .i64, .int .i64, .list (.int .i64), .list (.int .i64), .list (.int .i64)], .list (.agg [.int .i64, .int .i64, .int .i64, .int .i64, .int .i64, .int .i64, .int .i64, .bool, .list (.agg [.int .i64, .str])]), .int .i64], true, fun ps => NdF (ndOf (nth ps 0).A) ∧ (nth (nth ps 0).A 10).L.length ≤ 1048576,
  fun ps => [(propR (ndOf (nth ps 0).A) (nth ps 1).S).1.pv, .list (propR (ndOf (nth ps 0).A) (nth ps 1).S).2.1, .int .i64 (propR (ndOf (nth ps 0).A) (nth ps 1).S).2.2], fun _ => []⟩
theorem k_l08ProposeW : FnOk Try.prog 58 c_l08ProposeW := by
  refine fn_mk [0, 1, 2, 4, 5, 6, 7] [.cell 4 26, .tmp 5, .tmp 6] (env_cons (cs := []) k_all (env_cons (cs := []) k_sAdvance (env_cons (cs := []) k_l08Own (env_nil (tyTab_ok []))))) mixed Try.func58 rfl (by decide) rfl (by decide) rfl ?_
  intro ps hT hpre W hW
  simp only [c_l08ProposeW, TyA, Ty, Tys] at hT hpre
  obtain ⟨_, _, rfl, ⟨_, rfl, _, _, rfl, ⟨n0, rfl, hn0⟩, _, _, rfl, ⟨n1, rfl, hn1⟩, _, _, rfl, ⟨n2, rfl, hn2⟩, _, _, rfl, ⟨n3, rfl, hn3⟩, _, _, rfl, ⟨n4, rfl, hn4⟩, _, _, rfl, ⟨u, rfl⟩, _, _, rfl, ⟨es, rfl, hes, tes⟩, _, _, rfl, ⟨n5, rfl, hn5⟩, _, _, rfl, ⟨n6, rfl, hn6⟩, _, _, rfl, ⟨n7, rfl, hn7⟩, _, _, rfl, ⟨vs, rfl, hvs, tvs⟩, _, _, rfl, ⟨xs, rfl, hxs, txs⟩, _, _, rfl, ⟨ms, rfl, hms, tms⟩, rfl⟩, _, _, rfl, ⟨d, rfl, hd⟩, rfl⟩ := hT
  simp only [nth_zero, nth_succ, pv_I, pv_L, pv_A, pv_B, ndOf] at hpre
  refine hW.vc [(8, [11, 15], .take 0 <| .take 1 <| .take 2 <| .take 3 <| .take 4 <| .take 5 <| .take 6 <| .take 7 <| .take 8 <| .take 9 <| .alt 10 (.alt 11 (.take 12 <| .take 13 <| .take 14 <| .alt 15 (.done) .stop) .stop) .stop), (11, [8], .take 0 <| .take 1 <| .take 2 <| .take 3 <| .take 4 <| .take 5 <| .take 6 <| .tak2 7 <| .alt 8 (.alt 9 (.alt 10 (.done) .stop) .stop) .stop)] _ _ ?_
  simp [-List.getD_eq_getElem?_getD, c_l08ProposeW, c_l08Own, c_sAdvance, c_all, c_toNode, c_toNode, ndOf, ND.rv, ND.pv]
  obtain ⟨hF, q3⟩ := hpre
  have a1 : es.length ≤ 60 := hF.l6
  have a2 : (xs.length : Int) = n1 := hF.nx
  have a3 : (ms.length : Int) = n1 := hF.ms
  have a4 : n1 ≤ 5 := hF.n5
  have a5 : 0 ≤ n5 := hF.c0
  have a6 : 1 ≤ n1 := hF.n1
  obtain ⟨nd, hnd⟩ : ∃ nd : ND, nd = ⟨n0, n1, n2, n3, n4, u, es, n5, n6, n7, vs, xs, ms⟩ := ⟨_, rfl⟩
  rw [← hnd]
  refine ⟨fun h => ?_, fun h => ⟨fun h2 => ?_, fun h2 _ => ⟨fun h3 => ?_, fun h3 => ⟨⟨by omega, q3, by omega, by omega⟩, by decide +kernel, by omega, fun _ => ?_⟩⟩⟩⟩
  · have e : propR nd d = (nd, [], 13) := by rw [propR, if_pos (by rw [hnd]; exact h)]
    rw [e, hnd]
    and_intros <;> rfl
  · have e : propR nd d = (nd, [], 12) := by rw [propR, if_neg (by rw [hnd]; simp [h]), if_pos (by rw [hnd]; exact h2)]
    rw [e, hnd]
    and_intros <;> rfl
  · have e : propR nd d = (nd, [], 7) := by rw [propR, if_neg (by rw [hnd]; simp [h]), if_neg (by rw [hnd]; simp [h2]), if_pos (by rw [hnd]; exact h3)]
    rw [e, hnd]
    and_intros <;> rfl
  · have e : propR nd d = (propA nd d, repAll (propA nd d) nd.nodes.toNat, 0) := by rw [propR, if_neg (by rw [hnd]; simp [h]), if_neg (by rw [hnd]; simp [h2]), if_neg (by rw [hnd]; exact h3)]
    have hA : propA nd d = ⟨n0, n1, n2, n3, n4, u, es ++ [.agg [.int .i64 n2, .str d]], advG ⟨n0, n1, n2, n3, n4, u, es ++ [.agg [.int .i64 n2, .str d]], n5, n6, n7, vs, xs, ms⟩ (es.length + 1), n6, n7, vs, xs, ms⟩ := by rw [hnd]; rfl
    have hR : repsOk (propA nd d) := prop_reps (by rw [hnd]; exact hF) (by rw [hnd]; show es.length ≤ 1000; omega)
    have hN : nd.nodes = n1 := by rw [hnd]
    rw [e, hN]
    rw [hA] at hR ⊢
    exact ⟨⟨a5, a3, a4, by omega, mono_snoc (mono_of hF.en)⟩, hR, by decide +kernel, by and_intros <;> rfl⟩

/-- A drawn node's steps. -/
structure Gd (n : ND) (t : Int) : Prop where
  F : NdF n
  u : n.up = true
  rt : n.role ≠ 0 → 1 ≤ n.term
  t : n.term ≤ t
def dataW : List UInt8 := [100, 97, 116, 97]
def vtd (n : ND) (p : Int) : MG := ⟨2, p, n.id, n.term, 0, 0, 0, true, []⟩
def drwN (es : List PV) (nodes : Int) (s : Src) (n : ND) : ND × Src :=
  if (srcN es s 4).1 = 0 then ((propR n dataW).1, (srcN es s 4).2)
  else if (srcN es s 4).1 = 1 then
    (if 1 < nodes then (if nodeB (handR (newT n (msgR es (srcN es s 4).2 n).1.term) (msgR es (srcN es s 4).2 n).1).1 then (handR (newT n (msgR es (srcN es s 4).2 n).1.term) (msgR es (srcN es s 4).2 n).1).1 else n, (msgR es (srcN es s 4).2 n).2) else (n, (srcN es s 4).2))
  else if (srcN es s 4).1 = 2 then
    (if 1 < nodes ∧ 0 < n.term then ((handR (newT n n.term) (vtd n (peerR es (srcN es s 4).2 nodes n.id).1)).1, (peerR es (srcN es s 4).2 nodes n.id).2) else (n, (srcN es s 4).2))
  else ((tickN n (srcN es (srcN es s 4).2 9).1).1, (srcN es (srcN es s 4).2 9).2)
def drwL (es : List PV) (nodes : Int) : Nat → Src → ND → ND × Src
  | 0, s, n => (n, s)
  | k + 1, s, n => drwL es nodes k (drwN es nodes s n).2 (drwN es nodes s n).1
def dNs (j : Int) : Int := (nth [.int .i64 3, .int .i64 3, .int .i64 5, .int .i64 1] j.toNat).I
def drwR (es : List PV) (s : Src) : ND × Src :=
  drwL es (dNs (srcN es s 4).1) (srcN es (srcN es (srcN es s 4).2 (dNs (srcN es s 4).1)).2 20).1.toNat (srcN es (srcN es (srcN es s 4).2 (dNs (srcN es s 4).1)).2 20).2
    (newND (srcN es (srcN es s 4).2 (dNs (srcN es s 4).1)).1 (dNs (srcN es s 4).1) 0 (-1) [])
theorem dNs_in {j : Int} (h0 : 0 ≤ j) (h1 : j < 4) : 1 ≤ dNs j ∧ dNs j ≤ 5 := by
  have : j = 0 ∨ j = 1 ∨ j = 2 ∨ j = 3 := by omega
  rcases this with rfl | rfl | rfl | rfl <;> decide
theorem new_G {id nodes : Int} (h0 : 0 ≤ id) (h1 : id < nodes) (h5 : nodes ≤ 5) : Gd (newND id nodes 0 (-1) []) 0 := by
  refine ⟨⟨by show 1 ≤ nodes; omega, h5, h0, by show id ≤ nodes - 1; omega, by show (0 : Int) ≤ 0; decide, by show (0 : Int) ≤ 1000; decide, rfl, by show (0 : Nat) ≤ 60; decide, by show (0 : Int) ≤ 0; decide, by show (0 : Int) ≤ 2; decide, .inl rfl, by show (0 : Int) ≤ 0; decide, by show (0 : Int) ≤ 0; decide, by show (0 : Int) ≤ 0; decide, by show (0 : Int) ≤ 1000; decide,
    by show 5 ≤ 5 + id; omega, by show 5 + id ≤ 100; omega, ?_, ?_, rfl, nm_rep (show (0 : Int) ≤ 0 by decide) _, ⟨by show (-1 : Int) ≤ -1; decide, by show (-1 : Int) ≤ 4; decide, by show (-1 : Int) < nodes; omega⟩⟩, rfl, fun h => absurd rfl h, by show (0 : Int) ≤ 0; decide⟩
  · show ((List.replicate nodes.toNat (PV.int .i64 1)).length : Int) = nodes
    rw [List.length_replicate]; omega
  · show ((List.replicate nodes.toNat (PV.int .i64 0)).length : Int) = nodes
    rw [List.length_replicate]; omega
theorem Gd.step {n x : ND} {t k : Int} (h : Gd n t) (hx : NdF x) (hs : Stp n x k) : Gd x (t + k) := ⟨hx, by rw [hs.u, h.u], hs.rt h.rt, by have := hs.t1; have := h.t; omega⟩
theorem Gd.mono {n : ND} {t k : Int} (h : Gd n t) (hk : t ≤ k) : Gd n k := ⟨h.F, h.u, h.rt, by have := h.t; omega⟩
theorem prop_G {n : ND} {t : Int} {d : List UInt8} (h : Gd n t) (hd : leB d.length 400 = true) : Gd (propR n d).1 t := by
  unfold propR
  split
  · exact h
  · split
    · exact h
    · rename_i _ hr
      split
      · exact h
      · rename_i hl
        have hF := h.F
        have h2 : n.role = 2 := Decidable.byContradiction hr
        have ht := h.rt (by rw [h2]; decide)
        have l6 := hF.l6
        have c0 := hF.c0; have c1 := hF.c1
        have hc := advG_in (propN n d) hF.c0 (n.log.length + 1)
        have hcl : (propN n d).com = n.com := rfl
        have hcm : (propA n d).com = advG (propN n d) (n.log.length + 1) := rfl
        have hll : ((propA n d).log.length : Int) = n.log.length + 1 := by show ((n.log ++ [_]).length : Int) = _; simp
        have hen : entB n.term 0 (n.log ++ [.agg [.int .i64 n.term, .str d]]) = true := entB_snoc (e := .agg [.int .i64 n.term, .str d]) hd ht rfl (by omega) hF.en
        have hl60 : (propA n d).log.length ≤ 60 := by omega
        have hnm := nmB_mono (l := n.log.length) (l' := (propA n d).log.length) (by omega) hF.nm
        refine ⟨⟨hF.n1, hF.n5, hF.i0, hF.i1, hF.t0, hF.t1, hen, hl60, hF.r0, hF.r2, hF.ur, by show 0 ≤ (propA n d).com; omega, by show (propA n d).com ≤ ((propA n d).log.length : Int); omega, hF.e0, hF.e1, hF.w5, hF.w1, hF.nx, hF.ms, hF.vo, hnm, hF.vt⟩, h.u, h.rt, h.t⟩
theorem drwN_ok {es : List PV} {nodes : Int} {s : Src} {n : ND} {t k : Int} (hc : codeOk es) (h : srcOk s.p s.q k) (hk : 40 ≤ k) (hG : Gd n t) (hn : n.nodes = nodes) (ht : t ≤ 900) :
    srcOk (drwN es nodes s n).2.p (drwN es nodes s n).2.q (k - 40) ∧ Gd (drwN es nodes s n).1 (t + 1) ∧ (drwN es nodes s n).1.nodes = nodes := by
  have h1 := srcN_ok (n := 4) hc h (by omega)
  have hF := hG.F
  have ht' := hG.t
  have t0 := hF.t0
  unfold drwN
  split
  · refine ⟨h1.1.mono (by omega), (prop_G hG (by decide)).mono (by omega), ?_⟩
    show (propR n dataW).1.nodes = nodes
    unfold propR
    split
    · exact hn
    · split
      · exact hn
      · split
        · exact hn
        · exact hn
  · split
    · split
      · rename_i hn1
        have h2 := msg_ok hc h1.1 (by omega) (by omega) hF (by omega)
        obtain ⟨m1, m2, m3, m4, m5, m6, m7⟩ := h2
        refine ⟨m1.mono (by omega), ?_⟩
        simp only
        have hs := (new_S (n := n) (t := (msgR es (srcN es s 4).2 n).1.term) (k := 1) (by decide) (by omega)).trans (hand_S (n := newT n (msgR es (srcN es s 4).2 n).1.term) (m := (msgR es (srcN es s 4).2 n).1) (by unfold newT; split <;> exact hF.c0) m6)
        split
        · rename_i hb
          exact ⟨hG.step (nodeB_F hb) hs, by rw [hs.nd, hn]⟩
        · exact ⟨hG.mono (by omega), hn⟩
      · exact ⟨h1.1.mono (by omega), hG.mono (by omega), hn⟩
    · split
      · split
        · rename_i hq
          have h2 := peerR_ok (n := nodes) (no := n.id) hc h1.1 (by omega) (by omega)
          refine ⟨h2.1.mono (by omega), ?_⟩
          have e1 : newT n n.term = n := by rw [newT, if_neg (by omega)]
          have e2 : (handR (newT n n.term) (vtd n (peerR es (srcN es s 4).2 nodes n.id).1)).1 = (elecR n (vtd n (peerR es (srcN es s 4).2 nodes n.id).1)).1 := by
            rw [e1, handR, if_neg (show ¬ (vtd n (peerR es (srcN es s 4).2 nodes n.id).1).kind = 1 from show ¬ (2 : Int) = 1 by decide), if_pos (show (vtd n (peerR es (srcN es s 4).2 nodes n.id).1).kind = 2 from rfl)]
          have hs := hand_S (n := n) (m := vtd n (peerR es (srcN es s 4).2 nodes n.id).1) hF.c0 (by show 1 ≤ n.term; omega)
          have hs2 : Stp n (handR (newT n n.term) (vtd n (peerR es (srcN es s 4).2 nodes n.id).1)).1 0 := by rw [e1]; exact hs
          refine ⟨(hG.step (by rw [e2]; exact elec_F hF hG.u (by show 1 ≤ n.term; omega) h2.2.1 (by rw [hn]; exact h2.2.2.1)) hs2).mono (by omega), by rw [hs2.nd, hn]⟩
        · exact ⟨h1.1.mono (by omega), hG.mono (by omega), hn⟩
      · have h2 := srcN_ok (n := 9) hc h1.1 (by omega)
        have hs := tick_S (d := (srcN es (srcN es s 4).2 9).1) hF
        exact ⟨h2.1.mono (by omega), hG.step (tick_F hF h2.2.1 hG.u) hs, by rw [hs.nd, hn]⟩
theorem drwL_ok {es : List PV} {nodes : Int} (hc : codeOk es) : ∀ (i : Nat) (s : Src) (n : ND) (t k : Int), srcOk s.p s.q k → 40 * (i : Int) ≤ k → Gd n t → n.nodes = nodes → t + i ≤ 900 →
    srcOk (drwL es nodes i s n).2.p (drwL es nodes i s n).2.q (k - 40 * i) ∧ Gd (drwL es nodes i s n).1 (t + i)
  | 0, s, n, t, k, h, _, hG, _, _ => ⟨by simpa [drwL] using h, by simpa [drwL] using hG⟩
  | i + 1, s, n, t, k, h, hk, hG, hn, ht => by
    have h1 := drwN_ok hc h (by omega) hG hn (by omega)
    have h2 := drwL_ok hc i (drwN es nodes s n).2 (drwN es nodes s n).1 (t + 1) (k - 40) h1.1 (by omega) h1.2.1 h1.2.2 (by omega)
    rw [drwL]
    refine ⟨?_, ?_⟩
    · rw [show k - 40 * ((i + 1 : Nat) : Int) = k - 40 - 40 * i by omega]; exact h2.1
    · rw [show t + ((i + 1 : Nat) : Int) = t + 1 + i by omega]; exact h2.2
theorem drwR_ok {es : List PV} {s : Src} {k : Int} (hc : codeOk es) (h : srcOk s.p s.q k) (hk : 1000 ≤ k) : Gd (drwR es s).1 20 := by
  have a := srcN_ok (n := 4) hc h (by omega)
  have a2 := dNs_in a.2.1 (a.2.2 (by omega))
  have b := srcN_ok (n := dNs (srcN es s 4).1) hc a.1 (by omega)
  have b2 := b.2.2 (by omega)
  have c := srcN_ok (n := 20) hc b.1 (by omega)
  have c2 := c.2.2 (by omega)
  exact ((drwL_ok (nodes := dNs (srcN es s 4).1) hc _ _ _ 0 _ c.1 (by omega) (new_G b.2.1 b2 a2.2) rfl (by omega)).2).mono (by omega)

end Go.Proofs.Ytkofjkjcbljkdaa
end

