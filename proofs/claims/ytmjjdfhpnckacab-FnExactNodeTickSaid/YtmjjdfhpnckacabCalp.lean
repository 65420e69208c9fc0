/-
  A call that changes the list in an element of an owned array.
  Conditions: none.
-/
import Derived.Test.YtmjjdfhpnckacabCalx
namespace Go.Proofs.Ytmjjdfhpnckacab
set_option linter.unusedVariables false
section
variable {P : Program} {E : Env} {N : Nat} {w0 : World} {X F : List Nat} {S : St} {β : Nat → GV} {ϕ : Nat → List Nat} {a : Act} {w w' : World} {o : Oper} {R : RR} {A : Hp} {B : Nat}

theorem LoP.at {O : Value → PTy → List PV → List Nat → Prop} {Ts : List PTy} {ps : List PV} {vs : List Value} {fs : List (List Nat)} (h : LoP O Ts ps vs fs) : ∀ {k : Nat} {T : PTy}, Ts[k]? = some (.list T) →
    ∃ es v f, ps[k]? = some (.list es) ∧ vs[k]? = some v ∧ fs[k]? = some f ∧ O v T es f := by
  induction h with
  | nil => intro k T hk; simp at hk
  | int _ _ ih => intro k T hk; cases k with
    | zero => simp at hk
    | succ k => simpa using ih (by simpa using hk)
  | bool _ ih => intro k T hk; cases k with
    | zero => simp at hk
    | succ k => simpa using ih (by simpa using hk)
  | str _ _ ih => intro k T hk; cases k with
    | zero => simp at hk
    | succ k => simpa using ih (by simpa using hk)
  | list hO _ ih => intro k T hk; cases k with
    | zero => simp at hk; subst hk; exact ⟨_, _, _, rfl, rfl, rfl, hO⟩
    | succ k => simpa using ih (by simpa using hk)

theorem LoP.put {O O' : Value → PTy → List PV → List Nat → Prop} {Ts : List PTy} {ps : List PV} {vs : List Value} {fs : List (List Nat)} (h : LoP O Ts ps vs fs) : ∀ {k : Nat} {T : PTy} {es' : List PV} {v : Value} {f' : List Nat}, Ts[k]? = some (.list T) → vs[k]? = some v → O' v T es' f' →
    (∀ m f, m ≠ k → fs[m]? = some f → ∀ v T es, O v T es f → O' v T es f) → LoP O' Ts (ps.set k (.list es')) vs (fs.set k f') := by
  induction h with
  | nil => intro k T es' v f' hk; simp at hk
  | int h0 h1 ih =>
    intro k T es' v f' hk hv hO hoth
    cases k with
    | zero => simp at hk
    | succ k => exact .int h0 (ih (by simpa using hk) (by simpa using hv) hO fun m f hm hf => hoth (m + 1) f (by omega) (by simpa using hf))
  | bool h1 ih =>
    intro k T es' v f' hk hv hO hoth
    cases k with
    | zero => simp at hk
    | succ k => exact .bool (ih (by simpa using hk) (by simpa using hv) hO fun m f hm hf => hoth (m + 1) f (by omega) (by simpa using hf))
  | str h0 h1 ih =>
    intro k T es' v f' hk hv hO hoth
    cases k with
    | zero => simp at hk
    | succ k => exact .str h0 (ih (by simpa using hk) (by simpa using hv) hO fun m f hm hf => hoth (m + 1) f (by omega) (by simpa using hf))
  | list h0 h1 ih =>
    intro k T es' v f' hk hv hO hoth
    cases k with
    | zero =>
      simp at hk hv
      subst hk hv
      refine .list hO ?_
      exact h1.mono fun v T es f hf hv => by
        obtain ⟨m, hm, e⟩ := List.mem_iff_getElem.1 hf
        exact hoth (m + 1) f (by omega) (by rw [List.getElem?_cons_succ, List.getElem?_eq_getElem hm, e]) v T es hv
    | succ k => exact .list (hoth 0 _ (by omega) rfl _ _ _ h0) (ih (by simpa using hk) (by simpa using hv) hO fun m f hm hf => hoth (m + 1) f (by omega) (by simpa using hf))

theorem flat_apart {α : Type} : ∀ {fs : List (List α)}, fs.flatten.Nodup → ∀ {m k : Nat} {f g : List α}, fs[m]? = some f → fs[k]? = some g → m ≠ k → ∀ x ∈ f, x ∉ g
  | [], _, m, k, f, g, hf, _, _ => by simp at hf
  | h :: fs, hn, m, k, f, g, hf, hg, hne => by
    rw [List.flatten_cons] at hn
    obtain ⟨n1, n2, n3⟩ := List.nodup_append.1 hn
    intro x hx hm
    cases m with
    | zero =>
      cases k with
      | zero => exact hne rfl
      | succ k =>
        simp at hf hg; subst hf
        exact n3 x hx x (List.mem_flatten.2 ⟨g, List.mem_of_getElem? hg, hm⟩) rfl
    | succ m =>
      cases k with
      | zero =>
        simp at hf hg; subst hg
        exact n3 x hm x (List.mem_flatten.2 ⟨f, List.mem_of_getElem? hf, hx⟩) rfl
      | succ k => exact flat_apart n2 (by simpa using hf) (by simpa using hg) (by omega) x hx hm

theorem flat_set {α : Type} : ∀ {fs : List (List α)} {k : Nat} {g f' : List α}, fs.flatten.Nodup → fs[k]? = some g → f'.Nodup → (∀ x ∈ f', x ∈ g ∨ x ∉ fs.flatten) → (fs.set k f').flatten.Nodup ∧ ∀ x ∈ (fs.set k f').flatten, x ∈ fs.flatten ∨ x ∈ f'
  | [], k, g, f', _, hk, _, _ => by simp at hk
  | h :: fs, k, g, f', hn, hk, hf, hx => by
    rw [List.flatten_cons] at hn
    obtain ⟨n1, n2, n3⟩ := List.nodup_append.1 hn
    cases k with
    | zero =>
      simp at hk; subst hk
      simp only [List.set_cons_zero, List.flatten_cons]
      refine ⟨List.nodup_append.2 ⟨hf, n2, fun x h1 y h2 e => ?_⟩, fun x hm => ?_⟩
      · subst e
        rcases hx x h1 with h3 | h3
        · exact n3 x h3 x h2 rfl
        · exact h3 (by simp only [List.flatten_cons, List.mem_append]; exact .inr h2)
      · rcases List.mem_append.1 hm with h1 | h1
        · exact .inr h1
        · exact .inl (List.mem_append.2 (.inr h1))
    | succ k =>
      simp only [List.set_cons_succ, List.flatten_cons]
      have hk' : fs[k]? = some g := by simpa using hk
      have hgs : ∀ x ∈ g, x ∈ fs.flatten := fun x hm => List.mem_flatten.2 ⟨g, List.mem_of_getElem? hk', hm⟩
      obtain ⟨r1, r2⟩ := flat_set n2 hk' hf (fun x hm => (hx x hm).imp id fun h3 h4 => h3 (by simp only [List.flatten_cons, List.mem_append]; exact .inr h4))
      refine ⟨List.nodup_append.2 ⟨n1, r1, fun x h1 y h2 e => ?_⟩, fun x hm => ?_⟩
      · subst e
        rcases r2 x h2 with h3 | h3
        · exact n3 x h1 x h3 rfl
        · rcases hx x h3 with h4 | h4
          · exact n3 x h1 x (hgs x h4) rfl
          · exact h4 (by simp only [List.flatten_cons, List.mem_append]; exact .inl h1)
      · rcases List.mem_append.1 hm with h1 | h1
        · exact .inl (List.mem_append.2 (.inl h1))
        · exact (r2 x h1).imp (fun h => List.mem_append.2 (.inr h)) id

theorem flatT_at {T : PTy} {n i j : Nat} (hi : i < n) (hj : j < T.wd) : (flatT T n)[i * T.wd + j]? = T.leaves[j]? := by
  have e : n = i + (1 + (n - (i + 1))) := by omega
  rw [e, flatT_add, flatT_add, flatT_one, List.getElem?_append_right (by rw [flatT_len]; omega), flatT_len, Nat.add_sub_cancel_left, List.getElem?_append_left hj]
theorem flatP_at {T : PTy} {es : List PV} (hS : ∀ e ∈ es, Shp T e) {i j : Nat} (hi : i < es.length) (hj : j < T.wd) : (flatP es)[i * T.wd + j]? = (es.getD i PV.d).leaves[j]? := by
  have hs := split_at es hi
  have h1 : (flatP (es.take i)).length = i * T.wd := by
    rw [flatP_len (T := T) fun e he => hS e (List.mem_of_mem_take he), List.length_take, Nat.min_eq_left (by omega)]
  have h2 : (es.getD i PV.d).leaves.length = T.wd := leaves_len (hS _ (getD_mem hi))
  conv => lhs; rw [hs]
  rw [flatP_append, List.getElem?_append_right (by omega), h1, Nat.add_sub_cancel_left]
  show (List.flatMap PV.leaves (_ :: _))[j]? = _
  rw [List.flatMap_cons, List.getElem?_append_left (by omega)]
theorem flatP_set {ts : List PTy} {es : List PV} (hS : ∀ e ∈ es, Shp (.agg ts) e) {i j : Nat} {q : PV} (hi : i < es.length) (hj : j < ts.length) :
    flatP (es.set i (.agg ((es.getD i PV.d).A.set j q))) = (flatP es).set (i * (PTy.agg ts).wd + j) q := by
  have hs := split_at es hi
  have h1 : (flatP (es.take i)).length = i * (PTy.agg ts).wd := by
    rw [flatP_len (T := .agg ts) fun e he => hS e (List.mem_of_mem_take he), List.length_take, Nat.min_eq_left (by omega)]
  have h0 := hS _ (getD_mem hi)
  have h2 : (es.getD i PV.d).leaves.length = (PTy.agg ts).wd := leaves_len h0
  have h3 : (es.getD i PV.d).leaves = (es.getD i PV.d).A := by
    generalize es.getD i PV.d = e at h0
    obtain ⟨qs, rfl, _⟩ := h0
    rfl
  have hw : (PTy.agg ts).wd = ts.length := rfl
  rw [List.set_eq_take_append_cons_drop, if_pos hi, flatP_append]
  conv => rhs; rw [hs]
  rw [flatP_append, List.set_append_right _ _ (by omega), h1, Nat.add_sub_cancel_left]
  congr 1
  show List.flatMap PV.leaves (_ :: _) = (List.flatMap PV.leaves (_ :: _)).set j q
  rw [List.flatMap_cons, List.flatMap_cons, List.set_append_left _ _ (by omega), h3]
  rfl

/-- A call that changes the list in an element of an owned array. -/
theorem call_pt {s : FSpec} {ob : Prop} {ps : List PV} {xs : List SV} {fid : Nat} {R0 : RR} (hm : Meets P fid s) (hps : resTs S.A s.args xs = some (ob, ps)) (hcr : callPt S true s ob ps xs = some R0) (hk : SV.oks β xs) (hlt : SV.lts S.n xs) (sat : Sat N w0 X F S β ϕ a w) (hob : R0.ob) :
    R0.hy ∧ Calls P fid (SV.vals β xs).toArray w fun e w' => ∃ v β' ϕ', e = .returned v ∧ Post w0 X F S R0 β ϕ o.dst v w' β' ϕ' := by
  obtain ⟨args, ret, fresh, pre, res, out⟩ := s
  simp only [callPt] at hcr
  split at hcr
  case h_2 => cases hcr
  rename_i T0 ts h ys q hout0
  split at hcr
  case h_2 => cases hcr
  rename_i r i j hpath
  split at hcr
  case h_2 => cases hcr
  rename_i tt es p2 hr
  cases hcr
  obtain ⟨_, q1, q2, hfresh, hlen, hall, hrd⟩ := hob
  refine ⟨trivial, ?_⟩
  simp only at hfresh hlen hall hrd q2 hps hm hout0 ⊢
  -- the view
  have hv : ∃ rs T1 es1, lk S.A h = some (.arr (.vw rs) T1 es1 (.el r i j)) := by
    unfold pathOf at hpath
    split at hpath
    · rename_i rs T1 es1 r' i' j' e
      cases hpath
      exact ⟨_, _, _, e⟩
    · cases hpath
  obtain ⟨rs, T1, es1, hlk⟩ := hv
  -- the arguments
  simp only [resTs] at hps
  split at hps
  case h_2 => cases hps
  rename_i o1 p o2 qs hp1 hps2
  simp only [Option.some.injEq, Prod.mk.injEq] at hps
  obtain ⟨rfl, rfl⟩ := hps
  have hp1 : resL S.A (.list T0) (.sl h) = some (o1, p) := hp1
  simp only [resL, hlk, Option.some.injEq, Prod.mk.injEq] at hp1
  obtain ⟨rfl, rfl⟩ := hp1
  obtain ⟨hT0, ho2⟩ := q1
  subst hT0
  obtain ⟨hrs, T', es', p', hr', hi, hj, hje, b0, o0, c0, t0, fr0, hadr, hblk0, hcell⟩ := sat.hp.pt _ _ hlk
  rw [hr] at hr'; cases hr'
  have hwd : (PTy.agg tt).wd = tt.length := rfl
  have hjl : j < tt.length := by
    have := List.getElem?_eq_some_iff.1 hj
    exact this.1
  have hO : OwnD w (β r).v (.agg tt) es (ϕ r) := sat.hp.sat _ _ hr
  have hnd : (ϕ r).Nodup := sat.hp.nd _ _ hr
  rcases hO with ⟨e0, _⟩ | ⟨b, f1, cs, hϕ, hroom, hS, fs, hf1, hL⟩
  · subst e0; simp at hi
  -- the leaf
  have hTk := (flatT_at (T := .agg tt) (n := es.length) hi (by rw [hwd]; exact hjl)).trans hj
  obtain ⟨es2, v, f, g1, g2, g3, hOF⟩ := hL.at hTk
  have hPk := (flatP_at hS hi (by rw [hwd]; exact hjl)).trans hje
  rw [hPk] at g1; cases g1
  have hvv : v = (β h).v := by
    obtain ⟨⟨o', cap, c, t, fr, e1, e2, e3, e4, e5, e6, e7⟩, hcl, _⟩ := hroom
    rw [e1] at hadr
    simp only [addrOf, Option.some.injEq, Prod.mk.injEq] at hadr
    obtain ⟨rfl, rfl⟩ := hadr
    rw [e2] at hblk0
    cases hblk0
    have hlt' : i * (PTy.agg tt).wd + j < cs.length := (List.getElem?_eq_some_iff.1 g2).1
    rw [← e7, List.getElem?_take, if_pos hlt', List.getElem?_drop, Array.getElem?_toList] at g2
    rw [hcell] at g2
    exact (Option.some.inj g2).symm
  subst hvv
  have hff : ∀ x ∈ f, x ∈ fs.flatten := fun x hx => List.mem_flatten.2 ⟨f, List.mem_of_getElem? g3, hx⟩
  have hfϕ : ∀ x ∈ f, x ∈ ϕ r := fun x hx => by rw [hϕ, hf1]; exact List.mem_cons_of_mem _ (hff x hx)
  have hnd' : (b :: fs.flatten).Nodup := by rw [← hf1, ← hϕ]; exact hnd
  obtain ⟨hnb, hnf⟩ := List.nodup_cons.1 hnd'
  have hfn : f.Nodup := by
    exact (List.pairwise_flatten.1 hnf).1 f (List.mem_of_getElem? g3)
  have hFl : flatB T1 = true := hOF.1
  have hbx : ∀ i o t cs, lk S.A i = some (.box o t cs) → SV.oks β cs := fun i o t cs hi => (sat.hb _ _ hi).2.2
  obtain ⟨fs0, fl0, hargs, hfrom⟩ := argsRd hps2 hall ho2 sat.hp hbx hk.2
  have hA : ArgsV w ((.mt, .list T1) :: ts) (.list es1 :: qs) (SV.vals β (.sl h :: ys)) fs0 fl0 (f ++ []) := .mt ⟨_, rfl, ownF_D hOF⟩ hargs
  rw [List.append_nil] at hA
  have hms : ∀ b ∈ f, (b ∈ X ∨ w0.heap.size ≤ b) ∧ (b ∈ F ∨ w0.heap.size ≤ b) := fun x hx => ⟨sat.hp.own _ _ hr x (hfϕ x hx), sat.hp.all _ _ hr trivial x (hfϕ x hx)⟩
  refine (hm w _ _ fs0 fl0 f hA hfn ?_ q2).mono fun e w' he => ?_
  · intro x hx hf
    obtain ⟨i', hi', hl', e3, e4, e5⟩ := hfrom.all x hf
    obtain ⟨n1, hl2, e6, e7, e8⟩ := rdOk_iff hrd i' hi'
    rw [e3] at e6; cases e6
    exact sat.hp.dj r i' _ _ hr e3 (fun e => n1 (by simp [e])) (fun hq => e8 r hq (by simp)) e4 x (hfϕ x hx) e5
  obtain ⟨rvs, rfl, hFr, hcase⟩ := he
  rcases hcase with ⟨_, fr, mo, hret, hout, hnd3, hge⟩ | ⟨hf, _⟩
  case inr => rw [hfresh] at hf; cases hf
  simp only at hret hout
  rw [hout0] at hout
  obtain ⟨p3, f', mo', hp3, hO', rfl, rfl⟩ : ∃ p3 f' mo', q = .list p3 ∧ OwnD w' (β h).v T1 p3 f' ∧ mo = f' ++ mo' ∧ mo' = [] := by
    cases hout with
    | mt h1 h2 =>
      obtain ⟨es3, rfl, h3⟩ := h1
      obtain ⟨rfl, _⟩ := outV_rd h2 hall
      exact ⟨_, _, _, rfl, h3, rfl, rfl⟩
  subst hp3
  rw [List.append_nil] at hnd3 hge
  obtain ⟨hnfr, hnf', hdis⟩ := List.nodup_append.1 hnd3
  have hfr : Fr w0 X w' := sat.fr.trans hFr (fun x hx => hx) (fun b hb => (hms b hb).1)
  have hst := sat.hp.struck [r]
  have hap : Apart (strike [r] S.A) ϕ (ϕ r) := strike_apart sat.hp fun b hb => ⟨r, by simp, _, hr, hb⟩
  have hst' : Holds w0.heap.size X F (strike [r] S.A) β ϕ w' := hst.world fun i hl hi hd b hb => hFr.block b (hst.inb hi hd b hb) fun hm => hap i hl hi hd b hb (hfϕ b hm)
  have hold : ∀ x ∈ ϕ r, x < w.heap.size := sat.hp.inb hr (by simp)
  have hg' : ∀ x ∈ f', x ∈ f ∨ x ∉ fs.flatten := fun x hx => (hge x (by simp [hx])).imp id fun h1 h2 => by
    have := hold x (by rw [hϕ, hf1]; exact List.mem_cons_of_mem _ h2); omega
  obtain ⟨s1, s2⟩ := flat_set hnf g3 hnf' hg'
  have hOk : OwnD w' (β r).v (.agg tt) (es.set i (.agg ((es.getD i PV.d).A.set j (.list p3)))) (b :: (fs.set (i * (PTy.agg tt).wd + j) f').flatten) := by
    have hb' : w'.heap[b]? = w.heap[b]? := hFr.block b (hold b (by rw [hϕ]; simp)) fun hm => hnb (hff b hm)
    refine .inr ⟨b, _, cs, rfl, by rw [List.length_set]; exact hroom.frame hb', ?_, _, rfl, ?_⟩
    · intro e he
      rcases List.mem_or_eq_of_mem_set he with he | rfl
      · exact hS e he
      · obtain ⟨qs', hq, hql⟩ := hS _ (getD_mem hi)
        exact ⟨_, rfl, by rw [List.length_set, hq]; exact hql⟩
    · rw [List.length_set, flatP_set hS hi hjl]
      refine hL.put hTk g2 (ownD_F hFl hO') fun m g hm hg v T es hv => hv.frame fun x hx => hFr.block x (hold x (by rw [hϕ, hf1]; exact List.mem_cons_of_mem _ (List.mem_flatten.2 ⟨g, List.mem_of_getElem? hg, hx⟩))) fun hm' => flat_apart hnf hg g3 hm x hx hm'
  have hmem : ∀ x ∈ b :: (fs.set (i * (PTy.agg tt).wd + j) f').flatten, x ∈ ϕ r ∨ x ∈ f' := by
    intro x hx
    rcases List.mem_cons.1 hx with rfl | hx
    · left; rw [hϕ]; simp
    · exact (s2 x hx).imp (fun h => by rw [hϕ, hf1]; exact List.mem_cons_of_mem _ h) id
  have hge2 : ∀ x ∈ fr ++ f', (x ∈ X ∨ w0.heap.size ≤ x) ∧ (x ∈ F ∨ w0.heap.size ≤ x) := by
    intro x hx
    rcases hge x hx with h | h
    · exact hms x h
    · exact ⟨.inr (Nat.le_trans sat.fr.size h), .inr (Nat.le_trans sat.fr.size h)⟩
  have hbf' : b ∉ f' := fun hm => by
    rcases hge b (by simp [hm]) with h | h
    · exact hnb (hff b h)
    · have := hold b (by rw [hϕ]; simp); omega
  have hfrϕ : ∀ x ∈ fr, x ∈ f ∨ w.heap.size ≤ x := fun x hx => hge x (by simp [hx])
  have hN : ((b :: (fs.set (i * (PTy.agg tt).wd + j) f').flatten) ++ fr).Nodup := by
    rw [List.cons_append, List.nodup_cons]
    refine ⟨fun hm => ?_, List.nodup_append.2 ⟨s1, hnfr, fun x hx y hy e => ?_⟩⟩
    · rcases List.mem_append.1 hm with hm | hm
      · rcases s2 b hm with h | h
        · exact hnb h
        · exact hbf' h
      · rcases hfrϕ b hm with h | h
        · exact hnb (hff b h)
        · have := hold b (by rw [hϕ]; simp); omega
    · subst e
      -- x in the new footprint and in fr
      obtain ⟨g, hg, hxg⟩ := List.mem_flatten.1 hx
      obtain ⟨m, hm, e⟩ := List.mem_iff_getElem.1 hg
      by_cases hmk : m = i * (PTy.agg tt).wd + j
      · subst hmk
        rw [List.getElem_set_self] at e
        subst e
        exact hdis x hy x hxg rfl
      · rw [List.getElem_set_ne (by omega)] at e
        have hg2 : fs[m]? = some g := by rw [List.length_set] at hm; rw [List.getElem?_eq_getElem hm, e]
        rcases hfrϕ x hy with h | h
        · exact flat_apart hnf hg2 g3 hmk x hxg h
        · have := hold x (by rw [hϕ, hf1]; exact List.mem_cons_of_mem _ (List.mem_flatten.2 ⟨g, List.mem_of_getElem? hg2, hxg⟩)); omega
  have hap2 : Apart (strike [r] S.A) ϕ ((b :: (fs.set (i * (PTy.agg tt).wd + j) f').flatten) ++ fr) := by
    intro i' hl hi' hd x hx hm
    have hnew : ∀ x, x ∈ fr ++ f' → x ∈ ϕ i' → False := fun x h1 h2 => by
      rcases hge x h1 with h | h
      · exact hap i' hl hi' hd x h2 (hfϕ x h)
      · have := hst.inb hi' hd x h2; omega
    rcases List.mem_append.1 hm with hm | hm
    · rcases hmem x hm with h | h
      · exact hap i' hl hi' hd x hx h
      · exact hnew x (by simp [h]) hx
    · exact hnew x (by simp [hm]) hx
  obtain ⟨b1, b2, b5⟩ := put_own (h := r) hst' (strike_bd sat.hb [r]) (sat.hb _ _ hr).1 (fun hl' hl2 => strike_dead (by simp) hl2) hOk hN
    (fun x hx => by
      rcases hmem x hx with h | h
      · exact ⟨sat.hp.own _ _ hr x h, sat.hp.all _ _ hr trivial x h⟩
      · exact hge2 x (by simp [h])) hap2
  obtain ⟨β', ϕ', c1, c2, c3, c4, c5, c6, c7, c8, c9⟩ := introVs_own ret (res (.list es1 :: qs)) rvs fr [] S.n _ _ _ hret b1 b2 (by simpa using hnfr) (fun b hb => hge2 b (by simp [hb])) (by simpa using b5)
  exact ⟨_, β', ϕ', rfl, fun _ => packV_val c5, c3, c1, c2, packV_lt c6, packV_ok c7, c8, hfr⟩

end
end Go.Proofs.Ytmjjdfhpnckacab
