/-
  Calls of functions that change or keep their arguments.
  Conditions: the contract holds.
-/
import Derived.Test.YtmjjdfhpnckacaaCalw
namespace Go.Proofs.Ytmjjdfhpnckacaa
set_option linter.unusedVariables false
section
variable {P : Program} {E : Env} {N : Nat} {w0 : World} {X F : List Nat} {S : St} {β : Nat → GV} {ϕ : Nat → List Nat} {a : Act} {w w' : World} {o : Oper} {R : RR} {A A0 A' : Hp} {B : Nat}

/-- A struck handle is laid anew. -/
theorem put_own {n h : Nat} {T : PTy} {es : List PV} {f G : List Nat} (hp : Holds B X F A β ϕ w) (hb : Bd n β A) (hh : h < n) (hd : ∀ hl, lk A h = some hl → hl = .dead) (ho : OwnD w (β h).v T es f) (hn : (f ++ G).Nodup) (hw : ∀ b ∈ f, (b ∈ X ∨ B ≤ b) ∧ (b ∈ F ∨ B ≤ b)) (ha : Apart A ϕ (f ++ G)) :
    Holds B X F (set1 A h (.arr .dp T es .no)) β (upd ϕ h f) w ∧ Bd n β (set1 A h (.arr .dp T es .no)) ∧ Apart (set1 A h (.arr .dp T es .no)) (upd ϕ h f) G := by
  obtain ⟨hn1, hn2, hn3⟩ := List.nodup_append.1 hn
  refine ⟨hp.put (fun j => lk_set1' _ _ _) hd ho (fun b hb' => (hw b hb').1) (fun _ b hb' => (hw b hb').2) hn1 ?_ ?_ trivial (fun _ _ _ e => by cases e) (by simp [roots]), bd_put hb (fun j => lk_set1' _ _ _) hh trivial, ?_⟩
  · exact ha.mono fun b hb' => by simp only [owned] at hb'; simp [hb']
  · intro i hl hi _ b hb' hm
    by_cases hdd : hl = .dead
    · subst hdd; simp [owned] at hb'
    · exact ha i hl hi hdd b (owned_sub b hb') (by simp [hm])
  · exact apart_put (ha.mono fun b hb' => by simp [hb']) (fun i => lk_set1' _ _ _) fun b hb' hm => hn3 b hb' b hm rfl

theorem backL_sound {Ar : Hp} {n : Nat} : ∀ {ts : List PTy} {xs : List SV} {qs : List PV} {vs : List Value} {fs : List (List Nat)} {r : Prop × List PV} {A : Hp} {ϕ : Nat → List Nat} {G : List Nat}, LoP (OwnD w) ts qs vs fs → SV.vals β xs = vs → resLs Ar ts xs = some r → Holds B X F A β ϕ w → Bd n β A →
    (∀ h ∈ slsOf xs, h < n ∧ ∀ hl, lk A h = some hl → hl = .dead) → (slsOf xs).Nodup → (fs.flatten ++ G).Nodup → (∀ b ∈ fs.flatten, (b ∈ X ∨ B ≤ b) ∧ (b ∈ F ∨ B ≤ b)) → Apart A ϕ (fs.flatten ++ G) →
    ∃ ϕ', Holds B X F (backL A ts xs qs) β ϕ' w ∧ Bd n β (backL A ts xs qs) ∧ Apart (backL A ts xs qs) ϕ' G ∧ (∀ j, j ∉ slsOf xs → lk (backL A ts xs qs) j = lk A j) ∧ (∀ j hl, lk (backL A ts xs qs) j = some hl → lk A j = some hl ∨ roots hl = []) := by
  intro ts xs qs vs fs r A ϕ G hL
  induction hL generalizing xs r A ϕ G with
  | nil =>
    intro hv hr hp hb hh hnd hn hw ha
    cases xs with
    | nil => exact ⟨ϕ, hp, hb, ha.mono (by simp), fun _ _ => rfl, fun j hl h => .inl h⟩
    | cons x xs => simp [resLs] at hr
  | @int k m Ts ps vs fs h1 _ ih =>
    intro hv hr hp hb hh hnd hn hw ha
    cases xs with
    | nil => simp [resLs] at hr
    | cons x xs =>
      simp only [resLs] at hr
      split at hr
      · rename_i o p o' ps' q1 q2
        simp only [SV.vals, List.cons.injEq] at hv
        cases x <;> simp only [resL, reduceCtorEq] at q1
        simp only [backL, slsOf] at *
        exact ih hv.2 q2 hp hb hh hnd (by simpa using hn) (by simpa using hw) (by simpa using ha)
      · cases hr
  | @bool k Ts ps vs fs _ ih =>
    intro hv hr hp hb hh hnd hn hw ha
    cases xs with
    | nil => simp [resLs] at hr
    | cons x xs =>
      simp only [resLs] at hr
      split at hr
      · rename_i o p o' ps' q1 q2
        simp only [SV.vals, List.cons.injEq] at hv
        cases x <;> simp only [resL, reduceCtorEq] at q1
        simp only [backL, slsOf] at *
        exact ih hv.2 q2 hp hb hh hnd (by simpa using hn) (by simpa using hw) (by simpa using ha)
      · cases hr
  | @str k Ts ps vs fs h1 _ ih =>
    intro hv hr hp hb hh hnd hn hw ha
    cases xs with
    | nil => simp [resLs] at hr
    | cons x xs =>
      simp only [resLs] at hr
      split at hr
      · rename_i o p o' ps' q1 q2
        simp only [SV.vals, List.cons.injEq] at hv
        cases x <;> simp only [resL, reduceCtorEq] at q1
        simp only [backL, slsOf] at *
        exact ih hv.2 q2 hp hb hh hnd (by simpa using hn) (by simpa using hw) (by simpa using ha)
      · cases hr
  | @list T es v f Ts ps vs fs h1 _ ih =>
    intro hv hr hp hb hh hnd hn hw ha
    cases xs with
    | nil => simp [resLs] at hr
    | cons x xs =>
      simp only [resLs] at hr
      split at hr
      · rename_i o p o' ps' q1 q2
        simp only [SV.vals, List.cons.injEq] at hv
        simp only [List.flatten_cons, List.append_assoc] at hn hw ha
        cases x <;> simp only [resL, reduceCtorEq] at q1
        case sl h =>
          obtain ⟨hv1, hv2⟩ := hv
          simp only [SV.val] at hv1
          subst hv1
          simp only [slsOf, List.mem_cons, forall_eq_or_imp, List.nodup_cons] at hh hnd
          obtain ⟨⟨hh1, hh2⟩, hh3⟩ := hh
          obtain ⟨hnd1, hnd2⟩ := hnd
          obtain ⟨c1, c2, c3⟩ := put_own hp hb hh1 hh2 h1 hn (fun b hb' => hw b (by simp [hb'])) ha
          obtain ⟨ϕ', a1, a2, a3, a4, a5⟩ := ih hv2 q2 c1 c2 (fun h' hh' => ⟨(hh3 h' hh').1, fun hl hl' => by
            rw [lk_set1', if_neg (fun e : h' = h => hnd1 (e ▸ hh'))] at hl'
            exact (hh3 h' hh').2 hl hl'⟩) hnd2 (List.nodup_append.1 hn).2.1 (fun b hb' => hw b (List.mem_append_right _ hb')) c3
          simp only [backL, PV.L]
          refine ⟨ϕ', a1, a2, a3, ?_, ?_⟩
          · intro j hj
            simp only [slsOf, List.mem_cons, not_or] at hj
            rw [a4 j hj.2, lk_set1', if_neg hj.1]
          · intro j hl hj
            rcases a5 j hl hj with h5 | h5
            · rw [lk_set1'] at h5
              split at h5
              · cases h5; exact .inr rfl
              · exact .inl h5
            · exact .inr h5
        case nils =>
          obtain ⟨hv1, hv2⟩ := hv
          simp only [SV.val] at hv1
          subst hv1
          have hf : f = [] := by
            rcases h1 with ⟨_, h, _⟩ | ⟨b, f1, cs, _, ⟨⟨o, cap, c, t, fr, h, _⟩, _⟩, _⟩
            · exact h
            · cases h
          subst hf
          simp only [backL, slsOf] at *
          exact ih hv2 q2 hp hb hh hnd (by simpa using hn) (by simpa using hw) (by simpa using ha)
      · cases hr

theorem mt_leaves {t : PTy} {p : PV} {v : Value} {f : List Nat} {x : SV} {r : Prop × PV} {Ar : Hp} (h : ArgM w t p v f) (hv : SV.val β x = v) (hr : resT Ar t x = some r) : ∃ fs r', LoP (OwnD w) t.leaves p.leaves (SV.vals β x.cells) fs ∧ f = fs.flatten ∧ resLs Ar t.leaves x.cells = some r' := by
  cases t with
  | agg ts =>
    obtain ⟨qs, cs, fs, rfl, rfl, hL, rfl⟩ := h
    cases x with
    | agg xs =>
      simp only [resT, resB] at hr
      split at hr
      · rename_i o ps hps
        simp only [SV.val, Value.agg.injEq] at hv
        have hv := List.toArray_inj hv
        subst hv
        exact ⟨fs, _, hL, rfl, hps⟩
      · cases hr
    | _ => simp [resT, resB, resL] at hr
  | list T =>
    obtain ⟨es, rfl, hO⟩ := h
    have h' : resL Ar (.list T) x = some r := by cases x <;> simpa [resT, resB] using hr
    have hc : x.cells = [x] := by cases x <;> first | rfl | (simp [resL] at h')
    refine ⟨[f], (r.1 ∧ True, [r.2]), ?_, by simp, ?_⟩
    · rw [hc]; simp only [SV.vals, hv]; exact .list hO .nil
    · rw [hc]; simp [PTy.leaves, resLs, h']
  | _ => exact h.elim

theorem backs_sound {Ar : Hp} {n0 : Nat} {β0 : Nat → GV} : ∀ {ts : List (Md × PTy)} {xs : List SV} {r : Prop × List PV} {outs : List PV} {mo G : List Nat} {A : Hp} {β : Nat → GV} {ϕ : Nat → List Nat} {n : Nat},
    OutV w w' ts outs (SV.vals β0 xs) mo → resTs Ar ts xs = some r → lendOk A0 ts xs → noBx ts = true → Holds B X F A β ϕ w' → Bd n β A → (∀ k, k < n0 → β k = β0 k) → n0 ≤ n → SV.lts n0 xs →
    (∀ h ∈ argsLs A0 ts xs, h < n0 ∧ ∀ hl, lk A h = some hl → hl = .dead) → (argsLs A0 ts xs).Nodup → (∀ i hl, lk A i = some hl → ∀ r ∈ roots hl, r ∉ argsLs A0 ts xs) → (mo ++ G).Nodup → (∀ b ∈ mo, (b ∈ X ∨ B ≤ b) ∧ (b ∈ F ∨ B ≤ b)) → Apart A ϕ (mo ++ G) →
    ∃ β' ϕ', Holds B X F (backs A0 A n ts xs outs).1 β' ϕ' w' ∧ Bd (backs A0 A n ts xs outs).2 β' (backs A0 A n ts xs outs).1 ∧ (∀ k, k < n → β' k = β k) ∧ n ≤ (backs A0 A n ts xs outs).2 ∧ Apart (backs A0 A n ts xs outs).1 ϕ' G
  | [], xs, r, outs, mo, G, A, β, ϕ, n, ho, hr, hl, hno, hp, hb, hβ, hn0, hlt, hd, hnd, hro, hmn, hmw, hma => by
    have hx : xs = [] := by cases xs <;> first | rfl | (simp [resTs] at hr)
    subst hx
    cases ho
    exact ⟨β, ϕ, hp, hb, fun _ _ => rfl, Nat.le_refl _, hma.mono (by simp)⟩
  | (m, t) :: ts, [], r, outs, mo, G, A, β, ϕ, n, ho, hr, hl, hno, hp, hb, hβ, hn0, hlt, hd, hnd, hro, hmn, hmw, hma => by simp [resTs] at hr
  | (m, t) :: ts, x :: xs, r, outs, mo, G, A, β, ϕ, n, ho, hr, hl, hno, hp, hb, hβ, hn0, hlt, hd, hnd, hro, hmn, hmw, hma => by
    simp only [resTs] at hr
    split at hr
    · rename_i o1 p1 o2 qs1 h1 h2
      simp only [argsLs] at hd hnd hro
      obtain ⟨hnd1, hnd2, hnd3⟩ := List.nodup_append.1 hnd
      have hval : SV.val β x = SV.val β0 x := SV.val_congr hβ x hlt.1
      cases m with
      | rd =>
        simp only [SV.vals] at ho
        cases ho with
        | rd ho =>
          simp only [backs]
          exact backs_sound ho h2 (by cases t <;> exact hl) (by simpa [noBx] using hno) hp hb hβ hn0 hlt.2 (fun h hh => hd h (by simp [hh])) hnd2 (fun i hl hi r hr hm => hro i hl hi r hr (by simp [hm])) hmn hmw hma
      | ow =>
        simp only [SV.vals] at ho
        cases ho with
        | ow ho =>
          simp only [backs]
          exact backs_sound ho h2 (by cases t <;> first | exact hl.2 | exact hl.elim) (by simpa [noBx] using hno) hp hb hβ hn0 hlt.2 (fun h hh => hd h (by simp [hh])) hnd2 (fun i hl hi r hr hm => hro i hl hi r hr (by simp [hm])) hmn hmw hma
      | mt =>
        simp only [SV.vals] at ho
        cases ho with
        | @mt _ _ p ps _ _ f ms hA ho =>
          simp only [List.append_assoc] at hmn hma
          obtain ⟨fs, r', g1, rfl, g2⟩ := mt_leaves hA (by exact hval) h1
          simp only [argLs] at hd hnd1 hnd3 hro
          obtain ⟨ϕ1, a1, a2, a3, a4, a5⟩ := backL_sound g1 rfl g2 hp hb (fun h hh => ⟨by have := (hd h (by simp [hh])).1; omega, (hd h (by simp [hh])).2⟩) hnd1 hmn (fun b hb' => hmw b (by simp only [List.mem_append]; exact .inl hb')) hma
          simp only [backs]
          exact backs_sound ho h2 (by cases t <;> first | exact hl.2 | exact hl.elim) (by simpa [noBx] using hno) a1 a2 hβ hn0 hlt.2 (fun h hh => ⟨(hd h (by simp [hh])).1, fun hl' hl2 => by
              rw [a4 h (fun hm => hnd3 h hm h hh rfl)] at hl2
              exact (hd h (by simp [hh])).2 hl' hl2⟩) hnd2
            (fun i hl' hi r hr hm => by
              rcases a5 i hl' hi with h5 | h5
              · exact hro i hl' h5 r hr (by simp [hm])
              · rw [h5] at hr; cases hr) (List.nodup_append.1 hmn).2.1 (fun b hb' => hmw b (by simp only [List.mem_append]; exact .inr hb')) a3
      | bx => simp [noBx] at hno
    · cases hr

theorem rdOk_iff {D : List Nat} : ∀ {l : List Nat}, rdOk A D l → ∀ i ∈ l, i ∉ D ∧ ∃ hl, lk A i = some hl ∧ hl ≠ .dead ∧ ∀ r ∈ roots hl, r ∉ D
  | [], _, i, hi => by cases hi
  | h :: l, hr, i, hi => by
    simp only [rdOk] at hr
    obtain ⟨⟨h1, h2⟩, h3⟩ := hr
    rcases List.mem_cons.1 hi with e | hi
    · subst e
      refine ⟨fun hm => (by rw [memB_iff.2 hm] at h1; cases h1), ?_⟩
      cases hA : lk A i with
      | none => rw [hA] at h2; exact h2.elim
      | some hl =>
        rw [hA] at h2
        cases hl with
        | dead => exact h2.elim
        | arr o T es p =>
          cases o with
          | vw rs => exact ⟨_, rfl, by simp, fun r hr hm => by have h9 : anyB D rs = true := anyB_iff.2 ⟨r, hr, hm⟩; have h2 : anyB D rs = false := h2; rw [h9] at h2; cases h2⟩
          | _ => exact ⟨_, rfl, by simp, by simp [roots]⟩
        | _ => exact ⟨_, rfl, by simp, by simp [roots]⟩
    · exact rdOk_iff h3 i hi

theorem lend_dp : ∀ {ts : List (Md × PTy)} {xs : List SV}, lendOk A ts xs → noBx ts = true → ∀ h ∈ argsLs A ts xs, dpB A h = true
  | [], xs, _, _, h, hh => by simp [argsLs] at hh
  | (m, t) :: ts, [], _, _, h, hh => by simp [argsLs] at hh
  | (m, t) :: ts, x :: xs, hl, hn, h, hh => by
    simp only [argsLs, List.mem_append] at hh
    cases m with
    | rd =>
      simp only [argLs, List.not_mem_nil, false_or] at hh
      exact lend_dp (by cases t <;> exact hl) (by simpa [noBx] using hn) h hh
    | bx => simp [noBx] at hn
    | mt =>
      have : dpAll A (slsOf x.cells) = true ∧ lendOk A ts xs := by cases t <;> first | exact hl | exact hl.elim
      rcases hh with hh | hh
      · exact dpAll_iff.1 this.1 h hh
      · exact lend_dp this.2 (by simpa [noBx] using hn) h hh
    | ow =>
      have : dpAll A (slsOf x.cells) = true ∧ lendOk A ts xs := by cases t <;> first | exact hl | exact hl.elim
      rcases hh with hh | hh
      · exact dpAll_iff.1 this.1 h hh
      · exact lend_dp this.2 (by simpa [noBx] using hn) h hh

/-- A call of a function that changes or keeps its arguments. -/
theorem call_own {s : FSpec} {ob : Prop} {ps : List PV} {xs : List SV} {fid : Nat} (hm : Meets P fid s) (hps : resTs S.A s.args xs = some (ob, ps)) (hk : SV.oks β xs) (hlt : SV.lts S.n xs) (sat : Sat N w0 X F S β ϕ a w) (hob : (callOwn S true s ob ps xs).ob) :
    Calls P fid (SV.vals β xs).toArray w fun e w' => ∃ v β' ϕ', e = .returned v ∧ Post w0 X F S (callOwn S true s ob ps xs) β ϕ o.dst v w' β' ϕ' := by
  obtain ⟨_, q1, q2, hfresh, hlen, hlend, hno, hndB, hrd⟩ := hob
  obtain ⟨ϕ0, p1, p2, p3, p4, p5, p6, p7⟩ := proms_sound (argsLs S.A s.args xs) sat.hp sat.hb
  have hsame : Same S.A (proms S.A (argsLs S.A s.args xs)) := ⟨p3, fun j t o cs hj => (p6 _ _ _ _ hj).1, fun j o T cs hj => (p7 _ _ _ _ hj).1⟩
  have hal : Alive (proms S.A (argsLs S.A s.args xs)) (rdsHs (proms S.A (argsLs S.A s.args xs)) s.args xs) := fun i hi => by
    obtain ⟨_, hl, e1, e2, _⟩ := rdOk_iff hrd i hi; exact ⟨hl, e1, e2⟩
  obtain ⟨fs, fl, hargs, hfrom, hlent, heq⟩ := argsOwn p1 hsame hps q1 (fun i o t cs hi => (p2 _ _ hi).2.2) hk hlend hal
  have hdp := lend_dp hlend hno
  have hret0 := hlend
  simp only [callOwn, callOw]
  generalize hA0 : proms S.A (argsLs S.A s.args xs) = A0 at *
  generalize hH : argsLs S.A s.args xs = H at *
  rw [← heq] at hargs hlent hdp
  have hmnd := lents_nodup p1 hlent (ndB_iff.1 hndB)
  have hms : ∀ b ∈ (H.map ϕ0).flatten, (b ∈ X ∨ w0.heap.size ≤ b) ∧ (b ∈ F ∨ w0.heap.size ≤ b) := by
    intro b hb
    obtain ⟨i, hi, hl, e1, e2⟩ := lents_own hlent b hb
    obtain ⟨T, es, p, e3⟩ := dpB_iff.1 (hdp i hi)
    rw [e1] at e3; cases e3
    exact ⟨p1.own _ _ e1 b e2, p1.all _ _ e1 trivial b e2⟩
  refine (hm w ps _ fs fl _ hargs hmnd ?_ q2).mono fun e w' he => ?_
  · intro b hb hf
    obtain ⟨h, hh, hl, e1, e2⟩ := lents_own hlent b hb
    obtain ⟨i, hi, hl', e3, e4, e5⟩ := hfrom.all b hf
    obtain ⟨n1, hl2, e6, e7, e8⟩ := rdOk_iff hrd i hi
    rw [e3] at e6; cases e6
    exact p1.dj h i _ _ e1 e3 (fun e => n1 (e ▸ hh)) (fun hr => e8 h hr hh) e4 b e2 e5
  obtain ⟨rvs, rfl, hFr, hcase⟩ := he
  have hcase : ∃ fr mo, RetVs w' s.ret (s.res ps) rvs fr ∧ OutV w w' s.args (s.out ps) (SV.vals β xs) mo ∧ (fr ++ mo).Nodup ∧ ∀ b ∈ fr ++ mo, b ∈ (H.map ϕ0).flatten ∨ w.heap.size ≤ b := by
    rcases hcase with ⟨_, h⟩ | ⟨hf, _⟩
    · exact h
    · rw [hfresh] at hf; cases hf
  obtain ⟨fr, mo, hret, hout, hnd, hge⟩ := hcase
  have hfr : Fr w0 X w' := sat.fr.trans hFr (fun x hx => hx) (fun b hb => (hms b hb).1)
  have hst := p1.struck H
  have hap := strike_apart p1 (lents_own hlent)
  have hst' : Holds w0.heap.size X F (strike H A0) β ϕ0 w' := hst.world fun i hl hi hd b hb => hFr.block b (hst.inb hi hd b hb) (hap i hl hi hd b hb)
  have hnd2 : (mo ++ fr).Nodup := (List.perm_append_comm.nodup_iff).1 hnd
  have hge2 : ∀ b ∈ mo ++ fr, (b ∈ X ∨ w0.heap.size ≤ b) ∧ (b ∈ F ∨ w0.heap.size ≤ b) := by
    intro b hb
    rcases hge b (by simp only [List.mem_append] at hb ⊢; exact hb.symm) with h | h
    · exact hms b h
    · exact ⟨.inr (Nat.le_trans sat.fr.size h), .inr (Nat.le_trans sat.fr.size h)⟩
  have hap2 : Apart (strike H A0) ϕ0 (mo ++ fr) := by
    intro i hl hi hd b hb hm
    rcases hge b (by simp only [List.mem_append] at hm ⊢; exact hm.symm) with h | h
    · exact hap i hl hi hd b hb h
    · have := hst.inb hi hd b hb; omega
  obtain ⟨β1, ϕ1, b1, b2, b3, b4, b5⟩ := backs_sound hout hps hlend hno hst' (strike_bd p2 H) (fun _ _ => rfl) (Nat.le_refl S.n) hlt
    (by
      rw [← heq]
      intro h hh
      obtain ⟨hl, e1, _⟩ := hlent h hh
      exact ⟨(p2 _ _ e1).1, fun hl' hl2 => strike_dead hh hl2⟩)
    (by rw [← heq]; exact ndB_iff.1 hndB)
    (by
      rw [← heq]
      intro i hl hi r hr
      by_cases hd : hl = .dead
      · subst hd; simp [roots] at hr
      · exact (strike_lk hi hd).2.2 r hr) hnd2 (fun b hb => hge2 b (by simp [hb])) hap2
  obtain ⟨β', ϕ', c1, c2, c3, c4, c5, c6, c7, c8, c9⟩ := introVs_own s.ret (s.res ps) rvs fr [] _ _ _ _ hret b1 b2 (by simpa using (List.nodup_append.1 hnd).1) (fun b hb => hge2 b (by simp [hb])) (by simpa using b5)
  exact ⟨_, β', ϕ', rfl, fun _ => packV_val c5, fun h hh => (c3 h (by omega)).trans (b3 h hh), c1, c2, packV_lt c6, packV_ok c7, Nat.le_trans b4 c8, hfr⟩

end
end Go.Proofs.Ytmjjdfhpnckacaa
