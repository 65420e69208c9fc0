/-
  Calls of functions that change or keep their arguments.
  Conditions: the contract holds.
-/
import Derived.Test.YtmjjdfhpnckacabCalw
namespace Go.Proofs.Ytmjjdfhpnckacab
set_option linter.unusedVariables false
section
variable {P : Program} {E : Env} {N : Nat} {w0 : World} {X F : List Nat} {S : St} {β : Nat → GV} {ϕ : Nat → List Nat} {a : Act} {w w' : World} {o : Oper} {R : RR} {A A0 A' : Hp} {B : Nat}

/-- A struck handle is laid anew. -/
theorem put_own {n h : Nat} {T : PTy} {es : List PV} {f G : List Nat} (hp : Holds B X F A β ϕ w) (hb : Bd n β A) (hh : h < n) (hd : ∀ hl, lk A h = some hl → hl = .dead) (ho : OwnD w (β h).v T es f) (hn : (f ++ G).Nodup) (hw : ∀ b ∈ f, (b ∈ X ∨ B ≤ b) ∧ (b ∈ F ∨ B ≤ b)) (ha : Apart A ϕ (f ++ G)) :
    Holds B X F (set1 A h (.arr .dp T es .no)) β (upd ϕ h f) w ∧ Bd n β (set1 A h (.arr .dp T es .no)) ∧ Apart (set1 A h (.arr .dp T es .no)) (upd ϕ h f) G := by
  obtain ⟨hn1, hn2, hn3⟩ := List.nodup_append.1 hn
  refine ⟨hp.put (fun j => lk_set1' _ _ _) hd ho (fun b hb' => (hw b hb').1) (fun _ b hb' => (hw b hb').2) hn1 ?_ ?_ trivial (fun _ _ _ e => by cases e) (by simp [roots]), bd_put hb (fun j => lk_set1' _ _ _) hh trivial, ?_⟩
  · exact ha.mono fun b hb' => by simp only [owned] at hb'; simp [hb']
  · intro i hl hi _ b hb' hm
    by_cases hdd : hl = .dead
    · subst hdd; simp [owned] at hb'
    · exact ha i hl hi hdd b (owned_sub b hb') (by simp [hm])
  · exact apart_put (ha.mono fun b hb' => by simp [hb']) (fun i => lk_set1' _ _ _) fun b hb' hm => hn3 b hb' b hm rfl

theorem backL_sound {Ar : Hp} {n : Nat} : ∀ {ts : List PTy} {xs : List SV} {qs : List PV} {vs : List Value} {fs : List (List Nat)} {r : Prop × List PV} {A : Hp} {ϕ : Nat → List Nat} {G : List Nat}, LoP (OwnD w) ts qs vs fs → SV.vals β xs = vs → resLs Ar ts xs = some r → Holds B X F A β ϕ w → Bd n β A →
    (∀ h ∈ slsOf xs, h < n ∧ ∀ hl, lk A h = some hl → hl = .dead) → (slsOf xs).Nodup → (fs.flatten ++ G).Nodup → (∀ b ∈ fs.flatten, (b ∈ X ∨ B ≤ b) ∧ (b ∈ F ∨ B ≤ b)) → Apart A ϕ (fs.flatten ++ G) →
    ∃ ϕ', Holds B X F (backL A ts xs qs) β ϕ' w ∧ Bd n β (backL A ts xs qs) ∧ Apart (backL A ts xs qs) ϕ' G ∧ (∀ j, j ∉ slsOf xs → lk (backL A ts xs qs) j = lk A j) ∧ (∀ j hl, lk (backL A ts xs qs) j = some hl → lk A j = some hl ∨ roots hl = []) := by
  intro ts xs qs vs fs r A ϕ G hL
  induction hL generalizing xs r A ϕ G with
  | nil =>
    intro hv hr hp hb hh hnd hn hw ha
    cases xs with
    | nil => exact ⟨ϕ, hp, hb, ha.mono (by simp), fun _ _ => rfl, fun j hl h => .inl h⟩
    | cons x xs => simp [resLs] at hr
  | @int k m Ts ps vs fs h1 _ ih =>
    intro hv hr hp hb hh hnd hn hw ha
    cases xs with
    | nil => simp [resLs] at hr
    | cons x xs =>
      simp only [resLs] at hr
      split at hr
      · rename_i o p o' ps' q1 q2
        simp only [SV.vals, List.cons.injEq] at hv
        cases x <;> simp only [resL, reduceCtorEq] at q1
        simp only [backL, slsOf] at *
        exact ih hv.2 q2 hp hb hh hnd (by simpa using hn) (by simpa using hw) (by simpa using ha)
      · cases hr
  | @bool k Ts ps vs fs _ ih =>
    intro hv hr hp hb hh hnd hn hw ha
    cases xs with
    | nil => simp [resLs] at hr
    | cons x xs =>
      simp only [resLs] at hr
      split at hr
      · rename_i o p o' ps' q1 q2
        simp only [SV.vals, List.cons.injEq] at hv
        cases x <;> simp only [resL, reduceCtorEq] at q1
        simp only [backL, slsOf] at *
        exact ih hv.2 q2 hp hb hh hnd (by simpa using hn) (by simpa using hw) (by simpa using ha)
      · cases hr
  | @str k Ts ps vs fs h1 _ ih =>
    intro hv hr hp hb hh hnd hn hw ha
    cases xs with
    | nil => simp [resLs] at hr
    | cons x xs =>
      simp only [resLs] at hr
      split at hr
      · rename_i o p o' ps' q1 q2
        simp only [SV.vals, List.cons.injEq] at hv
        cases x <;> simp only [resL, reduceCtorEq] at q1
        simp only [backL, slsOf] at *
        exact ih hv.2 q2 hp hb hh hnd (by simpa using hn) (by simpa using hw) (by simpa using ha)
      · cases hr
  | @list T es v f Ts ps vs fs h1 _ ih =>
    intro hv hr hp hb hh hnd hn hw ha
    cases xs with
    | nil => simp [resLs] at hr
    | cons x xs =>
      simp only [resLs] at hr
      split at hr
      · rename_i o p o' ps' q1 q2
        simp only [SV.vals, List.cons.injEq] at hv
        simp only [List.flatten_cons, List.append_assoc] at hn hw ha
        cases x <;> simp only [resL, reduceCtorEq] at q1
        case sl h =>
          obtain ⟨hv1, hv2⟩ := hv
          simp only [SV.val] at hv1
          subst hv1
          simp only [slsOf, List.mem_cons, forall_eq_or_imp, List.nodup_cons] at hh hnd
          obtain ⟨⟨hh1, hh2⟩, hh3⟩ := hh
          obtain ⟨hnd1, hnd2⟩ := hnd
          obtain ⟨c1, c2, c3⟩ := put_own hp hb hh1 hh2 h1 hn (fun b hb' => hw b (by simp [hb'])) ha
          obtain ⟨ϕ', a1, a2, a3, a4, a5⟩ := ih hv2 q2 c1 c2 (fun h' hh' => ⟨(hh3 h' hh').1, fun hl hl' => by
            rw [lk_set1', if_neg (fun e : h' = h => hnd1 (e ▸ hh'))] at hl'
            exact (hh3 h' hh').2 hl hl'⟩) hnd2 (List.nodup_append.1 hn).2.1 (fun b hb' => hw b (List.mem_append_right _ hb')) c3
          simp only [backL, PV.L]
          refine ⟨ϕ', a1, a2, a3, ?_, ?_⟩
          · intro j hj
            simp only [slsOf, List.mem_cons, not_or] at hj
            rw [a4 j hj.2, lk_set1', if_neg hj.1]
          · intro j hl hj
            rcases a5 j hl hj with h5 | h5
            · rw [lk_set1'] at h5
              split at h5
              · cases h5; exact .inr rfl
              · exact .inl h5
            · exact .inr h5
        case nils =>
          obtain ⟨hv1, hv2⟩ := hv
          simp only [SV.val] at hv1
          subst hv1
          have hf : f = [] := by
            rcases h1 with ⟨_, h, _⟩ | ⟨b, f1, cs, _, ⟨⟨o, cap, c, t, fr, h, _⟩, _⟩, _⟩
            · exact h
            · cases h
          subst hf
          simp only [backL, slsOf] at *
          exact ih hv2 q2 hp hb hh hnd (by simpa using hn) (by simpa using hw) (by simpa using ha)
      · cases hr

theorem mt_leaves {t : PTy} {p : PV} {v : Value} {f : List Nat} {x : SV} {r : Prop × PV} {Ar : Hp} (h : ArgM w t p v f) (hv : SV.val β x = v) (hr : resT Ar t x = some r) : ∃ fs r', LoP (OwnD w) t.leaves p.leaves (SV.vals β x.cells) fs ∧ f = fs.flatten ∧ resLs Ar t.leaves x.cells = some r' := by
  cases t with
  | agg ts =>
    obtain ⟨qs, cs, fs, rfl, rfl, hL, rfl⟩ := h
    cases x with
    | agg xs =>
      simp only [resT, resB] at hr
      split at hr
      · rename_i o ps hps
        simp only [SV.val, Value.agg.injEq] at hv
        have hv := List.toArray_inj hv
        subst hv
        exact ⟨fs, _, hL, rfl, hps⟩
      · cases hr
    | _ => simp [resT, resB, resL] at hr
  | list T =>
    obtain ⟨es, rfl, hO⟩ := h
    have h' : resL Ar (.list T) x = some r := by cases x <;> simpa [resT, resB] using hr
    have hc : x.cells = [x] := by cases x <;> first | rfl | (simp [resL] at h')
    refine ⟨[f], (r.1 ∧ True, [r.2]), ?_, by simp, ?_⟩
    · rw [hc]; simp only [SV.vals, hv]; exact .list hO .nil
    · rw [hc]; simp [PTy.leaves, resLs, h']
  | _ => exact h.elim

theorem introL_lk : ∀ (ts : List PTy) (ps : List PV) (j n : Nat) (A : Hp) (i : Nat), lk ((introL .dp noP j n ts ps).2.1 ++ A) i = lk A i ∨ (n ≤ i ∧ ∃ T es, lk ((introL .dp noP j n ts ps).2.1 ++ A) i = some (.arr .dp T es .no))
  | [], ps, j, n, A, i => .inl (by simp [introL])
  | t :: ts, [], j, n, A, i => .inl (by cases t <;> simp [introL])
  | t :: ts, p :: ps, j, n, A, i => by
    cases t with
    | list T =>
      have e : (introL .dp noP j n (.list T :: ts) (p :: ps)).2.1 ++ A = (introL .dp noP (j + 1) (n + 1) ts ps).2.1 ++ ((n, .arr .dp T p.L .no) :: A) := by simp [introL, noP, List.append_assoc]
      rw [e]
      rcases introL_lk ts ps (j + 1) (n + 1) ((n, .arr .dp T p.L .no) :: A) i with h | ⟨h, h'⟩
      · rw [h, lk_cons']
        split
        · rename_i e; exact .inr ⟨by omega, _, _, rfl⟩
        · exact .inl rfl
      · exact .inr ⟨by omega, h'⟩
    | _ => exact introL_lk ts ps (j + 1) n A i

theorem cut3 {α : Type} {pre m post l v r : List α} {off k : Nat} (h : pre ++ m ++ post = l ++ v ++ r) (hp : pre.length = l.length + off) (hm : m.length = k) (hk : off + k ≤ v.length) : pre = l ++ v.take off ∧ post = v.drop (off + k) ++ r := by
  constructor
  · have h1 := congrArg (List.take pre.length) h
    rw [List.append_assoc, List.take_left, hp, List.append_assoc, List.take_append, List.take_of_length_le (by omega), Nat.add_sub_cancel_left, List.take_append_of_le_length (by omega)] at h1
    exact h1
  · have h1 := congrArg (List.drop (pre.length + m.length)) h
    rw [← List.length_append, List.drop_left, List.length_append, hp, hm, Nat.add_assoc, List.append_assoc, ← List.drop_drop, List.drop_left, List.drop_append_of_le_length (by omega)] at h1
    exact h1

theorem owned_isA {f : List Nat} {hl : HL} {b : Nat} (h : b ∈ owned f hl) : isA hl := by
  cases hl with
  | box o t cs => cases o <;> first | trivial | (simp [owned] at h)
  | abx o t cs => cases o <;> first | trivial | (simp [owned] at h)
  | arr o T es p => trivial
  | bld T e l => trivial
  | dead => simp [owned] at h

theorem backs_sound {Ar : Hp} {n0 : Nat} {β0 : Nat → GV} {ϕ0 : Nat → List Nat} (hp0 : Holds B X F A0 β0 ϕ0 w) (hb0 : Bd n0 β0 A0) (hsm : Same Ar A0) : ∀ {ts : List (Md × PTy)} {xs : List SV} {r : Prop × List PV} {outs : List PV} {mo G : List Nat} {A : Hp} {β : Nat → GV} {ϕ : Nat → List Nat} {n : Nat},
    OutV w w' ts outs (SV.vals β0 xs) mo → resTs Ar ts xs = some r → lendOk A0 ts xs → Holds B X F A β ϕ w' → Bd n β A → (∀ k, k < n0 → β k = β0 k) → n0 ≤ n → SV.lts n0 xs →
    (∀ h ∈ argsLs A0 ts xs, h < n0 ∧ ∀ hl, lk A h = some hl → hl = .dead) → (argsLs A0 ts xs).Nodup → (∀ i hl, lk A i = some hl → ∀ r ∈ roots hl, r ∉ argsLs A0 ts xs) → (mo ++ G).Nodup → (∀ b ∈ mo, (b ∈ X ∨ B ≤ b) ∧ (b ∈ F ∨ B ≤ b)) → Apart A ϕ (mo ++ G) →
    ∃ β' ϕ', Holds B X F (backs A0 A n ts xs outs).1 β' ϕ' w' ∧ Bd (backs A0 A n ts xs outs).2 β' (backs A0 A n ts xs outs).1 ∧ (∀ k, k < n → β' k = β k) ∧ n ≤ (backs A0 A n ts xs outs).2 ∧ Apart (backs A0 A n ts xs outs).1 ϕ' G
  | [], xs, r, outs, mo, G, A, β, ϕ, n, ho, hr, hl, hp, hb, hβ, hn0, hlt, hd, hnd, hro, hmn, hmw, hma => by
    have hx : xs = [] := by cases xs <;> first | rfl | (simp [resTs] at hr)
    subst hx
    cases ho
    exact ⟨β, ϕ, hp, hb, fun _ _ => rfl, Nat.le_refl _, hma.mono (by simp)⟩
  | (m, t) :: ts, [], r, outs, mo, G, A, β, ϕ, n, ho, hr, hl, hp, hb, hβ, hn0, hlt, hd, hnd, hro, hmn, hmw, hma => by simp [resTs] at hr
  | (m, t) :: ts, x :: xs, r, outs, mo, G, A, β, ϕ, n, ho, hr, hl, hp, hb, hβ, hn0, hlt, hd, hnd, hro, hmn, hmw, hma => by
    simp only [resTs] at hr
    split at hr
    · rename_i o1 p1 o2 qs1 h1 h2
      simp only [argsLs] at hd hnd hro
      obtain ⟨hnd1, hnd2, hnd3⟩ := List.nodup_append.1 hnd
      have hval : SV.val β x = SV.val β0 x := SV.val_congr hβ x hlt.1
      cases m with
      | rd =>
        simp only [SV.vals] at ho
        cases ho with
        | rd ho =>
          simp only [backs]
          exact backs_sound hp0 hb0 hsm ho h2 (by cases t <;> exact hl) hp hb hβ hn0 hlt.2 (fun h hh => hd h (by simp [hh])) hnd2 (fun i hl hi r hr hm => hro i hl hi r hr (by simp [hm])) hmn hmw hma
      | ow =>
        simp only [SV.vals] at ho
        cases ho with
        | ow ho =>
          simp only [backs]
          exact backs_sound hp0 hb0 hsm ho h2 (by cases t <;> first | exact hl.2 | exact hl.elim) hp hb hβ hn0 hlt.2 (fun h hh => hd h (by simp [hh])) hnd2 (fun i hl hi r hr hm => hro i hl hi r hr (by simp [hm])) hmn hmw hma
      | mt =>
        simp only [SV.vals] at ho
        cases ho with
        | @mt _ _ p ps _ _ f ms hA ho =>
          simp only [List.append_assoc] at hmn hma
          obtain ⟨fs, r', g1, rfl, g2⟩ := mt_leaves hA (by exact hval) h1
          simp only [argLs] at hd hnd1 hnd3 hro
          obtain ⟨ϕ1, a1, a2, a3, a4, a5⟩ := backL_sound g1 rfl g2 hp hb (fun h hh => ⟨by have := (hd h (by simp [hh])).1; omega, (hd h (by simp [hh])).2⟩) hnd1 hmn (fun b hb' => hmw b (by simp only [List.mem_append]; exact .inl hb')) hma
          simp only [backs]
          exact backs_sound hp0 hb0 hsm ho h2 (by cases t <;> first | exact hl.2 | exact hl.elim) a1 a2 hβ hn0 hlt.2 (fun h hh => ⟨(hd h (by simp [hh])).1, fun hl' hl2 => by
              rw [a4 h (fun hm => hnd3 h hm h hh rfl)] at hl2
              exact (hd h (by simp [hh])).2 hl' hl2⟩) hnd2
            (fun i hl' hi r hr hm => by
              rcases a5 i hl' hi with h5 | h5
              · exact hro i hl' h5 r hr (by simp [hm])
              · rw [h5] at hr; cases hr) (List.nodup_append.1 hmn).2.1 (fun b hb' => hmw b (by simp only [List.mem_append]; exact .inr hb')) a3
      | bx =>
        simp only [SV.vals] at ho
        cases ho with
        | @bx _ _ p ps _ _ f ms hX ho =>
          cases t with
          | box l =>
            cases x with
            | ptr h off =>
              simp only [lendOk] at hl
              obtain ⟨hl1, hl2⟩ := hl
              simp only [resT, resB] at h1
              split at h1
              case h_2 => cases h1
              rename_i ow tt cs hAr
              have hA0 := hsm.bx _ _ _ _ hAr
              rw [hA0] at hl1
              have : ow = true := by cases ow <;> first | rfl | exact hl1.elim
              subst this
              split at h1
              case isFalse => cases h1
              rename_i hle
              obtain ⟨qs, cs1, cs', fs, b, t1, t', pre, post, rfl, hv, hw0, hcl, hw1, hLo, rfl⟩ := hX
              obtain ⟨b', t2, hb', hϕ', hblk⟩ := hp0.sat _ _ hA0
              have hvv : b' = b ∧ (β0 h).pre.length + off = pre.length := by
                simp only [SV.val, hb', Value.pointer.injEq, Option.some.injEq, Addr.mk.injEq] at hv
                exact ⟨hv.1, hv.2.1⟩
              obtain ⟨rfl, hpl⟩ := hvv
              rw [hw0] at hblk
              simp only [Option.some.injEq, Obj.cells.injEq] at hblk
              obtain ⟨k1, k2⟩ := cut3 (List.toArray_inj hblk.1) hpl.symm hcl (by rw [SV.vals_map, List.length_map]; exact hle)
              have hcs := hb0 _ _ hA0
              simp only [List.cons_append, List.append_assoc, List.nodup_cons, List.mem_append, not_or] at hmn
              obtain ⟨⟨n1, n2, n3⟩, n4⟩ := hmn
              have hn' : (fs.flatten ++ (b' :: (ms ++ G))).Nodup := by
                obtain ⟨m1, m2, m3⟩ := List.nodup_append.1 n4
                refine List.nodup_append.2 ⟨m1, List.nodup_cons.2 ⟨by simp [n2, n3], m2⟩, ?_⟩
                intro c hc c' hc' e
                rcases List.mem_cons.1 hc' with rfl | hc'
                · subst e; exact n1 hc
                · exact m3 c hc c' hc' e
              obtain ⟨β1, ϕ1, a1, a2, a3, a4, a5, a6, a7, a8, a9⟩ := introL_own noP (fun _ => rfl) l qs cs' fs (b' :: (ms ++ G)) 0 n A β ϕ hLo hp hb hn' (fun c hc => hmw c (by simp [hc])) (hma.mono fun c hc => by simp only [List.mem_append, List.mem_cons] at hc ⊢; rcases hc with h | h | h | h <;> simp [h])
              have hh := hd h (by simp [argLs])
              have hlow : ∀ k, k < n → lk ((introL .dp noP 0 n l qs).2.1 ++ A) k = lk A k := fun k hk => by
                rcases introL_lk l qs 0 n A k with e | ⟨e, _⟩
                · exact e
                · omega
              have hnh : ∀ h' ∈ argsLs A0 ts xs, h' ≠ h := fun h' hh' e => hnd3 h (by simp [argLs]) h' hh' e.symm
              have hβ1 : ∀ k, k < n0 → β1 k = β0 k := fun k hk => (a3 k (by omega)).trans (hβ k hk)
              have hval2 : SV.vals β1 (cs.take off ++ (introL .dp noP 0 n l qs).1 ++ cs.drop (off + l.length)) = SV.vals β0 (cs.take off) ++ cs' ++ SV.vals β0 (cs.drop (off + l.length)) := by
                simp only [SV.vals_map, List.map_append] at a5 ⊢
                rw [a5]
                congr 1
                · congr 1
                  exact List.map_congr_left fun y hy => SV.val_congr hβ1 y (SV.lts_iff.1 hcs.2.1 y (List.mem_of_mem_take hy))
                · exact List.map_congr_left fun y hy => SV.val_congr hβ1 y (SV.lts_iff.1 hcs.2.1 y (List.mem_of_mem_drop hy))
              have hroot : ∀ i hl, lk ((introL .dp noP 0 n l qs).2.1 ++ A) i = some hl → ∀ r ∈ roots hl, r ≠ h ∧ r ∉ argsLs A0 ts xs := by
                intro i hl hi r hr
                rcases introL_lk l qs 0 n A i with e | ⟨_, T, es, e⟩
                · rw [e] at hi
                  have := hro i hl hi r hr
                  simp only [argLs, List.mem_append, not_or] at this
                  exact ⟨fun e => this.1 (by simp [e]), this.2⟩
                · rw [e] at hi; cases hi; simp [roots] at hr
              have hput := a1.put (A' := set1 ((introL .dp noP 0 n l qs).2.1 ++ A) h (.box true tt (cs.take off ++ (introL .dp noP 0 n l qs).1 ++ cs.drop (off + l.length)))) (n := h) (hl0 := .box true tt (cs.take off ++ (introL .dp noP 0 n l qs).1 ++ cs.drop (off + l.length))) (f := [b']) (fun j => lk_set1' _ _ _)
                (fun hl' hi => by rw [hlow h (by omega)] at hi; exact hh.2 hl' hi)
                ⟨b', t', by rw [hβ1 h hh.1]; exact hb', rfl, by rw [hβ1 h hh.1, hw1, hval2, k1, k2, SV.vals_map, SV.vals_map, SV.vals_map, List.map_take, List.map_drop]; simp [List.append_assoc]⟩
                (fun c hc => by simp only [owned, List.mem_singleton] at hc; subst hc; exact (hmw c (by simp)).1) (fun _ c hc => by simp only [List.mem_singleton] at hc; subst hc; exact (hmw c (by simp)).2) trivial
                (a9.mono fun c hc => by simp only [owned, List.mem_singleton] at hc; simp [hc])
                (fun i hl' hi _ c hc hm => by
                  simp only [List.mem_singleton] at hm
                  subst hm
                  by_cases hdd : hl' = .dead
                  · subst hdd; simp [owned] at hc
                  · exact a9 i hl' hi hdd c (owned_sub c hc) (by simp)) trivial
                (fun _ _ _ _ i hl' hi hm => (hroot i hl' hi h hm).1 rfl) (by simp [roots])
              have hbd := bd_put (A' := set1 ((introL .dp noP 0 n l qs).2.1 ++ A) h (.box true tt (cs.take off ++ (introL .dp noP 0 n l qs).1 ++ cs.drop (off + l.length)))) a2 (fun j => lk_set1' _ _ _) (show h < _ by omega)
                (show SV.lts _ _ ∧ SV.oks _ _ by
                  rw [SV.lts_iff, SV.oks_iff]
                  constructor
                  · intro y hy
                    simp only [List.mem_append] at hy
                    rcases hy with (hy | hy) | hy
                    · exact SV.lt_mono (show n0 ≤ _ by omega) y (SV.lts_iff.1 hcs.2.1 y (List.mem_of_mem_take hy))
                    · exact SV.lts_iff.1 a6 y hy
                    · exact SV.lt_mono (show n0 ≤ _ by omega) y (SV.lts_iff.1 hcs.2.1 y (List.mem_of_mem_drop hy))
                  · intro y hy
                    simp only [List.mem_append] at hy
                    rcases hy with (hy | hy) | hy
                    · exact SV.ok_congr hβ1 y (SV.lts_iff.1 hcs.2.1 y (List.mem_of_mem_take hy)) (SV.oks_iff.1 hcs.2.2 y (List.mem_of_mem_take hy))
                    · exact SV.oks_iff.1 a7 y hy
                    · exact SV.ok_congr hβ1 y (SV.lts_iff.1 hcs.2.1 y (List.mem_of_mem_drop hy)) (SV.oks_iff.1 hcs.2.2 y (List.mem_of_mem_drop hy)))
              have hap := apart_put (hl0 := .box true tt (cs.take off ++ (introL .dp noP 0 n l qs).1 ++ cs.drop (off + l.length))) (n := h) (f := [b']) (G := ms ++ G) (a9.mono fun c hc => by simp [hc]) (fun j => lk_set1' _ _ _) (fun c hc hm => by
                simp only [List.mem_singleton] at hc
                subst hc
                simp only [List.mem_append] at hm
                exact hm.elim n2 n3)
              simp only [backs, hA0, PV.A]
              obtain ⟨β', ϕ', r1, r2, r3, r4, r5⟩ := backs_sound hp0 hb0 hsm ho h2 hl2 hput hbd hβ1 (by omega) hlt.2
                (fun h' hh' => ⟨(hd h' (by simp [hh'])).1, fun hl' hi => by
                  have h9 := (hd h' (by simp [hh'])).1
                  rw [lk_set1', if_neg (hnh h' hh'), hlow h' (by omega)] at hi
                  exact (hd h' (by simp [hh'])).2 hl' hi⟩) hnd2
                (fun i hl' hi r hr => by
                  rw [lk_set1'] at hi
                  split at hi
                  · cases hi; simp [roots] at hr
                  · exact (hroot i hl' hi r hr).2) (List.nodup_append.1 n4).2.1 (fun c hc => hmw c (by simp [hc])) hap
              exact ⟨β', ϕ', r1, r2, fun k hk => (r3 k (by omega)).trans (a3 k hk), by omega, r5⟩
            | _ => simp [lendOk] at hl
          | abx T =>
            cases x with
            | ptr h off =>
              cases off with
              | zero =>
                simp only [lendOk] at hl
                obtain ⟨hl1, hl2⟩ := hl
                simp only [resT, resB] at h1
                split at h1
                case h_2 => cases h1
                rename_i ow T' es0 hAr
                have hA0 := hsm.ab _ _ _ _ hAr
                obtain ⟨es, b, t', c, rfl, hv, hw1, g1, g2, g3, rfl⟩ := hX
                obtain ⟨_, _, b', t2, c', hb', hϕ', hblk, _⟩ := hp0.sat _ _ hA0
                have hvv : b' = b := by
                  simp only [SV.val, hb', Value.pointer.injEq, Option.some.injEq, Addr.mk.injEq] at hv
                  exact hv.1
                subst hvv
                have hh := hd h (by simp [argLs])
                have hnh : ∀ h' ∈ argsLs A0 ts xs, h' ≠ h := fun h' hh' e => hnd3 h (by simp [argLs]) h' hh' e.symm
                simp only [List.cons_append, List.nil_append, List.nodup_cons, List.mem_append, not_or] at hmn
                obtain ⟨⟨n2, n3⟩, n4⟩ := hmn
                have hput := hp.put (A' := set1 A h (.abx true T es)) (n := h) (hl0 := .abx true T es) (f := [b']) (fun j => lk_set1' _ _ _) hh.2
                  ⟨g1, g2, b', t', c, by rw [hβ h hh.1]; exact hb', rfl, hw1, g3⟩
                  (fun c hc => by simp only [owned, List.mem_singleton] at hc; subst hc; exact (hmw c (by simp)).1) (fun _ c hc => by simp only [List.mem_singleton] at hc; subst hc; exact (hmw c (by simp)).2) trivial
                  (hma.mono fun c hc => by simp only [owned, List.mem_singleton] at hc; simp [hc])
                  (fun i hl' hi _ c hc hm => by
                    simp only [List.mem_singleton] at hm
                    subst hm
                    by_cases hdd : hl' = .dead
                    · subst hdd; simp [owned] at hc
                    · exact hma i hl' hi hdd c (owned_sub c hc) (by simp)) trivial
                  (fun _ _ _ e => by cases e) (by simp [roots])
                have hbd := bd_put (A' := set1 A h (.abx true T es)) hb (fun j => lk_set1' _ _ _) (show h < n by omega) trivial
                have hap := apart_put (hl0 := .abx true T es) (n := h) (f := [b']) (G := ms ++ G) (hma.mono fun c hc => by rcases List.mem_append.1 hc with h | h <;> simp [h]) (fun j => lk_set1' _ _ _) (fun c hc hm => by
                  simp only [List.mem_singleton] at hc
                  subst hc
                  simp only [List.mem_append] at hm
                  exact hm.elim n2 n3)
                simp only [backs, PV.L]
                exact backs_sound hp0 hb0 hsm ho h2 hl2 hput hbd hβ hn0 hlt.2
                  (fun h' hh' => ⟨(hd h' (by simp [hh'])).1, fun hl' hi => by
                    rw [lk_set1', if_neg (hnh h' hh')] at hi
                    exact (hd h' (by simp [hh'])).2 hl' hi⟩) hnd2
                  (fun i hl' hi r hr => by
                    rw [lk_set1'] at hi
                    split at hi
                    · cases hi; simp [roots] at hr
                    · have := hro i hl' hi r hr
                      simp only [List.mem_append, not_or] at this
                      exact this.2) n4 (fun c hc => hmw c (by simp [hc])) hap
              | succ m => simp [lendOk] at hl
            | _ => simp [lendOk] at hl
          | _ => exact hX.elim
    · cases hr

theorem rdOk_iff {D : List Nat} : ∀ {l : List Nat}, rdOk A D l → ∀ i ∈ l, i ∉ D ∧ ∃ hl, lk A i = some hl ∧ hl ≠ .dead ∧ ∀ r ∈ roots hl, r ∉ D
  | [], _, i, hi => by cases hi
  | h :: l, hr, i, hi => by
    simp only [rdOk] at hr
    obtain ⟨⟨h1, h2⟩, h3⟩ := hr
    rcases List.mem_cons.1 hi with e | hi
    · subst e
      refine ⟨fun hm => (by rw [memB_iff.2 hm] at h1; cases h1), ?_⟩
      cases hA : lk A i with
      | none => rw [hA] at h2; exact h2.elim
      | some hl =>
        rw [hA] at h2
        cases hl with
        | dead => exact h2.elim
        | arr o T es p =>
          cases o with
          | vw rs => exact ⟨_, rfl, by simp, fun r hr hm => by have h9 : anyB D rs = true := anyB_iff.2 ⟨r, hr, hm⟩; have h2 : anyB D rs = false := h2; rw [h9] at h2; cases h2⟩
          | _ => exact ⟨_, rfl, by simp, by simp [roots]⟩
        | _ => exact ⟨_, rfl, by simp, by simp [roots]⟩
    · exact rdOk_iff h3 i hi

/-- A call of a function that changes or keeps its arguments. -/
theorem call_own {s : FSpec} {ob : Prop} {ps : List PV} {xs : List SV} {fid : Nat} (hm : Meets P fid s) (hps : resTs S.A s.args xs = some (ob, ps)) (hk : SV.oks β xs) (hlt : SV.lts S.n xs) (sat : Sat N w0 X F S β ϕ a w) (hob : (callOwn S true s ob ps xs).ob) :
    Calls P fid (SV.vals β xs).toArray w fun e w' => ∃ v β' ϕ', e = .returned v ∧ Post w0 X F S (callOwn S true s ob ps xs) β ϕ o.dst v w' β' ϕ' := by
  obtain ⟨_, q1, q2, hfresh, hlen, hlend, hndB, hrd⟩ := hob
  obtain ⟨ϕ0, p1, p2, p3, p4, p5, p6, p7⟩ := proms_sound (argsLs S.A s.args xs) sat.hp sat.hb
  have hsame : Same S.A (proms S.A (argsLs S.A s.args xs)) := ⟨p3, fun j t o cs hj => (p6 _ _ _ _ hj).1, fun j o T cs hj => (p7 _ _ _ _ hj).1⟩
  have hal : Alive (proms S.A (argsLs S.A s.args xs)) (rdsHs (proms S.A (argsLs S.A s.args xs)) s.args xs) := fun i hi => by
    obtain ⟨_, hl, e1, e2, _⟩ := rdOk_iff hrd i hi; exact ⟨hl, e1, e2⟩
  obtain ⟨fs, fl, hargs, hfrom, hlent, heq⟩ := argsOwn p1 hsame hps q1 (fun i o t cs hi => (p2 _ _ hi).2.2) hk hlend hal
  have hret0 := hlend
  simp only [callOwn, callOw]
  generalize hA0 : proms S.A (argsLs S.A s.args xs) = A0 at *
  generalize hH : argsLs S.A s.args xs = H at *
  rw [← heq] at hargs hlent
  have hmnd := lents_nodup p1 hlent (ndB_iff.1 hndB)
  have hms : ∀ b ∈ (H.map ϕ0).flatten, (b ∈ X ∨ w0.heap.size ≤ b) ∧ (b ∈ F ∨ w0.heap.size ≤ b) := by
    intro b hb
    obtain ⟨i, hi, hl, e1, e2⟩ := lents_own hlent b hb
    exact ⟨p1.own _ _ e1 b e2, p1.all _ _ e1 (owned_isA e2) b (owned_sub b e2)⟩
  refine (hm w ps _ fs fl _ hargs hmnd ?_ q2).mono fun e w' he => ?_
  · intro b hb hf
    obtain ⟨h, hh, hl, e1, e2⟩ := lents_own hlent b hb
    obtain ⟨i, hi, hl', e3, e4, e5⟩ := hfrom.all b hf
    obtain ⟨n1, hl2, e6, e7, e8⟩ := rdOk_iff hrd i hi
    rw [e3] at e6; cases e6
    exact p1.dj h i _ _ e1 e3 (fun e => n1 (e ▸ hh)) (fun hr => e8 h hr hh) e4 b e2 e5
  obtain ⟨rvs, rfl, hFr, hcase⟩ := he
  have hcase : ∃ fr mo, RetVs w' s.ret (s.res ps) rvs fr ∧ OutV w w' s.args (s.out ps) (SV.vals β xs) mo ∧ (fr ++ mo).Nodup ∧ ∀ b ∈ fr ++ mo, b ∈ (H.map ϕ0).flatten ∨ w.heap.size ≤ b := by
    rcases hcase with ⟨_, h⟩ | ⟨hf, _⟩
    · exact h
    · rw [hfresh] at hf; cases hf
  obtain ⟨fr, mo, hret, hout, hnd, hge⟩ := hcase
  have hfr : Fr w0 X w' := sat.fr.trans hFr (fun x hx => hx) (fun b hb => (hms b hb).1)
  have hst := p1.struck H
  have hap := strike_apart p1 (lents_own hlent)
  have hst' : Holds w0.heap.size X F (strike H A0) β ϕ0 w' := hst.world fun i hl hi hd b hb => hFr.block b (hst.inb hi hd b hb) (hap i hl hi hd b hb)
  have hnd2 : (mo ++ fr).Nodup := (List.perm_append_comm.nodup_iff).1 hnd
  have hge2 : ∀ b ∈ mo ++ fr, (b ∈ X ∨ w0.heap.size ≤ b) ∧ (b ∈ F ∨ w0.heap.size ≤ b) := by
    intro b hb
    rcases hge b (by simp only [List.mem_append] at hb ⊢; exact hb.symm) with h | h
    · exact hms b h
    · exact ⟨.inr (Nat.le_trans sat.fr.size h), .inr (Nat.le_trans sat.fr.size h)⟩
  have hap2 : Apart (strike H A0) ϕ0 (mo ++ fr) := by
    intro i hl hi hd b hb hm
    rcases hge b (by simp only [List.mem_append] at hm ⊢; exact hm.symm) with h | h
    · exact hap i hl hi hd b hb h
    · have := hst.inb hi hd b hb; omega
  obtain ⟨β1, ϕ1, b1, b2, b3, b4, b5⟩ := backs_sound p1 p2 hsame hout hps hlend hst' (strike_bd p2 H) (fun _ _ => rfl) (Nat.le_refl S.n) hlt
    (by
      rw [← heq]
      intro h hh
      obtain ⟨hl, e1, _⟩ := hlent h hh
      exact ⟨(p2 _ _ e1).1, fun hl' hl2 => strike_dead hh hl2⟩)
    (by rw [← heq]; exact ndB_iff.1 hndB)
    (by
      rw [← heq]
      intro i hl hi r hr
      by_cases hd : hl = .dead
      · subst hd; simp [roots] at hr
      · exact (strike_lk hi hd).2.2 r hr) hnd2 (fun b hb => hge2 b (by simp [hb])) hap2
  obtain ⟨β', ϕ', c1, c2, c3, c4, c5, c6, c7, c8, c9⟩ := introVs_own s.ret (s.res ps) rvs fr [] _ _ _ _ hret b1 b2 (by simpa using (List.nodup_append.1 hnd).1) (fun b hb => hge2 b (by simp [hb])) (by simpa using b5)
  exact ⟨_, β', ϕ', rfl, fun _ => packV_val c5, fun h hh => (c3 h (by omega)).trans (b3 h hh), c1, c2, packV_lt c6, packV_ok c7, Nat.le_trans b4 c8, hfr⟩

end
end Go.Proofs.Ytmjjdfhpnckacab
