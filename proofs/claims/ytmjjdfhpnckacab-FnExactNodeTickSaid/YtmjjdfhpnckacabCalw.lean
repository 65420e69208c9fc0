/-
  Calls of functions that change or keep their arguments: how these are handed over, what comes back.
  Conditions: the contract holds.
-/
import Derived.Test.YtmjjdfhpnckacabCall
namespace Go.Proofs.Ytmjjdfhpnckacab
set_option linter.unusedVariables false
section
variable {P : Program} {E : Env} {N : Nat} {w0 : World} {X F : List Nat} {S : St} {β : Nat → GV} {ϕ : Nat → List Nat} {a : Act} {w w' : World} {o : Oper} {R : RR} {A A0 A' : Hp} {B : Nat}

/-- The same contents in another heap. -/
structure Same (A A0 : Hp) : Prop where
  lk : ∀ j hl, Go.Proofs.Ytmjjdfhpnckacab.lk A0 j = some hl → hl ≠ .dead → ∃ hl0, Go.Proofs.Ytmjjdfhpnckacab.lk A j = some hl0 ∧ Alike hl hl0
  bx : ∀ j t o cs, Go.Proofs.Ytmjjdfhpnckacab.lk A j = some (.box o t cs) → Go.Proofs.Ytmjjdfhpnckacab.lk A0 j = some (.box o t cs)
  ab : ∀ j o T cs, Go.Proofs.Ytmjjdfhpnckacab.lk A j = some (.abx o T cs) → Go.Proofs.Ytmjjdfhpnckacab.lk A0 j = some (.abx o T cs)

def Alive (A : Hp) (hs : List Nat) : Prop := ∀ i ∈ hs, ∃ hl, lk A i = some hl ∧ hl ≠ .dead

theorem resL_same {t : PTy} {x : SV} {r : Prop × PV} (h : resL A t x = some r) (hs : Same A A0) (ha : Alive A0 (slsOf [x])) : resL A0 t x = some r := by
  cases t <;> cases x <;> simp only [resL, reduceCtorEq] at h ⊢ <;> try exact h
  rename_i T i
  obtain ⟨hl, h1, h2⟩ := ha i (by simp [slsOf])
  obtain ⟨hl0, h3, h4⟩ := hs.lk i hl h1 h2
  rw [h1]
  rw [h3] at h
  cases hl0 with
  | arr o0 T0 es0 p0 =>
    cases hl with
    | arr o1 T1 es1 p1 =>
      obtain ⟨rfl, rfl, h5, h6⟩ := h4
      have hn : ∀ k, o0 ≠ .cs k := by intro k e; subst e; simp at h
      have hn1 : ∀ k, o1 ≠ .cs k := by
        intro k e
        exact hn k (h5 k e)
      cases o1 <;> cases o0 <;> first | exact absurd rfl (hn _) | exact absurd rfl (hn1 _) | exact h
    | _ => simp [Alike] at h4
  | _ => simp at h

theorem alive_cons {x : SV} {xs : List SV} (h : Alive A (slsOf (x :: xs))) : Alive A (slsOf [x]) ∧ Alive A (slsOf xs) := by
  cases x <;> simp only [slsOf] at h ⊢ <;> first | exact ⟨fun i hi => (by cases hi), h⟩ | exact ⟨fun i hi => h i (by simp at hi; simp [hi]), fun i hi => h i (by simp [hi])⟩

theorem resLs_same : ∀ {ts : List PTy} {xs : List SV} {r : Prop × List PV}, resLs A ts xs = some r → Same A A0 → Alive A0 (slsOf xs) → resLs A0 ts xs = some r
  | [], [], r, h, _, _ => h
  | [], x :: xs, r, h, _, _ => by cases h
  | t :: ts, [], r, h, _, _ => by cases h
  | t :: ts, x :: xs, r, h, hs, ha => by
    obtain ⟨ha1, ha2⟩ := alive_cons ha
    simp only [resLs] at h ⊢
    split at h
    · rename_i o p o' ps h1 h2
      rw [resL_same h1 hs ha1, resLs_same h2 hs ha2]; exact h
    · cases h

theorem alive_sub {hs hs' : List Nat} (h : Alive A hs) (hh : ∀ i ∈ hs', i ∈ hs) : Alive A hs' := fun i hi => h i (hh i hi)

theorem resB_same {t : PTy} {x : SV} {r : Prop × PV} (h : resB A t x = some r) (hs : Same A A0) (ha : Alive A0 (rdHs1 A0 x)) : resB A0 t x = some r := by
  have leaf : resL A t x = some r → (∀ xs, x ≠ .agg xs) → (∀ i j, x ≠ .ptr i j) → resL A0 t x = some r := by
    intro h' hn1 hn2
    refine resL_same h' hs (alive_sub ha fun i hi => ?_)
    cases x <;> simp [slsOf] at hi
    simp [rdHs1, SV.cells, slsOf, hi]
  cases t with
  | agg ts =>
    cases x with
    | agg xs =>
      simp only [resB] at h ⊢
      split at h
      · rename_i o ps hps
        rw [resLs_same hps hs (alive_sub ha fun i hi => hi)]; exact h
      · cases h
    | _ => simp [resB, resL] at h
  | box ts =>
    cases x with
    | ptr i off =>
      simp only [resB] at h ⊢
      split at h
      · rename_i o t cs hl
        have hl' := hs.bx _ _ _ _ hl
        rw [hl']
        dsimp only
        split at h
        · rename_i hc
          rw [if_pos hc]
          split at h
          · rename_i o2 ps hps
            rw [resLs_same hps hs (alive_sub ha fun j hj => by simp only [rdHs1, hl']; exact List.mem_cons_of_mem _ (slsOf_take j hj))]; exact h
          · cases h
        · cases h
      · cases h
    | _ => simp [resB, resL] at h
  | abx T =>
    cases x with
    | ptr i off =>
      cases off with
      | zero =>
        simp only [resB] at h ⊢
        split at h
        · rename_i ow T' es hl
          rw [hs.ab _ _ _ _ hl]; exact h
        · cases h
      | succ n => simp [resB, resL] at h
    | _ => simp [resB, resL] at h
  | fn g ts => cases x <;> simp [resB, resL] at h
  | opq => cases x <;> simp [resB, resL] at h
  | int k => cases x <;> simp only [resB] at h ⊢ <;> first | (simp [resL] at h; done) | exact leaf h (by simp) (by simp)
  | bool => cases x <;> simp only [resB] at h ⊢ <;> first | (simp [resL] at h; done) | exact leaf h (by simp) (by simp)
  | str => cases x <;> simp only [resB] at h ⊢ <;> first | (simp [resL] at h; done) | exact leaf h (by simp) (by simp)
  | list T => cases x <;> simp only [resB] at h ⊢ <;> first | (simp [resL] at h; done) | exact leaf h (by simp) (by simp)

theorem resBs_same : ∀ {ts : List PTy} {xs : List SV} {r : Prop × List PV}, resBs A ts xs = some r → Same A A0 → Alive A0 (rdHsL A0 xs) → resBs A0 ts xs = some r
  | [], [], r, h, _, _ => h
  | [], x :: xs, r, h, _, _ => by cases h
  | t :: ts, [], r, h, _, _ => by cases h
  | t :: ts, x :: xs, r, h, hs, ha => by
    simp only [resBs] at h ⊢
    split at h
    · rename_i o p o' ps h1 h2
      rw [resB_same h1 hs (alive_sub ha fun i hi => by simp [rdHsL, hi]), resBs_same h2 hs (alive_sub ha fun i hi => by simp [rdHsL, hi])]; exact h
    · cases h

theorem resT_same {t : PTy} {x : SV} {r : Prop × PV} (h : resT A t x = some r) (hs : Same A A0) (ha : Alive A0 (rdHs A0 x)) : resT A0 t x = some r := by
  by_cases hfn : ∃ g ts, t = .fn g ts
  · obtain ⟨g, ts, rfl⟩ := hfn
    cases x with
    | fn g' xs =>
      simp only [resT] at h ⊢
      split at h
      · rename_i o ps hps
        rw [resBs_same hps hs ha]; exact h
      · cases h
    | _ => simp [resT, resB, resL] at h
  · have e : ∀ A, resT A t x = resB A t x := by
      intro A
      cases t <;> first | exact absurd ⟨_, _, rfl⟩ hfn | (cases x <;> rfl)
    rw [e] at h ⊢
    have hr : rdHs A0 x = rdHs1 A0 x := by
      cases x <;> (try rfl)
      exfalso
      cases t <;> first | exact hfn ⟨_, _, rfl⟩ | (simp [resB, resL] at h)
    exact resB_same h hs (by rw [← hr]; exact ha)

/-- What is lent is owned with all that it reaches. -/
def Lent (A : Hp) (ϕ : Nat → List Nat) (h : Nat) : Prop := ∃ hl, lk A h = some hl ∧ hl ≠ .dead ∧ owned (ϕ h) hl = ϕ h ∧ (ϕ h).Nodup ∧ roots hl = []

theorem lent_dp (hp : Holds B X F A β ϕ w) {h : Nat} (hd : dpB A h = true) : Lent A ϕ h := by
  obtain ⟨T, es, p, e⟩ := dpB_iff.1 hd
  exact ⟨_, e, by simp, rfl, hp.nd _ _ e, rfl⟩

theorem lents_nodup (hp : Holds B X F A β ϕ w) {hs : List Nat} (h1 : ∀ h ∈ hs, Lent A ϕ h) (h2 : hs.Nodup) : (hs.map ϕ).flatten.Nodup := by
  refine nodup_flat h2 (fun i hi => ?_) (fun i hi j hj hne b hb => ?_)
  · obtain ⟨hl, _, _, _, e, _⟩ := h1 i hi; exact e
  · obtain ⟨hl, e1, e2, e3, _, e4⟩ := h1 i hi
    obtain ⟨hl', f1, f2, f3, _, f4⟩ := h1 j hj
    exact hp.dj i j _ _ e1 f1 hne (by rw [f4]; simp) f2 b (by rw [e3]; exact hb)

theorem lents_own {hs : List Nat} (h1 : ∀ h ∈ hs, Lent A ϕ h) : ∀ b ∈ (hs.map ϕ).flatten, ∃ i ∈ hs, ∃ hl, lk A i = some hl ∧ b ∈ owned (ϕ i) hl := by
  intro b hb
  simp only [List.mem_flatten, List.mem_map] at hb
  obtain ⟨_, ⟨h, hh, rfl⟩, hb⟩ := hb
  obtain ⟨hl, e1, e2, e3, _⟩ := h1 h hh
  exact ⟨h, hh, hl, e1, by rw [e3]; exact hb⟩

/-- The arguments as they are handed over. -/
theorem argsOwn (hp : Holds B X F A0 β ϕ w) (hs : Same A A0) : ∀ {ts : List (Md × PTy)} {xs : List SV} {ob : Prop} {ps : List PV}, resTs A ts xs = some (ob, ps) → ob → (∀ i o t cs, lk A0 i = some (.box o t cs) → SV.oks β cs) → SV.oks β xs → lendOk A0 ts xs → Alive A0 (rdsHs A0 ts xs) →
    ∃ fs fl, ArgsV w ts ps (SV.vals β xs) fs fl ((argsLs A0 ts xs).map ϕ).flatten ∧ From A0 ϕ (rdsHs A0 ts xs) fs fl ∧ (∀ h ∈ argsLs A0 ts xs, Lent A0 ϕ h) ∧ argsLs A ts xs = argsLs A0 ts xs
  | [], [], ob, ps, h, hob, hbx, hk, hl, ha => by cases h; exact ⟨[], [], .nil, ⟨by simp, by simp, by simp⟩, by simp [argsLs], rfl⟩
  | [], x :: xs, ob, ps, h, hob, hbx, hk, hl, ha => by cases h
  | (m, t) :: ts, [], ob, ps, h, hob, hbx, hk, hl, ha => by cases h
  | (m, t) :: ts, x :: xs, ob, ps, h, hob, hbx, hk, hl, ha => by
    simp only [resTs] at h
    split at h
    · rename_i o1 p o2 qs h1 h2
      cases h
      -- lists that are owned
      have lists : ∀ {us : List PTy} {ys : List SV} {o : Prop} {rs : List PV}, resLs A us ys = some (o, rs) → o → SV.oks β ys → dpAll A0 (slsOf ys) = true → LoD w us rs (SV.vals β ys) (fsOf ϕ ys) := by
        intro us ys o rs q1 q2 q3 q4
        refine resLs_own q1 q2 q3 fun h hh o T es p hA => ?_
        obtain ⟨T', es', p', e⟩ := dpB_iff.1 (dpAll_iff.1 q4 h hh)
        obtain ⟨hl0, e1, e2⟩ := hs.lk h _ e (by simp)
        rw [hA] at e1; cases e1
        obtain ⟨rfl, rfl, _⟩ := e2
        exact hp.sat _ _ e
      -- a slice or a struct
      have arg : (∃ T, t = .list T) ∨ (∃ us, t = .agg us) → dpAll A0 (slsOf x.cells) = true → ArgM w t p (SV.val β x) ((slsOf x.cells).map ϕ).flatten := by
        rintro (⟨T, rfl⟩ | ⟨us, rfl⟩) hd
        · have h' : resL A (.list T) x = some (o1, p) := by cases x <;> simpa [resT, resB] using h1
          have hc : x.cells = [x] := by cases x <;> first | rfl | (simp [resL] at h')
          have := lists (us := [.list T]) (ys := [x]) (o := o1 ∧ True) (rs := [p]) (by simp [resLs, h']) ⟨hob.1, trivial⟩ ⟨hk.1, trivial⟩ (by rw [← hc]; exact hd)
          rw [hc, ← fsOf_flat]
          generalize fsOf ϕ [x] = fs at this
          cases this with
          | list hO hr => cases hr; exact ⟨_, rfl, by simpa using hO⟩
        · cases x with
          | agg ys =>
            simp only [resT, resB] at h1
            split at h1
            · rename_i o ps hps
              simp only [Option.some.injEq, Prod.mk.injEq] at h1
              obtain ⟨rfl, rfl⟩ := h1
              exact ⟨ps, _, _, rfl, rfl, lists hps hob.1 hk.1 hd, by rw [fsOf_flat]; rfl⟩
            · cases h1
          | _ => simp [resT, resB, resL] at h1
      have lents : ∀ {ys : List SV}, dpAll A0 (slsOf ys) = true → ∀ h ∈ slsOf ys, Lent A0 ϕ h := fun hd h hh => lent_dp hp (dpAll_iff.1 hd h hh)
      cases m with
      | rd =>
        obtain ⟨fs, fl, r1, r2, r3, r4⟩ := argsOwn hp hs h2 hob.2 hbx hk.2 (by cases t <;> exact hl) (alive_sub ha fun i hi => by simp [rdsHs, hi])
        obtain ⟨f1, l1, q1, q2⟩ := resT_sound (resT_same h1 hs (alive_sub ha fun i hi => by simp [rdsHs, hi])) hob.1 hp hbx hk.1
        exact ⟨_, _, .rd q1 r1, q2.app r2, r3, by simp only [argsLs, argLs, List.nil_append]; exact r4⟩
      | mt =>
        have ht : ((∃ T, t = .list T) ∨ ∃ us, t = .agg us) ∧ dpAll A0 (slsOf x.cells) = true ∧ lendOk A0 ts xs := by
          cases t <;> simp only [lendOk] at hl <;> first | exact ⟨.inl ⟨_, rfl⟩, hl.1, hl.2⟩ | exact ⟨.inr ⟨_, rfl⟩, hl.1, hl.2⟩
        obtain ⟨fs, fl, r1, r2, r3, r4⟩ := argsOwn hp hs h2 hob.2 hbx hk.2 ht.2.2 ha
        refine ⟨fs, fl, ?_, r2, ?_, by simp only [argsLs, argLs, r4]⟩
        · have := ArgsV.mt (arg ht.1 ht.2.1) r1
          simpa [argsLs, argLs, SV.vals] using this
        · intro h hh
          rcases List.mem_append.1 hh with hh | hh
          · exact lents ht.2.1 h hh
          · exact r3 h hh
      | ow =>
        have ht : ((∃ T, t = .list T) ∨ ∃ us, t = .agg us) ∧ dpAll A0 (slsOf x.cells) = true ∧ lendOk A0 ts xs := by
          cases t <;> simp only [lendOk] at hl <;> first | exact ⟨.inl ⟨_, rfl⟩, hl.1, hl.2⟩ | exact ⟨.inr ⟨_, rfl⟩, hl.1, hl.2⟩
        obtain ⟨fs, fl, r1, r2, r3, r4⟩ := argsOwn hp hs h2 hob.2 hbx hk.2 ht.2.2 ha
        refine ⟨fs, fl, ?_, r2, ?_, by simp only [argsLs, argLs, r4]⟩
        · have := ArgsV.ow (arg ht.1 ht.2.1) r1
          simpa [argsLs, argLs, SV.vals] using this
        · intro h hh
          rcases List.mem_append.1 hh with hh | hh
          · exact lents ht.2.1 h hh
          · exact r3 h hh
      | bx =>
        cases t with
        | box us =>
          cases x with
          | ptr i off =>
            simp only [lendOk] at hl
            obtain ⟨hl1, hl2⟩ := hl
            obtain ⟨fs, fl, r1, r2, r3, r4⟩ := argsOwn hp hs h2 hob.2 hbx hk.2 hl2 ha
            simp only [resT, resB] at h1
            split at h1
            · rename_i o t' cs hA
              have hA0 := hs.bx _ _ _ _ hA
              rw [hA0] at hl1
              split at h1
              · rename_i hc
                split at h1
                · rename_i o2 ps hps
                  simp only [Option.some.injEq, Prod.mk.injEq] at h1
                  obtain ⟨rfl, rfl⟩ := h1
                  have hown : o = true ∧ dpAll A0 (slsOf ((cs.drop off).take us.length)) = true := by
                    cases o <;> simp only at hl1 <;> first | exact ⟨rfl, hl1⟩ | exact hl1.elim
                  obtain ⟨rfl, hd⟩ := hown
                  obtain ⟨b, t2, hb, hϕ, hblk⟩ := hp.sat _ _ hA0
                  have hoks : SV.oks β ((cs.drop off).take us.length) := by
                    rw [SV.oks_iff]; intro y hy
                    exact SV.oks_iff.1 (hbx _ _ _ _ hA0) y (List.mem_of_mem_drop (List.mem_of_mem_take hy))
                  have hLo := lists hps hob.1 hoks hd
                  have hx : ArgX w (.box us) (.agg ps) (SV.val β (.ptr i off)) (b :: (fsOf ϕ ((cs.drop off).take us.length)).flatten) := by
                    refine ⟨ps, _, _, b, t2, (β i).pre ++ SV.vals β (cs.take off), SV.vals β (cs.drop (off + us.length)) ++ (β i).post, rfl, ?_, ?_, hLo, rfl⟩
                    · simp [SV.val, hb, SV.vals_map]; omega
                    · rw [hblk]; congr 2
                      rw [vals_split β cs off us.length]; simp [List.append_assoc]
                  refine ⟨fs, fl, ?_, r2, ?_, ?_⟩
                  · have := ArgsV.bx hx r1
                    simp only [argsLs, argLs, hA0, List.map_append, List.map_cons, List.flatten_append, List.flatten_cons, hϕ, ← fsOf_flat, List.cons_append, List.append_assoc, List.nil_append, SV.vals] at this ⊢
                    exact this
                  · intro h hh
                    simp only [argsLs, argLs, hA0, List.mem_append, List.mem_cons] at hh
                    rcases hh with (rfl | hh) | hh
                    · exact ⟨_, hA0, by simp, rfl, by rw [hϕ]; simp, rfl⟩
                    · exact lents hd h hh
                    · exact r3 h hh
                  · simp only [argsLs, argLs, hA, hA0, r4]
                · cases h1
              · cases h1
            · cases h1
          | _ => simp [lendOk] at hl
        | abx T =>
          cases x with
          | ptr i off =>
            cases off with
            | zero =>
              simp only [lendOk] at hl
              obtain ⟨hl1, hl2⟩ := hl
              obtain ⟨fs, fl, r1, r2, r3, r4⟩ := argsOwn hp hs h2 hob.2 hbx hk.2 hl2 ha
              simp only [resT, resB] at h1
              split at h1
              · rename_i ow T' es hA
                simp only [Option.some.injEq, Prod.mk.injEq] at h1
                obtain ⟨rfl, rfl⟩ := h1
                have := hob.1
                subst this
                have hA0 := hs.ab _ _ _ _ hA
                rw [hA0] at hl1
                have : ow = true := by cases ow <;> simp at hl1 ⊢
                subst this
                obtain ⟨g1, g2, b, t', c, hv, hϕ, hblk, hL⟩ := hp.sat _ _ hA0
                have hx : ArgX w (.abx T') (.list es) (SV.val β (.ptr i 0)) [b] := ⟨es, b, t', c, rfl, by simp [SV.val, hv], hblk, g1, g2, hL, rfl⟩
                refine ⟨fs, fl, ?_, r2, ?_, by simp only [argsLs, argLs, r4]⟩
                · have := ArgsV.bx hx r1
                  simp only [argsLs, argLs, List.map_append, List.map_cons, List.map_nil, List.flatten_append, List.flatten_cons, List.flatten_nil, List.append_nil, hϕ, SV.vals] at this ⊢
                  exact this
                · intro h hh
                  simp only [argsLs, argLs, List.mem_append, List.mem_singleton] at hh
                  rcases hh with rfl | hh
                  · exact ⟨_, hA0, by simp, rfl, by rw [hϕ]; simp, rfl⟩
                  · exact r3 h hh
              · cases h1
            | succ n => simp [lendOk] at hl
          | _ => simp [lendOk] at hl
        | _ => simp [lendOk] at hl
    · cases h

end
end Go.Proofs.Ytmjjdfhpnckacab
