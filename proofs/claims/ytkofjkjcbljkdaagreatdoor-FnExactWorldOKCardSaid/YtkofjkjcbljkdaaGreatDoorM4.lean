/-
  Part 4 of the proof of FnExactWorldOK: a verification-condition generator over the program and the contracts of its functions, in the order of their use.
  Conditions: none.
-/
import Derived.Test.YtkofjkjcbljkdaaGreatDoorM3
import Derived.Laws.IdiomCopy
import Derived.Orders
set_option linter.unusedVariables false
set_option linter.unusedSimpArgs false
set_option linter.unusedSectionVars false

section
namespace Go.Proofs.YtkofjkjcbljkdaaGreatDoor
variable [LaidG]
set_option linter.unusedVariables false
section
variable {P : Program} {E : Env} {N : Nat} {w0 : World} {X F : List Nat} {S : St} {β : Nat → GV} {ϕ : Nat → List Nat} {a : Act} {w w' : World} {o : Oper} {R : RR} {A A0 A' : Hp} {B : Nat}
structure Same (A A0 : Hp) : Prop where
  lk : ∀ j hl, Go.Proofs.YtkofjkjcbljkdaaGreatDoor.lk A0 j = some hl → hl ≠ .dead → ∃ hl0, Go.Proofs.YtkofjkjcbljkdaaGreatDoor.lk A j = some hl0 ∧ Alike hl hl0
  bx : ∀ j t o cs, Go.Proofs.YtkofjkjcbljkdaaGreatDoor.lk A j = some (.box o t cs) → Go.Proofs.YtkofjkjcbljkdaaGreatDoor.lk A0 j = some (.box o t cs)
  ab : ∀ j o T cs, Go.Proofs.YtkofjkjcbljkdaaGreatDoor.lk A j = some (.abx o T cs) → Go.Proofs.YtkofjkjcbljkdaaGreatDoor.lk A0 j = some (.abx o T cs)
def Alive (A : Hp) (hs : List Nat) : Prop := ∀ i ∈ hs, ∃ hl, lk A i = some hl ∧ hl ≠ .dead
theorem resL_same {t : PTy} {x : SV} {r : Prop × PV} (h : resL A t x = some r) (hs : Same A A0) (ha : Alive A0 (slsOf [x])) : resL A0 t x = some r := by
  cases t <;> cases x <;> simp only [resL, reduceCtorEq] at h ⊢ <;> try exact h
  rename_i T i
  obtain ⟨hl, h1, h2⟩ := ha i (by simp [slsOf])
  obtain ⟨hl0, h3, h4⟩ := hs.lk i hl h1 h2
  rw [h1]
  rw [h3] at h
  cases hl0 with
  | arr o0 T0 es0 p0 =>
    cases hl with
    | arr o1 T1 es1 p1 =>
      obtain ⟨rfl, rfl, h5, h6⟩ := h4
      have hn : ∀ k, o0 ≠ .cs k := by intro k e; subst e; simp at h
      have hn1 : ∀ k, o1 ≠ .cs k := by
        intro k e
        exact hn k (h5 k e)
      cases o1 <;> cases o0 <;> first | exact absurd rfl (hn _) | exact absurd rfl (hn1 _) | exact h
    | _ => simp [Alike] at h4
  | _ => simp at h
theorem alive_cons {x : SV} {xs : List SV} (h : Alive A (slsOf (x :: xs))) : Alive A (slsOf [x]) ∧ Alive A (slsOf xs) := by
  cases x <;> simp only [slsOf] at h ⊢ <;> first | exact ⟨fun i hi => (by cases hi), h⟩ | exact ⟨fun i hi => h i (by simp at hi; simp [hi]), fun i hi => h i (by simp [hi])⟩
theorem resLs_same : ∀ {ts : List PTy} {xs : List SV} {r : Prop × List PV}, resLs A ts xs = some r → Same A A0 → Alive A0 (slsOf xs) → resLs A0 ts xs = some r
  | [], [], r, h, _, _ => h
  | [], x :: xs, r, h, _, _ => by cases h
  | t :: ts, [], r, h, _, _ => by cases h
  | t :: ts, x :: xs, r, h, hs, ha => by
    obtain ⟨ha1, ha2⟩ := alive_cons ha
    simp only [resLs] at h ⊢
    split at h
    · rename_i o p o' ps h1 h2
      rw [resL_same h1 hs ha1, resLs_same h2 hs ha2]; exact h
    · cases h
theorem alive_sub {hs hs' : List Nat} (h : Alive A hs) (hh : ∀ i ∈ hs', i ∈ hs) : Alive A hs' := fun i hi => h i (hh i hi)
theorem resB_same {t : PTy} {x : SV} {r : Prop × PV} (h : resB A t x = some r) (hs : Same A A0) (ha : Alive A0 (rdHs1 A0 x)) : resB A0 t x = some r := by
  have leaf : resL A t x = some r → (∀ xs, x ≠ .agg xs) → (∀ i j, x ≠ .ptr i j) → resL A0 t x = some r := by
    intro h' hn1 hn2
    refine resL_same h' hs (alive_sub ha fun i hi => ?_)
    cases x <;> simp [slsOf] at hi
    simp [rdHs1, SV.cells, slsOf, hi]
  cases t with
  | agg ts =>
    cases x with
    | agg xs =>
      simp only [resB] at h ⊢
      split at h
      · rename_i o ps hps
        rw [resLs_same hps hs (alive_sub ha fun i hi => hi)]; exact h
      · cases h
    | _ => simp [resB, resL] at h
  | box ts =>
    cases x with
    | ptr i off =>
      simp only [resB] at h ⊢
      split at h
      · rename_i o t cs hl
        have hl' := hs.bx _ _ _ _ hl
        rw [hl']
        dsimp only
        split at h
        · rename_i hc
          rw [if_pos hc]
          split at h
          · rename_i o2 ps hps
            rw [resLs_same hps hs (alive_sub ha fun j hj => by simp only [rdHs1, hl']; exact List.mem_cons_of_mem _ (slsOf_take j hj))]; exact h
          · cases h
        · cases h
      · cases h
    | _ => simp [resB, resL] at h
  | abx T =>
    cases x with
    | ptr i off =>
      cases off with
      | zero =>
        simp only [resB] at h ⊢
        split at h
        · rename_i ow T' es hl
          rw [hs.ab _ _ _ _ hl]; exact h
        · cases h
      | succ n => simp [resB, resL] at h
    | _ => simp [resB, resL] at h
  | fn g ts => cases x <;> simp [resB, resL] at h
  | opq => cases x <;> simp [resB, resL] at h
  | int k => cases x <;> simp only [resB] at h ⊢ <;> first | (simp [resL] at h; done) | exact leaf h (by simp) (by simp)
  | bool => cases x <;> simp only [resB] at h ⊢ <;> first | (simp [resL] at h; done) | exact leaf h (by simp) (by simp)
  | str => cases x <;> simp only [resB] at h ⊢ <;> first | (simp [resL] at h; done) | exact leaf h (by simp) (by simp)
  | list T => cases x <;> simp only [resB] at h ⊢ <;> first | (simp [resL] at h; done) | exact leaf h (by simp) (by simp)
theorem resBs_same : ∀ {ts : List PTy} {xs : List SV} {r : Prop × List PV}, resBs A ts xs = some r → Same A A0 → Alive A0 (rdHsL A0 xs) → resBs A0 ts xs = some r
  | [], [], r, h, _, _ => h
  | [], x :: xs, r, h, _, _ => by cases h
  | t :: ts, [], r, h, _, _ => by cases h
  | t :: ts, x :: xs, r, h, hs, ha => by
    simp only [resBs] at h ⊢
    split at h
    · rename_i o p o' ps h1 h2
      rw [resB_same h1 hs (alive_sub ha fun i hi => by simp [rdHsL, hi]), resBs_same h2 hs (alive_sub ha fun i hi => by simp [rdHsL, hi])]; exact h
    · cases h
theorem resT_same {t : PTy} {x : SV} {r : Prop × PV} (h : resT A t x = some r) (hs : Same A A0) (ha : Alive A0 (rdHs A0 x)) : resT A0 t x = some r := by
  by_cases hfn : ∃ g ts, t = .fn g ts
  · obtain ⟨g, ts, rfl⟩ := hfn
    cases x with
    | fn g' xs =>
      simp only [resT] at h ⊢
      split at h
      · rename_i o ps hps
        rw [resBs_same hps hs ha]; exact h
      · cases h
    | _ => simp [resT, resB, resL] at h
  · have e : ∀ A, resT A t x = resB A t x := by
      intro A
      cases t <;> first | exact absurd ⟨_, _, rfl⟩ hfn | (cases x <;> rfl)
    rw [e] at h ⊢
    have hr : rdHs A0 x = rdHs1 A0 x := by
      cases x <;> (try rfl)
      exfalso
      cases t <;> first | exact hfn ⟨_, _, rfl⟩ | (simp [resB, resL] at h)
    exact resB_same h hs (by rw [← hr]; exact ha)
def Lent (A : Hp) (ϕ : Nat → List Nat) (h : Nat) : Prop := ∃ hl, lk A h = some hl ∧ hl ≠ .dead ∧ owned (ϕ h) hl = ϕ h ∧ (ϕ h).Nodup ∧ roots hl = []
theorem lent_dp (hp : Holds B X F A β ϕ w) {h : Nat} (hd : dpB A h = true) : Lent A ϕ h := by
  obtain ⟨T, es, p, e⟩ := dpB_iff.1 hd
  exact ⟨_, e, by simp, rfl, hp.nd _ _ e, rfl⟩
theorem lents_nodup (hp : Holds B X F A β ϕ w) {hs : List Nat} (h1 : ∀ h ∈ hs, Lent A ϕ h) (h2 : hs.Nodup) : (hs.map ϕ).flatten.Nodup := by
  refine nodup_flat h2 (fun i hi => ?_) (fun i hi j hj hne b hb => ?_)
  · obtain ⟨hl, _, _, _, e, _⟩ := h1 i hi; exact e
  · obtain ⟨hl, e1, e2, e3, _, e4⟩ := h1 i hi
    obtain ⟨hl', f1, f2, f3, _, f4⟩ := h1 j hj
    exact hp.dj i j _ _ e1 f1 hne (by rw [f4]; simp) f2 b (by rw [e3]; exact hb)
theorem lents_own {hs : List Nat} (h1 : ∀ h ∈ hs, Lent A ϕ h) : ∀ b ∈ (hs.map ϕ).flatten, ∃ i ∈ hs, ∃ hl, lk A i = some hl ∧ b ∈ owned (ϕ i) hl := by
  intro b hb
  simp only [List.mem_flatten, List.mem_map] at hb
  obtain ⟨_, ⟨h, hh, rfl⟩, hb⟩ := hb
  obtain ⟨hl, e1, e2, e3, _⟩ := h1 h hh
  exact ⟨h, hh, hl, e1, by rw [e3]; exact hb⟩
theorem argsOwn (hp : Holds B X F A0 β ϕ w) (hs : Same A A0) : ∀ {ts : List (Md × PTy)} {xs : List SV} {ob : Prop} {ps : List PV}, resTs A ts xs = some (ob, ps) → ob → (∀ i o t cs, lk A0 i = some (.box o t cs) → SV.oks β cs) → SV.oks β xs → lendOk A0 ts xs → Alive A0 (rdsHs A0 ts xs) →
    ∃ fs fl, ArgsV w ts ps (SV.vals β xs) fs fl ((argsLs A0 ts xs).map ϕ).flatten ∧ From A0 ϕ (rdsHs A0 ts xs) fs fl ∧ (∀ h ∈ argsLs A0 ts xs, Lent A0 ϕ h) ∧ argsLs A ts xs = argsLs A0 ts xs
  | [], [], ob, ps, h, hob, hbx, hk, hl, ha => by cases h; exact ⟨[], [], .nil, ⟨by simp, by simp, by simp⟩, by simp [argsLs], rfl⟩
  | [], x :: xs, ob, ps, h, hob, hbx, hk, hl, ha => by cases h
  | (m, t) :: ts, [], ob, ps, h, hob, hbx, hk, hl, ha => by cases h
  | (m, t) :: ts, x :: xs, ob, ps, h, hob, hbx, hk, hl, ha => by
    simp only [resTs] at h
    split at h
    · rename_i o1 p o2 qs h1 h2
      cases h
      have lists : ∀ {us : List PTy} {ys : List SV} {o : Prop} {rs : List PV}, resLs A us ys = some (o, rs) → o → SV.oks β ys → dpAll A0 (slsOf ys) = true → LoD w us rs (SV.vals β ys) (fsOf ϕ ys) := by
        intro us ys o rs q1 q2 q3 q4
        refine resLs_own q1 q2 q3 fun h hh o T es p hA => ?_
        obtain ⟨T', es', p', e⟩ := dpB_iff.1 (dpAll_iff.1 q4 h hh)
        obtain ⟨hl0, e1, e2⟩ := hs.lk h _ e (by simp)
        rw [hA] at e1; cases e1
        obtain ⟨rfl, rfl, _⟩ := e2
        exact hp.sat _ _ e
      have arg : (∃ T, t = .list T) ∨ (∃ us, t = .agg us) → dpAll A0 (slsOf x.cells) = true → ArgM w t p (SV.val β x) ((slsOf x.cells).map ϕ).flatten := by
        rintro (⟨T, rfl⟩ | ⟨us, rfl⟩) hd
        · have h' : resL A (.list T) x = some (o1, p) := by cases x <;> simpa [resT, resB] using h1
          have hc : x.cells = [x] := by cases x <;> first | rfl | (simp [resL] at h')
          have := lists (us := [.list T]) (ys := [x]) (o := o1 ∧ True) (rs := [p]) (by simp [resLs, h']) ⟨hob.1, trivial⟩ ⟨hk.1, trivial⟩ (by rw [← hc]; exact hd)
          rw [hc, ← fsOf_flat]
          generalize fsOf ϕ [x] = fs at this
          cases this with
          | list hO hr => cases hr; exact ⟨_, rfl, by simpa using hO⟩
        · cases x with
          | agg ys =>
            simp only [resT, resB] at h1
            split at h1
            · rename_i o ps hps
              simp only [Option.some.injEq, Prod.mk.injEq] at h1
              obtain ⟨rfl, rfl⟩ := h1
              exact ⟨ps, _, _, rfl, rfl, lists hps hob.1 hk.1 hd, by rw [fsOf_flat]; rfl⟩
            · cases h1
          | _ => simp [resT, resB, resL] at h1
      have lents : ∀ {ys : List SV}, dpAll A0 (slsOf ys) = true → ∀ h ∈ slsOf ys, Lent A0 ϕ h := fun hd h hh => lent_dp hp (dpAll_iff.1 hd h hh)
      cases m with
      | rd =>
        obtain ⟨fs, fl, r1, r2, r3, r4⟩ := argsOwn hp hs h2 hob.2 hbx hk.2 (by cases t <;> exact hl) (alive_sub ha fun i hi => by simp [rdsHs, hi])
        obtain ⟨f1, l1, q1, q2⟩ := resT_sound (resT_same h1 hs (alive_sub ha fun i hi => by simp [rdsHs, hi])) hob.1 hp hbx hk.1
        exact ⟨_, _, .rd q1 r1, q2.app r2, r3, by simp only [argsLs, argLs, List.nil_append]; exact r4⟩
      | mt =>
        have ht : ((∃ T, t = .list T) ∨ ∃ us, t = .agg us) ∧ dpAll A0 (slsOf x.cells) = true ∧ lendOk A0 ts xs := by
          cases t <;> simp only [lendOk] at hl <;> first | exact ⟨.inl ⟨_, rfl⟩, hl.1, hl.2⟩ | exact ⟨.inr ⟨_, rfl⟩, hl.1, hl.2⟩
        obtain ⟨fs, fl, r1, r2, r3, r4⟩ := argsOwn hp hs h2 hob.2 hbx hk.2 ht.2.2 ha
        refine ⟨fs, fl, ?_, r2, ?_, by simp only [argsLs, argLs, r4]⟩
        · have := ArgsV.mt (arg ht.1 ht.2.1) r1
          simpa [argsLs, argLs, SV.vals] using this
        · intro h hh
          rcases List.mem_append.1 hh with hh | hh
          · exact lents ht.2.1 h hh
          · exact r3 h hh
      | ow =>
        have ht : ((∃ T, t = .list T) ∨ ∃ us, t = .agg us) ∧ dpAll A0 (slsOf x.cells) = true ∧ lendOk A0 ts xs := by
          cases t <;> simp only [lendOk] at hl <;> first | exact ⟨.inl ⟨_, rfl⟩, hl.1, hl.2⟩ | exact ⟨.inr ⟨_, rfl⟩, hl.1, hl.2⟩
        obtain ⟨fs, fl, r1, r2, r3, r4⟩ := argsOwn hp hs h2 hob.2 hbx hk.2 ht.2.2 ha
        refine ⟨fs, fl, ?_, r2, ?_, by simp only [argsLs, argLs, r4]⟩
        · have := ArgsV.ow (arg ht.1 ht.2.1) r1
          simpa [argsLs, argLs, SV.vals] using this
        · intro h hh
          rcases List.mem_append.1 hh with hh | hh
          · exact lents ht.2.1 h hh
          · exact r3 h hh
      | bx =>
        cases t with
        | box us =>
          cases x with
          | ptr i off =>
            simp only [lendOk] at hl
            obtain ⟨hl1, hl2⟩ := hl
            obtain ⟨fs, fl, r1, r2, r3, r4⟩ := argsOwn hp hs h2 hob.2 hbx hk.2 hl2 ha
            simp only [resT, resB] at h1
            split at h1
            · rename_i o t' cs hA
              have hA0 := hs.bx _ _ _ _ hA
              rw [hA0] at hl1
              split at h1
              · rename_i hc
                split at h1
                · rename_i o2 ps hps
                  simp only [Option.some.injEq, Prod.mk.injEq] at h1
                  obtain ⟨rfl, rfl⟩ := h1
                  have hown : o = true ∧ dpAll A0 (slsOf ((cs.drop off).take us.length)) = true := by
                    cases o <;> simp only at hl1 <;> first | exact ⟨rfl, hl1⟩ | exact hl1.elim
                  obtain ⟨rfl, hd⟩ := hown
                  obtain ⟨b, t2, hb, hϕ, hblk⟩ := hp.sat _ _ hA0
                  have hoks : SV.oks β ((cs.drop off).take us.length) := by
                    rw [SV.oks_iff]; intro y hy
                    exact SV.oks_iff.1 (hbx _ _ _ _ hA0) y (List.mem_of_mem_drop (List.mem_of_mem_take hy))
                  have hLo := lists hps hob.1 hoks hd
                  have hx : ArgX w (.box us) (.agg ps) (SV.val β (.ptr i off)) (b :: (fsOf ϕ ((cs.drop off).take us.length)).flatten) := by
                    refine ⟨ps, _, _, b, t2, (β i).pre ++ SV.vals β (cs.take off), SV.vals β (cs.drop (off + us.length)) ++ (β i).post, rfl, ?_, ?_, hLo, rfl⟩
                    · simp [SV.val, hb, SV.vals_map]; omega
                    · rw [hblk]; congr 2
                      rw [vals_split β cs off us.length]; simp [List.append_assoc]
                  refine ⟨fs, fl, ?_, r2, ?_, ?_⟩
                  · have := ArgsV.bx hx r1
                    simp only [argsLs, argLs, hA0, List.map_append, List.map_cons, List.flatten_append, List.flatten_cons, hϕ, ← fsOf_flat, List.cons_append, List.append_assoc, List.nil_append, SV.vals] at this ⊢
                    exact this
                  · intro h hh
                    simp only [argsLs, argLs, hA0, List.mem_append, List.mem_cons] at hh
                    rcases hh with (rfl | hh) | hh
                    · exact ⟨_, hA0, by simp, rfl, by rw [hϕ]; simp, rfl⟩
                    · exact lents hd h hh
                    · exact r3 h hh
                  · simp only [argsLs, argLs, hA, hA0, r4]
                · cases h1
              · cases h1
            · cases h1
          | _ => simp [lendOk] at hl
        | abx T =>
          cases x with
          | ptr i off =>
            cases off with
            | zero =>
              simp only [lendOk] at hl
              obtain ⟨hl1, hl2⟩ := hl
              obtain ⟨fs, fl, r1, r2, r3, r4⟩ := argsOwn hp hs h2 hob.2 hbx hk.2 hl2 ha
              simp only [resT, resB] at h1
              split at h1
              · rename_i ow T' es hA
                simp only [Option.some.injEq, Prod.mk.injEq] at h1
                obtain ⟨rfl, rfl⟩ := h1
                have := hob.1
                subst this
                have hA0 := hs.ab _ _ _ _ hA
                rw [hA0] at hl1
                have : ow = true := by cases ow <;> simp at hl1 ⊢
                subst this
                obtain ⟨g1, g2, b, t', c, hv, hϕ, hblk, hL⟩ := hp.sat _ _ hA0
                have hx : ArgX w (.abx T') (.list es) (SV.val β (.ptr i 0)) [b] := ⟨es, b, t', c, rfl, by simp [SV.val, hv], hblk, g1, g2, hL, rfl⟩
                refine ⟨fs, fl, ?_, r2, ?_, by simp only [argsLs, argLs, r4]⟩
                · have := ArgsV.bx hx r1
                  simp only [argsLs, argLs, List.map_append, List.map_cons, List.map_nil, List.flatten_append, List.flatten_cons, List.flatten_nil, List.append_nil, hϕ, SV.vals] at this ⊢
                  exact this
                · intro h hh
                  simp only [argsLs, argLs, List.mem_append, List.mem_singleton] at hh
                  rcases hh with rfl | hh
                  · exact ⟨_, hA0, by simp, rfl, by rw [hϕ]; simp, rfl⟩
                  · exact r3 h hh
              · cases h1
            | succ n => simp [lendOk] at hl
          | _ => simp [lendOk] at hl
        | _ => simp [lendOk] at hl
      | bs =>
        cases t with
        | box us =>
          cases x with
          | ptr i off =>
            simp only [lendOk] at hl
            obtain ⟨hl1, hl2⟩ := hl
            simp only [resT, resB] at h1
            split at h1
            · rename_i o t' cs hA
              have hA0 := hs.bx _ _ _ _ hA
              rw [hA0] at hl1
              split at h1
              · rename_i hc
                split at h1
                · rename_i o2 ps hps
                  simp only [Option.some.injEq, Prod.mk.injEq] at h1
                  obtain ⟨rfl, rfl⟩ := h1
                  have hown : o = true := by cases o <;> simp at hl1 ⊢
                  subst hown
                  have e1 : bsHs A0 (.box us) (.ptr i off) = slsOf ((cs.drop off).take us.length) := by simp only [bsHs, hA0]
                  have hps' := resLs_same hps hs (alive_sub ha fun j hj => by simp only [rdsHs, e1]; exact List.mem_append_left _ hj)
                  obtain ⟨fs, fl, r1, r2, r3, r4⟩ := argsOwn hp hs h2 hob.2 hbx hk.2 hl2 (alive_sub ha fun j hj => by simp [rdsHs, hj])
                  obtain ⟨b, t2, hb, hϕ, hblk⟩ := hp.sat _ _ hA0
                  have hoks : SV.oks β ((cs.drop off).take us.length) := by
                    rw [SV.oks_iff]; intro y hy
                    exact SV.oks_iff.1 (hbx _ _ _ _ hA0) y (List.mem_of_mem_drop (List.mem_of_mem_take hy))
                  obtain ⟨f, q4, q5⟩ := resLs_from hps' hob.1 hp hoks
                  have hx : ArgS w (.box us) (.agg ps) (SV.val β (.ptr i off)) f b := by
                    refine ⟨ps, _, t2, (β i).pre ++ SV.vals β (cs.take off), SV.vals β (cs.drop (off + us.length)) ++ (β i).post, rfl, ?_, ?_, q4⟩
                    · simp [SV.val, hb, SV.vals_map]; omega
                    · rw [hblk]; congr 2
                      rw [vals_split β cs off us.length]; simp [List.append_assoc]
                  refine ⟨f ++ fs, f ++ fl, ?_, ?_, ?_, ?_⟩
                  · have := ArgsV.bs hx r1
                    simp only [argsLs, argLs, List.map_append, List.map_cons, List.map_nil, List.flatten_append, List.flatten_cons, List.flatten_nil, List.append_nil, hϕ, SV.vals, List.cons_append, List.nil_append] at this ⊢
                    exact this
                  · simp only [rdsHs, e1]; exact q5.app r2
                  · intro h hh
                    simp only [argsLs, argLs, List.mem_append, List.mem_singleton] at hh
                    rcases hh with rfl | hh
                    · exact ⟨_, hA0, by simp, rfl, by rw [hϕ]; simp, rfl⟩
                    · exact r3 h hh
                  · simp only [argsLs, argLs, r4]
                · cases h1
              · cases h1
            · cases h1
          | _ => simp [lendOk] at hl
        | _ => simp [lendOk] at hl
    · cases h
end
end Go.Proofs.YtkofjkjcbljkdaaGreatDoor
end

section
namespace Go.Proofs.YtkofjkjcbljkdaaGreatDoor
variable [LaidG]
set_option linter.unusedVariables false
section
variable {P : Program} {E : Env} {N : Nat} {w0 : World} {X F : List Nat} {S : St} {β : Nat → GV} {ϕ : Nat → List Nat} {a : Act} {w w' : World} {o : Oper} {R : RR} {A A0 A' : Hp} {B : Nat}
theorem put_own {n h : Nat} {T : PTy} {es : List PV} {f G : List Nat} (hp : Holds B X F A β ϕ w) (hb : Bd n β A) (hh : h < n) (hd : ∀ hl, lk A h = some hl → hl = .dead) (ho : OwnD w (β h).v T es f) (hn : (f ++ G).Nodup) (hw : ∀ b ∈ f, (b ∈ X ∨ B ≤ b) ∧ (b ∈ F ∨ B ≤ b)) (ha : Apart A ϕ (f ++ G)) :
    Holds B X F (set1 A h (.arr .dp T es .no)) β (upd ϕ h f) w ∧ Bd n β (set1 A h (.arr .dp T es .no)) ∧ Apart (set1 A h (.arr .dp T es .no)) (upd ϕ h f) G := by
  obtain ⟨hn1, hn2, hn3⟩ := List.nodup_append.1 hn
  refine ⟨hp.put (fun j => lk_set1' _ _ _) hd ho (fun b hb' => (hw b hb').1) (fun _ b hb' => (hw b hb').2) hn1 ?_ ?_ trivial (fun _ _ _ e => by cases e) (by simp [roots]), bd_put hb (fun j => lk_set1' _ _ _) hh trivial, ?_⟩
  · exact ha.mono fun b hb' => by simp only [owned] at hb'; simp [hb']
  · intro i hl hi _ b hb' hm
    by_cases hdd : hl = .dead
    · subst hdd; simp [owned] at hb'
    · exact ha i hl hi hdd b (owned_sub b hb') (by simp [hm])
  · exact apart_put (ha.mono fun b hb' => by simp [hb']) (fun i => lk_set1' _ _ _) fun b hb' hm => hn3 b hb' b hm rfl
theorem backL_sound {Ar : Hp} {n : Nat} : ∀ {ts : List PTy} {xs : List SV} {qs : List PV} {vs : List Value} {fs : List (List Nat)} {r : Prop × List PV} {A : Hp} {ϕ : Nat → List Nat} {G : List Nat}, LoP (OwnD w) ts qs vs fs → SV.vals β xs = vs → resLs Ar ts xs = some r → Holds B X F A β ϕ w → Bd n β A →
    (∀ h ∈ slsOf xs, h < n ∧ ∀ hl, lk A h = some hl → hl = .dead) → (slsOf xs).Nodup → (fs.flatten ++ G).Nodup → (∀ b ∈ fs.flatten, (b ∈ X ∨ B ≤ b) ∧ (b ∈ F ∨ B ≤ b)) → Apart A ϕ (fs.flatten ++ G) →
    ∃ ϕ', Holds B X F (backL A ts xs qs) β ϕ' w ∧ Bd n β (backL A ts xs qs) ∧ Apart (backL A ts xs qs) ϕ' G ∧ (∀ j, j ∉ slsOf xs → lk (backL A ts xs qs) j = lk A j) ∧ (∀ j hl, lk (backL A ts xs qs) j = some hl → lk A j = some hl ∨ roots hl = []) := by
  intro ts xs qs vs fs r A ϕ G hL
  induction hL generalizing xs r A ϕ G with
  | nil =>
    intro hv hr hp hb hh hnd hn hw ha
    cases xs with
    | nil => exact ⟨ϕ, hp, hb, ha.mono (by simp), fun _ _ => rfl, fun j hl h => .inl h⟩
    | cons x xs => simp [resLs] at hr
  | @int k m Ts ps vs fs h1 _ ih =>
    intro hv hr hp hb hh hnd hn hw ha
    cases xs with
    | nil => simp [resLs] at hr
    | cons x xs =>
      simp only [resLs] at hr
      split at hr
      · rename_i o p o' ps' q1 q2
        simp only [SV.vals, List.cons.injEq] at hv
        cases x <;> simp only [resL, reduceCtorEq] at q1
        simp only [backL, slsOf] at *
        exact ih hv.2 q2 hp hb hh hnd (by simpa using hn) (by simpa using hw) (by simpa using ha)
      · cases hr
  | @bool k Ts ps vs fs _ ih =>
    intro hv hr hp hb hh hnd hn hw ha
    cases xs with
    | nil => simp [resLs] at hr
    | cons x xs =>
      simp only [resLs] at hr
      split at hr
      · rename_i o p o' ps' q1 q2
        simp only [SV.vals, List.cons.injEq] at hv
        cases x <;> simp only [resL, reduceCtorEq] at q1
        simp only [backL, slsOf] at *
        exact ih hv.2 q2 hp hb hh hnd (by simpa using hn) (by simpa using hw) (by simpa using ha)
      · cases hr
  | @str k Ts ps vs fs h1 _ ih =>
    intro hv hr hp hb hh hnd hn hw ha
    cases xs with
    | nil => simp [resLs] at hr
    | cons x xs =>
      simp only [resLs] at hr
      split at hr
      · rename_i o p o' ps' q1 q2
        simp only [SV.vals, List.cons.injEq] at hv
        cases x <;> simp only [resL, reduceCtorEq] at q1
        simp only [backL, slsOf] at *
        exact ih hv.2 q2 hp hb hh hnd (by simpa using hn) (by simpa using hw) (by simpa using ha)
      · cases hr
  | @list T es v f Ts ps vs fs h1 _ ih =>
    intro hv hr hp hb hh hnd hn hw ha
    cases xs with
    | nil => simp [resLs] at hr
    | cons x xs =>
      simp only [resLs] at hr
      split at hr
      · rename_i o p o' ps' q1 q2
        simp only [SV.vals, List.cons.injEq] at hv
        simp only [List.flatten_cons, List.append_assoc] at hn hw ha
        cases x <;> simp only [resL, reduceCtorEq] at q1
        case sl h =>
          obtain ⟨hv1, hv2⟩ := hv
          simp only [SV.val] at hv1
          subst hv1
          simp only [slsOf, List.mem_cons, forall_eq_or_imp, List.nodup_cons] at hh hnd
          obtain ⟨⟨hh1, hh2⟩, hh3⟩ := hh
          obtain ⟨hnd1, hnd2⟩ := hnd
          obtain ⟨c1, c2, c3⟩ := put_own hp hb hh1 hh2 h1 hn (fun b hb' => hw b (by simp [hb'])) ha
          obtain ⟨ϕ', a1, a2, a3, a4, a5⟩ := ih hv2 q2 c1 c2 (fun h' hh' => ⟨(hh3 h' hh').1, fun hl hl' => by
            rw [lk_set1', if_neg (fun e : h' = h => hnd1 (e ▸ hh'))] at hl'
            exact (hh3 h' hh').2 hl hl'⟩) hnd2 (List.nodup_append.1 hn).2.1 (fun b hb' => hw b (List.mem_append_right _ hb')) c3
          simp only [backL, PV.L]
          refine ⟨ϕ', a1, a2, a3, ?_, ?_⟩
          · intro j hj
            simp only [slsOf, List.mem_cons, not_or] at hj
            rw [a4 j hj.2, lk_set1', if_neg hj.1]
          · intro j hl hj
            rcases a5 j hl hj with h5 | h5
            · rw [lk_set1'] at h5
              split at h5
              · cases h5; exact .inr rfl
              · exact .inl h5
            · exact .inr h5
        case nils =>
          obtain ⟨hv1, hv2⟩ := hv
          simp only [SV.val] at hv1
          subst hv1
          have hf : f = [] := by
            rcases h1 with ⟨_, h, _⟩ | ⟨b, f1, cs, _, ⟨⟨o, cap, c, t, fr, h, _⟩, _⟩, _⟩
            · exact h
            · cases h
          subst hf
          simp only [backL, slsOf] at *
          exact ih hv2 q2 hp hb hh hnd (by simpa using hn) (by simpa using hw) (by simpa using ha)
      · cases hr
theorem mt_leaves {t : PTy} {p : PV} {v : Value} {f : List Nat} {x : SV} {r : Prop × PV} {Ar : Hp} (h : ArgM w t p v f) (hv : SV.val β x = v) (hr : resT Ar t x = some r) : ∃ fs r', LoP (OwnD w) t.leaves p.leaves (SV.vals β x.cells) fs ∧ f = fs.flatten ∧ resLs Ar t.leaves x.cells = some r' := by
  cases t with
  | agg ts =>
    obtain ⟨qs, cs, fs, rfl, rfl, hL, rfl⟩ := h
    cases x with
    | agg xs =>
      simp only [resT, resB] at hr
      split at hr
      · rename_i o ps hps
        simp only [SV.val, Value.agg.injEq] at hv
        have hv := List.toArray_inj hv
        subst hv
        exact ⟨fs, _, hL, rfl, hps⟩
      · cases hr
    | _ => simp [resT, resB, resL] at hr
  | list T =>
    obtain ⟨es, rfl, hO⟩ := h
    have h' : resL Ar (.list T) x = some r := by cases x <;> simpa [resT, resB] using hr
    have hc : x.cells = [x] := by cases x <;> first | rfl | (simp [resL] at h')
    refine ⟨[f], (r.1 ∧ True, [r.2]), ?_, by simp, ?_⟩
    · rw [hc]; simp only [SV.vals, hv]; exact .list hO .nil
    · rw [hc]; simp [PTy.leaves, resLs, h']
  | _ => exact h.elim
theorem introL_lk : ∀ (ts : List PTy) (ps : List PV) (j n : Nat) (A : Hp) (i : Nat), lk ((introL .dp noP j n ts ps).2.1 ++ A) i = lk A i ∨ (n ≤ i ∧ ∃ T es, lk ((introL .dp noP j n ts ps).2.1 ++ A) i = some (.arr .dp T es .no))
  | [], ps, j, n, A, i => .inl (by simp [introL])
  | t :: ts, [], j, n, A, i => .inl (by cases t <;> simp [introL])
  | t :: ts, p :: ps, j, n, A, i => by
    cases t with
    | list T =>
      have e : (introL .dp noP j n (.list T :: ts) (p :: ps)).2.1 ++ A = (introL .dp noP (j + 1) (n + 1) ts ps).2.1 ++ ((n, .arr .dp T p.L .no) :: A) := by simp [introL, noP, List.append_assoc]
      rw [e]
      rcases introL_lk ts ps (j + 1) (n + 1) ((n, .arr .dp T p.L .no) :: A) i with h | ⟨h, h'⟩
      · rw [h, lk_cons']
        split
        · rename_i e; exact .inr ⟨by omega, _, _, rfl⟩
        · exact .inl rfl
      · exact .inr ⟨by omega, h'⟩
    | _ => exact introL_lk ts ps (j + 1) n A i
theorem cut3 {α : Type} {pre m post l v r : List α} {off k : Nat} (h : pre ++ m ++ post = l ++ v ++ r) (hp : pre.length = l.length + off) (hm : m.length = k) (hk : off + k ≤ v.length) : pre = l ++ v.take off ∧ post = v.drop (off + k) ++ r := by
  constructor
  · have h1 := congrArg (List.take pre.length) h
    rw [List.append_assoc, List.take_left, hp, List.append_assoc, List.take_append, List.take_of_length_le (by omega), Nat.add_sub_cancel_left, List.take_append_of_le_length (by omega)] at h1
    exact h1
  · have h1 := congrArg (List.drop (pre.length + m.length)) h
    rw [← List.length_append, List.drop_left, List.length_append, hp, hm, Nat.add_assoc, List.append_assoc, ← List.drop_drop, List.drop_left, List.drop_append_of_le_length (by omega)] at h1
    exact h1
theorem owned_isA {f : List Nat} {hl : HL} {b : Nat} (h : b ∈ owned f hl) : isA hl := by
  cases hl with
  | box o t cs => cases o <;> first | trivial | (simp [owned] at h)
  | abx o t cs => cases o <;> first | trivial | (simp [owned] at h)
  | arr o T es p => trivial
  | bld T e l => trivial
  | dead => simp [owned] at h
theorem keepS_vals {β0 β : Nat → GV} {n0 : Nat} (hβ : ∀ k, k < n0 → β k = β0 k) : ∀ {l : List PTy} {xs : List SV} {qs : List PV} {cs cs' : List Value}, KpS l qs cs cs' → SV.vals β0 xs = cs → SV.lts n0 xs → SV.oks β0 xs → SV.vals β (keepS l xs qs) = cs' ∧ SV.lts n0 (keepS l xs qs) ∧ SV.oks β (keepS l xs qs) := by
  intro l xs qs cs cs' h
  induction h generalizing xs with
  | nil => intro _ _ _; cases xs <;> exact ⟨rfl, trivial, trivial⟩
  | int h1 _ ih =>
    intro hv hlt hok
    cases xs with
    | nil => simp [SV.vals] at hv
    | cons x xs =>
      simp only [SV.vals, List.cons.injEq] at hv
      obtain ⟨a1, a2, a3⟩ := ih hv.2 hlt.2 hok.2
      exact ⟨by simp only [keepS, SV.vals, SV.val, PV.I, a1], ⟨trivial, a2⟩, ⟨h1, a3⟩⟩
  | bool _ ih =>
    intro hv hlt hok
    cases xs with
    | nil => simp [SV.vals] at hv
    | cons x xs =>
      simp only [SV.vals, List.cons.injEq] at hv
      obtain ⟨a1, a2, a3⟩ := ih hv.2 hlt.2 hok.2
      exact ⟨by simp only [keepS, SV.vals, SV.val, PV.B, a1], ⟨trivial, a2⟩, ⟨trivial, a3⟩⟩
  | str h1 _ ih =>
    intro hv hlt hok
    cases xs with
    | nil => simp [SV.vals] at hv
    | cons x xs =>
      simp only [SV.vals, List.cons.injEq] at hv
      obtain ⟨a1, a2, a3⟩ := ih hv.2 hlt.2 hok.2
      exact ⟨by simp only [keepS, SV.vals, SV.val, PV.S, a1], ⟨trivial, a2⟩, ⟨h1, a3⟩⟩
  | list _ ih =>
    intro hv hlt hok
    cases xs with
    | nil => simp [SV.vals] at hv
    | cons x xs =>
      simp only [SV.vals, List.cons.injEq] at hv
      obtain ⟨a1, a2, a3⟩ := ih hv.2 hlt.2 hok.2
      exact ⟨by simp only [keepS, SV.vals, a1, SV.val_congr hβ x hlt.1, hv.1], ⟨hlt.1, a2⟩, ⟨SV.ok_congr hβ x hlt.1 hok.1, a3⟩⟩
theorem cut3m {α : Type} {pre m post l v r : List α} {off k : Nat} (h : pre ++ m ++ post = l ++ v ++ r) (hp : pre.length = l.length + off) (hm : m.length = k) (hk : off + k ≤ v.length) : m = (v.drop off).take k := by
  obtain ⟨h1, h2⟩ := cut3 h hp hm hk
  have h3 : v = v.take off ++ ((v.drop off).take k ++ v.drop (off + k)) := by
    rw [← List.drop_drop, List.take_append_drop, List.take_append_drop]
  rw [h1, h2] at h
  have h4 : l ++ (v.take off ++ (m ++ (v.drop (off + k) ++ r))) = l ++ (v.take off ++ ((v.drop off).take k ++ (v.drop (off + k) ++ r))) := by
    have : l ++ v ++ r = l ++ (v.take off ++ ((v.drop off).take k ++ (v.drop (off + k) ++ r))) := by
      conv => lhs; rw [h3]
      simp [List.append_assoc]
    rw [← this, ← h]; simp [List.append_assoc]
  have h5 := List.append_cancel_left (List.append_cancel_left h4)
  exact List.append_cancel_right h5
theorem backs_sound {Ar : Hp} {n0 : Nat} {β0 : Nat → GV} {ϕ0 : Nat → List Nat} (hp0 : Holds B X F A0 β0 ϕ0 w) (hb0 : Bd n0 β0 A0) (hsm : Same Ar A0) : ∀ {ts : List (Md × PTy)} {xs : List SV} {r : Prop × List PV} {outs : List PV} {mo G : List Nat} {A : Hp} {β : Nat → GV} {ϕ : Nat → List Nat} {n : Nat},
    OutV w w' ts outs (SV.vals β0 xs) mo → resTs Ar ts xs = some r → lendOk A0 ts xs → Holds B X F A β ϕ w' → Bd n β A → (∀ k, k < n0 → β k = β0 k) → n0 ≤ n → SV.lts n0 xs →
    (∀ h ∈ argsLs A0 ts xs, h < n0 ∧ ∀ hl, lk A h = some hl → hl = .dead) → (argsLs A0 ts xs).Nodup → (∀ i hl, lk A i = some hl → ∀ r ∈ roots hl, r ∉ argsLs A0 ts xs) → (mo ++ G).Nodup → (∀ b ∈ mo, (b ∈ X ∨ B ≤ b) ∧ (b ∈ F ∨ B ≤ b)) → Apart A ϕ (mo ++ G) →
    ∃ β' ϕ', Holds B X F (backs A0 A n ts xs outs).1 β' ϕ' w' ∧ Bd (backs A0 A n ts xs outs).2 β' (backs A0 A n ts xs outs).1 ∧ (∀ k, k < n → β' k = β k) ∧ n ≤ (backs A0 A n ts xs outs).2 ∧ Apart (backs A0 A n ts xs outs).1 ϕ' G
  | [], xs, r, outs, mo, G, A, β, ϕ, n, ho, hr, hl, hp, hb, hβ, hn0, hlt, hd, hnd, hro, hmn, hmw, hma => by
    have hx : xs = [] := by cases xs <;> first | rfl | (simp [resTs] at hr)
    subst hx
    cases ho
    exact ⟨β, ϕ, hp, hb, fun _ _ => rfl, Nat.le_refl _, hma.mono (by simp)⟩
  | (m, t) :: ts, [], r, outs, mo, G, A, β, ϕ, n, ho, hr, hl, hp, hb, hβ, hn0, hlt, hd, hnd, hro, hmn, hmw, hma => by simp [resTs] at hr
  | (m, t) :: ts, x :: xs, r, outs, mo, G, A, β, ϕ, n, ho, hr, hl, hp, hb, hβ, hn0, hlt, hd, hnd, hro, hmn, hmw, hma => by
    simp only [resTs] at hr
    split at hr
    · rename_i o1 p1 o2 qs1 h1 h2
      simp only [argsLs] at hd hnd hro
      obtain ⟨hnd1, hnd2, hnd3⟩ := List.nodup_append.1 hnd
      have hval : SV.val β x = SV.val β0 x := SV.val_congr hβ x hlt.1
      cases m with
      | rd =>
        simp only [SV.vals] at ho
        cases ho with
        | rd ho =>
          simp only [backs]
          exact backs_sound hp0 hb0 hsm ho h2 (by cases t <;> exact hl) hp hb hβ hn0 hlt.2 (fun h hh => hd h (by simp [hh])) hnd2 (fun i hl hi r hr hm => hro i hl hi r hr (by simp [hm])) hmn hmw hma
      | ow =>
        simp only [SV.vals] at ho
        cases ho with
        | ow ho =>
          simp only [backs]
          exact backs_sound hp0 hb0 hsm ho h2 (by cases t <;> first | exact hl.2 | exact hl.elim) hp hb hβ hn0 hlt.2 (fun h hh => hd h (by simp [hh])) hnd2 (fun i hl hi r hr hm => hro i hl hi r hr (by simp [hm])) hmn hmw hma
      | mt =>
        simp only [SV.vals] at ho
        cases ho with
        | @mt _ _ p ps _ _ f ms hA ho =>
          simp only [List.append_assoc] at hmn hma
          obtain ⟨fs, r', g1, rfl, g2⟩ := mt_leaves hA (by exact hval) h1
          simp only [argLs] at hd hnd1 hnd3 hro
          obtain ⟨ϕ1, a1, a2, a3, a4, a5⟩ := backL_sound g1 rfl g2 hp hb (fun h hh => ⟨by have := (hd h (by simp [hh])).1; omega, (hd h (by simp [hh])).2⟩) hnd1 hmn (fun b hb' => hmw b (by simp only [List.mem_append]; exact .inl hb')) hma
          simp only [backs]
          exact backs_sound hp0 hb0 hsm ho h2 (by cases t <;> first | exact hl.2 | exact hl.elim) a1 a2 hβ hn0 hlt.2 (fun h hh => ⟨(hd h (by simp [hh])).1, fun hl' hl2 => by
              rw [a4 h (fun hm => hnd3 h hm h hh rfl)] at hl2
              exact (hd h (by simp [hh])).2 hl' hl2⟩) hnd2
            (fun i hl' hi r hr hm => by
              rcases a5 i hl' hi with h5 | h5
              · exact hro i hl' h5 r hr (by simp [hm])
              · rw [h5] at hr; cases hr) (List.nodup_append.1 hmn).2.1 (fun b hb' => hmw b (by simp only [List.mem_append]; exact .inr hb')) a3
      | bx =>
        simp only [SV.vals] at ho
        cases ho with
        | @bx _ _ p ps _ _ f ms hX ho =>
          cases t with
          | box l =>
            cases x with
            | ptr h off =>
              simp only [lendOk] at hl
              obtain ⟨hl1, hl2⟩ := hl
              simp only [resT, resB] at h1
              split at h1
              case h_2 => cases h1
              rename_i ow tt cs hAr
              have hA0 := hsm.bx _ _ _ _ hAr
              rw [hA0] at hl1
              have : ow = true := by cases ow <;> first | rfl | exact hl1.elim
              subst this
              split at h1
              case isFalse => cases h1
              rename_i hle
              obtain ⟨qs, cs1, cs', fs, b, t1, t', pre, post, rfl, hv, hw0, hcl, hw1, hLo, rfl⟩ := hX
              obtain ⟨b', t2, hb', hϕ', hblk⟩ := hp0.sat _ _ hA0
              have hvv : b' = b ∧ (β0 h).pre.length + off = pre.length := by
                simp only [SV.val, hb', Value.pointer.injEq, Option.some.injEq, Addr.mk.injEq] at hv
                exact ⟨hv.1, hv.2.1⟩
              obtain ⟨rfl, hpl⟩ := hvv
              rw [hw0] at hblk
              simp only [Option.some.injEq, Obj.cells.injEq] at hblk
              obtain ⟨k1, k2⟩ := cut3 (List.toArray_inj hblk.1) hpl.symm hcl (by rw [SV.vals_map, List.length_map]; exact hle)
              have hcs := hb0 _ _ hA0
              simp only [List.cons_append, List.append_assoc, List.nodup_cons, List.mem_append, not_or] at hmn
              obtain ⟨⟨n1, n2, n3⟩, n4⟩ := hmn
              have hn' : (fs.flatten ++ (b' :: (ms ++ G))).Nodup := by
                obtain ⟨m1, m2, m3⟩ := List.nodup_append.1 n4
                refine List.nodup_append.2 ⟨m1, List.nodup_cons.2 ⟨by simp [n2, n3], m2⟩, ?_⟩
                intro c hc c' hc' e
                rcases List.mem_cons.1 hc' with rfl | hc'
                · subst e; exact n1 hc
                · exact m3 c hc c' hc' e
              obtain ⟨β1, ϕ1, a1, a2, a3, a4, a5, a6, a7, a8, a9⟩ := introL_own noP (fun _ => rfl) l qs cs' fs (b' :: (ms ++ G)) 0 n A β ϕ hLo hp hb hn' (fun c hc => hmw c (by simp [hc])) (hma.mono fun c hc => by simp only [List.mem_append, List.mem_cons] at hc ⊢; rcases hc with h | h | h | h <;> simp [h])
              have hh := hd h (by simp [argLs])
              have hlow : ∀ k, k < n → lk ((introL .dp noP 0 n l qs).2.1 ++ A) k = lk A k := fun k hk => by
                rcases introL_lk l qs 0 n A k with e | ⟨e, _⟩
                · exact e
                · omega
              have hnh : ∀ h' ∈ argsLs A0 ts xs, h' ≠ h := fun h' hh' e => hnd3 h (by simp [argLs]) h' hh' e.symm
              have hβ1 : ∀ k, k < n0 → β1 k = β0 k := fun k hk => (a3 k (by omega)).trans (hβ k hk)
              have hval2 : SV.vals β1 (cs.take off ++ (introL .dp noP 0 n l qs).1 ++ cs.drop (off + l.length)) = SV.vals β0 (cs.take off) ++ cs' ++ SV.vals β0 (cs.drop (off + l.length)) := by
                simp only [SV.vals_map, List.map_append] at a5 ⊢
                rw [a5]
                congr 1
                · congr 1
                  exact List.map_congr_left fun y hy => SV.val_congr hβ1 y (SV.lts_iff.1 hcs.2.1 y (List.mem_of_mem_take hy))
                · exact List.map_congr_left fun y hy => SV.val_congr hβ1 y (SV.lts_iff.1 hcs.2.1 y (List.mem_of_mem_drop hy))
              have hroot : ∀ i hl, lk ((introL .dp noP 0 n l qs).2.1 ++ A) i = some hl → ∀ r ∈ roots hl, r ≠ h ∧ r ∉ argsLs A0 ts xs := by
                intro i hl hi r hr
                rcases introL_lk l qs 0 n A i with e | ⟨_, T, es, e⟩
                · rw [e] at hi
                  have := hro i hl hi r hr
                  simp only [argLs, List.mem_append, not_or] at this
                  exact ⟨fun e => this.1 (by simp [e]), this.2⟩
                · rw [e] at hi; cases hi; simp [roots] at hr
              have hput := a1.put (A' := set1 ((introL .dp noP 0 n l qs).2.1 ++ A) h (.box true tt (cs.take off ++ (introL .dp noP 0 n l qs).1 ++ cs.drop (off + l.length)))) (n := h) (hl0 := .box true tt (cs.take off ++ (introL .dp noP 0 n l qs).1 ++ cs.drop (off + l.length))) (f := [b']) (fun j => lk_set1' _ _ _)
                (fun hl' hi => by rw [hlow h (by omega)] at hi; exact hh.2 hl' hi)
                ⟨b', t', by rw [hβ1 h hh.1]; exact hb', rfl, by rw [hβ1 h hh.1, hw1, hval2, k1, k2, SV.vals_map, SV.vals_map, SV.vals_map, List.map_take, List.map_drop]; simp [List.append_assoc]⟩
                (fun c hc => by simp only [owned, List.mem_singleton] at hc; subst hc; exact (hmw c (by simp)).1) (fun _ c hc => by simp only [List.mem_singleton] at hc; subst hc; exact (hmw c (by simp)).2) trivial
                (a9.mono fun c hc => by simp only [owned, List.mem_singleton] at hc; simp [hc])
                (fun i hl' hi _ c hc hm => by
                  simp only [List.mem_singleton] at hm
                  subst hm
                  by_cases hdd : hl' = .dead
                  · subst hdd; simp [owned] at hc
                  · exact a9 i hl' hi hdd c (owned_sub c hc) (by simp)) trivial
                (fun _ _ _ _ i hl' hi hm => (hroot i hl' hi h hm).1 rfl) (by simp [roots])
              have hbd := bd_put (A' := set1 ((introL .dp noP 0 n l qs).2.1 ++ A) h (.box true tt (cs.take off ++ (introL .dp noP 0 n l qs).1 ++ cs.drop (off + l.length)))) a2 (fun j => lk_set1' _ _ _) (show h < _ by omega)
                (show SV.lts _ _ ∧ SV.oks _ _ by
                  rw [SV.lts_iff, SV.oks_iff]
                  constructor
                  · intro y hy
                    simp only [List.mem_append] at hy
                    rcases hy with (hy | hy) | hy
                    · exact SV.lt_mono (show n0 ≤ _ by omega) y (SV.lts_iff.1 hcs.2.1 y (List.mem_of_mem_take hy))
                    · exact SV.lts_iff.1 a6 y hy
                    · exact SV.lt_mono (show n0 ≤ _ by omega) y (SV.lts_iff.1 hcs.2.1 y (List.mem_of_mem_drop hy))
                  · intro y hy
                    simp only [List.mem_append] at hy
                    rcases hy with (hy | hy) | hy
                    · exact SV.ok_congr hβ1 y (SV.lts_iff.1 hcs.2.1 y (List.mem_of_mem_take hy)) (SV.oks_iff.1 hcs.2.2 y (List.mem_of_mem_take hy))
                    · exact SV.oks_iff.1 a7 y hy
                    · exact SV.ok_congr hβ1 y (SV.lts_iff.1 hcs.2.1 y (List.mem_of_mem_drop hy)) (SV.oks_iff.1 hcs.2.2 y (List.mem_of_mem_drop hy)))
              have hap := apart_put (hl0 := .box true tt (cs.take off ++ (introL .dp noP 0 n l qs).1 ++ cs.drop (off + l.length))) (n := h) (f := [b']) (G := ms ++ G) (a9.mono fun c hc => by simp [hc]) (fun j => lk_set1' _ _ _) (fun c hc hm => by
                simp only [List.mem_singleton] at hc
                subst hc
                simp only [List.mem_append] at hm
                exact hm.elim n2 n3)
              simp only [backs, hA0, PV.A]
              obtain ⟨β', ϕ', r1, r2, r3, r4, r5⟩ := backs_sound hp0 hb0 hsm ho h2 hl2 hput hbd hβ1 (by omega) hlt.2
                (fun h' hh' => ⟨(hd h' (by simp [hh'])).1, fun hl' hi => by
                  have h9 := (hd h' (by simp [hh'])).1
                  rw [lk_set1', if_neg (hnh h' hh'), hlow h' (by omega)] at hi
                  exact (hd h' (by simp [hh'])).2 hl' hi⟩) hnd2
                (fun i hl' hi r hr => by
                  rw [lk_set1'] at hi
                  split at hi
                  · cases hi; simp [roots] at hr
                  · exact (hroot i hl' hi r hr).2) (List.nodup_append.1 n4).2.1 (fun c hc => hmw c (by simp [hc])) hap
              exact ⟨β', ϕ', r1, r2, fun k hk => (r3 k (by omega)).trans (a3 k hk), by omega, r5⟩
            | _ => simp [lendOk] at hl
          | abx T =>
            cases x with
            | ptr h off =>
              cases off with
              | zero =>
                simp only [lendOk] at hl
                obtain ⟨hl1, hl2⟩ := hl
                simp only [resT, resB] at h1
                split at h1
                case h_2 => cases h1
                rename_i ow T' es0 hAr
                have hA0 := hsm.ab _ _ _ _ hAr
                obtain ⟨es, b, t', c, rfl, hv, hw1, g1, g2, g3, rfl⟩ := hX
                obtain ⟨_, _, b', t2, c', hb', hϕ', hblk, _⟩ := hp0.sat _ _ hA0
                have hvv : b' = b := by
                  simp only [SV.val, hb', Value.pointer.injEq, Option.some.injEq, Addr.mk.injEq] at hv
                  exact hv.1
                subst hvv
                have hh := hd h (by simp [argLs])
                have hnh : ∀ h' ∈ argsLs A0 ts xs, h' ≠ h := fun h' hh' e => hnd3 h (by simp [argLs]) h' hh' e.symm
                simp only [List.cons_append, List.nil_append, List.nodup_cons, List.mem_append, not_or] at hmn
                obtain ⟨⟨n2, n3⟩, n4⟩ := hmn
                have hput := hp.put (A' := set1 A h (.abx true T es)) (n := h) (hl0 := .abx true T es) (f := [b']) (fun j => lk_set1' _ _ _) hh.2
                  ⟨g1, g2, b', t', c, by rw [hβ h hh.1]; exact hb', rfl, hw1, g3⟩
                  (fun c hc => by simp only [owned, List.mem_singleton] at hc; subst hc; exact (hmw c (by simp)).1) (fun _ c hc => by simp only [List.mem_singleton] at hc; subst hc; exact (hmw c (by simp)).2) trivial
                  (hma.mono fun c hc => by simp only [owned, List.mem_singleton] at hc; simp [hc])
                  (fun i hl' hi _ c hc hm => by
                    simp only [List.mem_singleton] at hm
                    subst hm
                    by_cases hdd : hl' = .dead
                    · subst hdd; simp [owned] at hc
                    · exact hma i hl' hi hdd c (owned_sub c hc) (by simp)) trivial
                  (fun _ _ _ e => by cases e) (by simp [roots])
                have hbd := bd_put (A' := set1 A h (.abx true T es)) hb (fun j => lk_set1' _ _ _) (show h < n by omega) trivial
                have hap := apart_put (hl0 := .abx true T es) (n := h) (f := [b']) (G := ms ++ G) (hma.mono fun c hc => by rcases List.mem_append.1 hc with h | h <;> simp [h]) (fun j => lk_set1' _ _ _) (fun c hc hm => by
                  simp only [List.mem_singleton] at hc
                  subst hc
                  simp only [List.mem_append] at hm
                  exact hm.elim n2 n3)
                simp only [backs, PV.L]
                exact backs_sound hp0 hb0 hsm ho h2 hl2 hput hbd hβ hn0 hlt.2
                  (fun h' hh' => ⟨(hd h' (by simp [hh'])).1, fun hl' hi => by
                    rw [lk_set1', if_neg (hnh h' hh')] at hi
                    exact (hd h' (by simp [hh'])).2 hl' hi⟩) hnd2
                  (fun i hl' hi r hr => by
                    rw [lk_set1'] at hi
                    split at hi
                    · cases hi; simp [roots] at hr
                    · have := hro i hl' hi r hr
                      simp only [List.mem_append, not_or] at this
                      exact this.2) n4 (fun c hc => hmw c (by simp [hc])) hap
              | succ m => simp [lendOk] at hl
            | _ => simp [lendOk] at hl
          | _ => exact hX.elim
      | bs =>
        simp only [SV.vals] at ho
        cases ho with
        | @bs _ _ p ps _ _ b ms hX ho =>
          cases t with
          | box l =>
            cases x with
            | ptr h off =>
              simp only [lendOk] at hl
              obtain ⟨hl1, hl2⟩ := hl
              simp only [resT, resB] at h1
              split at h1
              case h_2 => cases h1
              rename_i ow tt cs hAr
              have hA0 := hsm.bx _ _ _ _ hAr
              rw [hA0] at hl1
              have : ow = true := by cases ow <;> first | rfl | exact hl1.elim
              subst this
              split at h1
              case isFalse => cases h1
              rename_i hle
              obtain ⟨qs, cs1, cs', t1, t', pre, post, rfl, hv, hw0, hcl, hw1, hKp⟩ := hX
              obtain ⟨b', t2, hb', hϕ', hblk⟩ := hp0.sat _ _ hA0
              have hvv : b' = b ∧ (β0 h).pre.length + off = pre.length := by
                simp only [SV.val, hb', Value.pointer.injEq, Option.some.injEq, Addr.mk.injEq] at hv
                exact ⟨hv.1, hv.2.1⟩
              obtain ⟨rfl, hpl⟩ := hvv
              rw [hw0] at hblk
              simp only [Option.some.injEq, Obj.cells.injEq] at hblk
              have hcut := List.toArray_inj hblk.1
              obtain ⟨k1, k2⟩ := cut3 hcut hpl.symm hcl (by rw [SV.vals_map, List.length_map]; exact hle)
              have k3 := cut3m hcut hpl.symm hcl (by rw [SV.vals_map, List.length_map]; exact hle)
              have hcs := hb0 _ _ hA0
              simp only [List.cons_append, List.nodup_cons, List.mem_append, not_or] at hmn
              obtain ⟨⟨n2, n3⟩, n4⟩ := hmn
              have hh := hd h (by simp [argLs])
              have hnh : ∀ h' ∈ argsLs A0 ts xs, h' ≠ h := fun h' hh' e => hnd3 h (by simp [argLs]) h' hh' e.symm
              have hmidl : SV.lts n0 ((cs.drop off).take l.length) := by
                rw [SV.lts_iff]; intro y hy; exact SV.lts_iff.1 hcs.2.1 y (List.mem_of_mem_drop (List.mem_of_mem_take hy))
              have hmido : SV.oks β0 ((cs.drop off).take l.length) := by
                rw [SV.oks_iff]; intro y hy; exact SV.oks_iff.1 hcs.2.2 y (List.mem_of_mem_drop (List.mem_of_mem_take hy))
              obtain ⟨m1, m2, m3⟩ := keepS_vals (xs := (cs.drop off).take l.length) hβ hKp (by rw [k3, SV.vals_map, SV.vals_map, List.map_take, List.map_drop]) hmidl hmido
              have hval2 : SV.vals β (cs.take off ++ keepS l ((cs.drop off).take l.length) qs ++ cs.drop (off + l.length)) = SV.vals β0 (cs.take off) ++ cs' ++ SV.vals β0 (cs.drop (off + l.length)) := by
                simp only [SV.vals_map, List.map_append] at m1 ⊢
                rw [m1]
                congr 1
                · congr 1
                  exact List.map_congr_left fun y hy => SV.val_congr hβ y (SV.lts_iff.1 hcs.2.1 y (List.mem_of_mem_take hy))
                · exact List.map_congr_left fun y hy => SV.val_congr hβ y (SV.lts_iff.1 hcs.2.1 y (List.mem_of_mem_drop hy))
              have hroot : ∀ i hl, lk A i = some hl → ∀ r ∈ roots hl, r ≠ h ∧ r ∉ argsLs A0 ts xs := by
                intro i hl hi r hr
                have := hro i hl hi r hr
                simp only [argLs, List.mem_append, not_or] at this
                exact ⟨fun e => this.1 (by simp [e]), this.2⟩
              have hput := hp.put (A' := set1 A h (.box true tt (cs.take off ++ keepS l ((cs.drop off).take l.length) qs ++ cs.drop (off + l.length)))) (n := h) (hl0 := .box true tt (cs.take off ++ keepS l ((cs.drop off).take l.length) qs ++ cs.drop (off + l.length))) (f := [b']) (fun j => lk_set1' _ _ _) hh.2
                ⟨b', t', by rw [hβ h hh.1]; exact hb', rfl, by rw [hβ h hh.1, hw1, hval2, k1, k2, SV.vals_map, SV.vals_map, SV.vals_map, List.map_take, List.map_drop]; simp [List.append_assoc]⟩
                (fun c hc => by simp only [owned, List.mem_singleton] at hc; subst hc; exact (hmw c (by simp)).1) (fun _ c hc => by simp only [List.mem_singleton] at hc; subst hc; exact (hmw c (by simp)).2) trivial
                (hma.mono fun c hc => by simp only [owned, List.mem_singleton] at hc; simp [hc])
                (fun i hl' hi _ c hc hm => by
                  simp only [List.mem_singleton] at hm
                  subst hm
                  by_cases hdd : hl' = .dead
                  · subst hdd; simp [owned] at hc
                  · exact hma i hl' hi hdd c (owned_sub c hc) (by simp)) trivial
                (fun _ _ _ _ i hl' hi hm => (hroot i hl' hi h hm).1 rfl) (by simp [roots])
              have hbd := bd_put (A' := set1 A h (.box true tt (cs.take off ++ keepS l ((cs.drop off).take l.length) qs ++ cs.drop (off + l.length)))) hb (fun j => lk_set1' _ _ _) (show h < _ by omega)
                (show SV.lts _ _ ∧ SV.oks _ _ by
                  rw [SV.lts_iff, SV.oks_iff]
                  constructor
                  · intro y hy
                    simp only [List.mem_append] at hy
                    rcases hy with (hy | hy) | hy
                    · exact SV.lt_mono (show n0 ≤ _ by omega) y (SV.lts_iff.1 hcs.2.1 y (List.mem_of_mem_take hy))
                    · exact SV.lt_mono (show n0 ≤ _ by omega) y (SV.lts_iff.1 m2 y hy)
                    · exact SV.lt_mono (show n0 ≤ _ by omega) y (SV.lts_iff.1 hcs.2.1 y (List.mem_of_mem_drop hy))
                  · intro y hy
                    simp only [List.mem_append] at hy
                    rcases hy with (hy | hy) | hy
                    · exact SV.ok_congr hβ y (SV.lts_iff.1 hcs.2.1 y (List.mem_of_mem_take hy)) (SV.oks_iff.1 hcs.2.2 y (List.mem_of_mem_take hy))
                    · exact SV.oks_iff.1 m3 y hy
                    · exact SV.ok_congr hβ y (SV.lts_iff.1 hcs.2.1 y (List.mem_of_mem_drop hy)) (SV.oks_iff.1 hcs.2.2 y (List.mem_of_mem_drop hy)))
              have hap := apart_put (hl0 := .box true tt (cs.take off ++ keepS l ((cs.drop off).take l.length) qs ++ cs.drop (off + l.length))) (n := h) (f := [b']) (G := ms ++ G) (hma.mono fun c hc => by rcases List.mem_append.1 hc with h | h <;> simp [h]) (fun j => lk_set1' _ _ _) (fun c hc hm => by
                simp only [List.mem_singleton] at hc
                subst hc
                simp only [List.mem_append] at hm
                exact hm.elim n2 n3)
              simp only [backs, hA0, PV.A]
              exact backs_sound hp0 hb0 hsm ho h2 hl2 hput hbd hβ hn0 hlt.2
                (fun h' hh' => ⟨(hd h' (by simp [hh'])).1, fun hl' hi => by
                  rw [lk_set1', if_neg (hnh h' hh')] at hi
                  exact (hd h' (by simp [hh'])).2 hl' hi⟩) hnd2
                (fun i hl' hi r hr => by
                  rw [lk_set1'] at hi
                  split at hi
                  · cases hi; simp [roots] at hr
                  · exact (hroot i hl' hi r hr).2) n4 (fun c hc => hmw c (by simp [hc])) hap
            | _ => simp [lendOk] at hl
          | _ => exact hX.elim
    · cases hr
theorem rdOk_iff {D : List Nat} : ∀ {l : List Nat}, rdOk A D l → ∀ i ∈ l, i ∉ D ∧ ∃ hl, lk A i = some hl ∧ hl ≠ .dead ∧ ∀ r ∈ roots hl, r ∉ D
  | [], _, i, hi => by cases hi
  | h :: l, hr, i, hi => by
    simp only [rdOk] at hr
    obtain ⟨⟨h1, h2⟩, h3⟩ := hr
    rcases List.mem_cons.1 hi with e | hi
    · subst e
      refine ⟨fun hm => (by rw [memB_iff.2 hm] at h1; cases h1), ?_⟩
      cases hA : lk A i with
      | none => rw [hA] at h2; exact h2.elim
      | some hl =>
        rw [hA] at h2
        cases hl with
        | dead => exact h2.elim
        | arr o T es p =>
          cases o with
          | vw rs => exact ⟨_, rfl, by simp, fun r hr hm => by have h9 : anyB D rs = true := anyB_iff.2 ⟨r, hr, hm⟩; have h2 : anyB D rs = false := h2; rw [h9] at h2; cases h2⟩
          | _ => exact ⟨_, rfl, by simp, by simp [roots]⟩
        | _ => exact ⟨_, rfl, by simp, by simp [roots]⟩
    · exact rdOk_iff h3 i hi
theorem call_own {s : FSpec} {ob : Prop} {ps : List PV} {xs : List SV} {fid : Nat} (hm : Meets P fid s) (hps : resTs S.A s.args xs = some (ob, ps)) (hk : SV.oks β xs) (hlt : SV.lts S.n xs) (sat : Sat N w0 X F S β ϕ a w) (hob : (callOwn S true s ob ps xs).ob) :
    Calls P fid (SV.vals β xs).toArray w fun e w' => ∃ v β' ϕ', e = .returned v ∧ Post w0 X F S (callOwn S true s ob ps xs) β ϕ o.dst v w' β' ϕ' := by
  obtain ⟨_, q1, q2, hfresh, hlen, hlend, hndB, hrd⟩ := hob
  obtain ⟨ϕ0, p1, p2, p3, p4, p5, p6, p7⟩ := proms_sound (argsLs S.A s.args xs) sat.hp sat.hb
  have hsame : Same S.A (proms S.A (argsLs S.A s.args xs)) := ⟨p3, fun j t o cs hj => (p6 _ _ _ _ hj).1, fun j o T cs hj => (p7 _ _ _ _ hj).1⟩
  have hal : Alive (proms S.A (argsLs S.A s.args xs)) (rdsHs (proms S.A (argsLs S.A s.args xs)) s.args xs) := fun i hi => by
    obtain ⟨_, hl, e1, e2, _⟩ := rdOk_iff hrd i hi; exact ⟨hl, e1, e2⟩
  obtain ⟨fs, fl, hargs, hfrom, hlent, heq⟩ := argsOwn p1 hsame hps q1 (fun i o t cs hi => (p2 _ _ hi).2.2) hk hlend hal
  have hret0 := hlend
  simp only [callOwn, callOw]
  generalize hA0 : proms S.A (argsLs S.A s.args xs) = A0 at *
  generalize hH : argsLs S.A s.args xs = H at *
  rw [← heq] at hargs hlent
  have hmnd := lents_nodup p1 hlent (ndB_iff.1 hndB)
  have hms : ∀ b ∈ (H.map ϕ0).flatten, (b ∈ X ∨ w0.heap.size ≤ b) ∧ (b ∈ F ∨ w0.heap.size ≤ b) := by
    intro b hb
    obtain ⟨i, hi, hl, e1, e2⟩ := lents_own hlent b hb
    exact ⟨p1.own _ _ e1 b e2, p1.all _ _ e1 (owned_isA e2) b (owned_sub b e2)⟩
  refine (hm w ps _ fs fl _ hargs hmnd ?_ q2 (sat.gl.now sat.fr fun b hb => (hms b hb).1)).mono fun e w' he => ?_
  · intro b hb hf
    obtain ⟨h, hh, hl, e1, e2⟩ := lents_own hlent b hb
    obtain ⟨i, hi, hl', e3, e4, e5⟩ := hfrom.all b hf
    obtain ⟨n1, hl2, e6, e7, e8⟩ := rdOk_iff hrd i hi
    rw [e3] at e6; cases e6
    exact p1.dj h i _ _ e1 e3 (fun e => n1 (e ▸ hh)) (fun hr => e8 h hr hh) e4 b e2 e5
  obtain ⟨rvs, rfl, hFr, hcase⟩ := he
  have hcase : ∃ fr mo, RetVs w' s.ret (s.res ps) rvs fr ∧ OutV w w' s.args (s.out ps) (SV.vals β xs) mo ∧ (fr ++ mo).Nodup ∧ ∀ b ∈ fr ++ mo, b ∈ (H.map ϕ0).flatten ∨ w.heap.size ≤ b := by
    rcases hcase with ⟨_, h⟩ | ⟨hf, _⟩
    · exact h
    · rw [hfresh] at hf; cases hf
  obtain ⟨fr, mo, hret, hout, hnd, hge⟩ := hcase
  have hfr : Fr w0 X w' := sat.fr.trans hFr (fun x hx => hx) (fun b hb => (hms b hb).1)
  have hst := p1.struck H
  have hap := strike_apart p1 (lents_own hlent)
  have hst' : Holds w0.heap.size X F (strike H A0) β ϕ0 w' := hst.world fun i hl hi hd b hb => hFr.block b (hst.inb hi hd b hb) (hap i hl hi hd b hb)
  have hnd2 : (mo ++ fr).Nodup := (List.perm_append_comm.nodup_iff).1 hnd
  have hge2 : ∀ b ∈ mo ++ fr, (b ∈ X ∨ w0.heap.size ≤ b) ∧ (b ∈ F ∨ w0.heap.size ≤ b) := by
    intro b hb
    rcases hge b (by simp only [List.mem_append] at hb ⊢; exact hb.symm) with h | h
    · exact hms b h
    · exact ⟨.inr (Nat.le_trans sat.fr.size h), .inr (Nat.le_trans sat.fr.size h)⟩
  have hap2 : Apart (strike H A0) ϕ0 (mo ++ fr) := by
    intro i hl hi hd b hb hm
    rcases hge b (by simp only [List.mem_append] at hm ⊢; exact hm.symm) with h | h
    · exact hap i hl hi hd b hb h
    · have := hst.inb hi hd b hb; omega
  obtain ⟨β1, ϕ1, b1, b2, b3, b4, b5⟩ := backs_sound p1 p2 hsame hout hps hlend hst' (strike_bd p2 H) (fun _ _ => rfl) (Nat.le_refl S.n) hlt
    (by
      rw [← heq]
      intro h hh
      obtain ⟨hl, e1, _⟩ := hlent h hh
      exact ⟨(p2 _ _ e1).1, fun hl' hl2 => strike_dead hh hl2⟩)
    (by rw [← heq]; exact ndB_iff.1 hndB)
    (by
      rw [← heq]
      intro i hl hi r hr
      by_cases hd : hl = .dead
      · subst hd; simp [roots] at hr
      · exact (strike_lk hi hd).2.2 r hr) hnd2 (fun b hb => hge2 b (by simp [hb])) hap2
  obtain ⟨β', ϕ', c1, c2, c3, c4, c5, c6, c7, c8, c9⟩ := introVs_own s.ret (s.res ps) rvs fr [] _ _ _ _ hret b1 b2 (by simpa using (List.nodup_append.1 hnd).1) (fun b hb => hge2 b (by simp [hb])) (by simpa using b5)
  exact ⟨_, β', ϕ', rfl, fun _ => packV_val c5, fun h hh => (c3 h (by omega)).trans (b3 h hh), c1, c2, packV_lt c6, packV_ok c7, Nat.le_trans b4 c8, hfr⟩
end
end Go.Proofs.YtkofjkjcbljkdaaGreatDoor
end

section
namespace Go.Proofs.YtkofjkjcbljkdaaGreatDoor
variable [LaidG]
set_option linter.unusedVariables false
section
variable {P : Program} {E : Env} {N : Nat} {w0 : World} {X F : List Nat} {S : St} {β : Nat → GV} {ϕ : Nat → List Nat} {a : Act} {w w' : World} {o : Oper} {R : RR} {A : Hp} {B : Nat}
theorem LoP.at {O : Value → PTy → List PV → List Nat → Prop} {Ts : List PTy} {ps : List PV} {vs : List Value} {fs : List (List Nat)} (h : LoP O Ts ps vs fs) : ∀ {k : Nat} {T : PTy}, Ts[k]? = some (.list T) →
    ∃ es v f, ps[k]? = some (.list es) ∧ vs[k]? = some v ∧ fs[k]? = some f ∧ O v T es f := by
  induction h with
  | nil => intro k T hk; simp at hk
  | int _ _ ih => intro k T hk; cases k with
    | zero => simp at hk
    | succ k => simpa using ih (by simpa using hk)
  | bool _ ih => intro k T hk; cases k with
    | zero => simp at hk
    | succ k => simpa using ih (by simpa using hk)
  | str _ _ ih => intro k T hk; cases k with
    | zero => simp at hk
    | succ k => simpa using ih (by simpa using hk)
  | list hO _ ih => intro k T hk; cases k with
    | zero => simp at hk; subst hk; exact ⟨_, _, _, rfl, rfl, rfl, hO⟩
    | succ k => simpa using ih (by simpa using hk)
theorem LoP.put {O O' : Value → PTy → List PV → List Nat → Prop} {Ts : List PTy} {ps : List PV} {vs : List Value} {fs : List (List Nat)} (h : LoP O Ts ps vs fs) : ∀ {k : Nat} {T : PTy} {es' : List PV} {v : Value} {f' : List Nat}, Ts[k]? = some (.list T) → vs[k]? = some v → O' v T es' f' →
    (∀ m f, m ≠ k → fs[m]? = some f → ∀ v T es, O v T es f → O' v T es f) → LoP O' Ts (ps.set k (.list es')) vs (fs.set k f') := by
  induction h with
  | nil => intro k T es' v f' hk; simp at hk
  | int h0 h1 ih =>
    intro k T es' v f' hk hv hO hoth
    cases k with
    | zero => simp at hk
    | succ k => exact .int h0 (ih (by simpa using hk) (by simpa using hv) hO fun m f hm hf => hoth (m + 1) f (by omega) (by simpa using hf))
  | bool h1 ih =>
    intro k T es' v f' hk hv hO hoth
    cases k with
    | zero => simp at hk
    | succ k => exact .bool (ih (by simpa using hk) (by simpa using hv) hO fun m f hm hf => hoth (m + 1) f (by omega) (by simpa using hf))
  | str h0 h1 ih =>
    intro k T es' v f' hk hv hO hoth
    cases k with
    | zero => simp at hk
    | succ k => exact .str h0 (ih (by simpa using hk) (by simpa using hv) hO fun m f hm hf => hoth (m + 1) f (by omega) (by simpa using hf))
  | list h0 h1 ih =>
    intro k T es' v f' hk hv hO hoth
    cases k with
    | zero =>
      simp at hk hv
      subst hk hv
      refine .list hO ?_
      exact h1.mono fun v T es f hf hv => by
        obtain ⟨m, hm, e⟩ := List.mem_iff_getElem.1 hf
        exact hoth (m + 1) f (by omega) (by rw [List.getElem?_cons_succ, List.getElem?_eq_getElem hm, e]) v T es hv
    | succ k => exact .list (hoth 0 _ (by omega) rfl _ _ _ h0) (ih (by simpa using hk) (by simpa using hv) hO fun m f hm hf => hoth (m + 1) f (by omega) (by simpa using hf))
theorem flat_apart {α : Type} : ∀ {fs : List (List α)}, fs.flatten.Nodup → ∀ {m k : Nat} {f g : List α}, fs[m]? = some f → fs[k]? = some g → m ≠ k → ∀ x ∈ f, x ∉ g
  | [], _, m, k, f, g, hf, _, _ => by simp at hf
  | h :: fs, hn, m, k, f, g, hf, hg, hne => by
    rw [List.flatten_cons] at hn
    obtain ⟨n1, n2, n3⟩ := List.nodup_append.1 hn
    intro x hx hm
    cases m with
    | zero =>
      cases k with
      | zero => exact hne rfl
      | succ k =>
        simp at hf hg; subst hf
        exact n3 x hx x (List.mem_flatten.2 ⟨g, List.mem_of_getElem? hg, hm⟩) rfl
    | succ m =>
      cases k with
      | zero =>
        simp at hf hg; subst hg
        exact n3 x hm x (List.mem_flatten.2 ⟨f, List.mem_of_getElem? hf, hx⟩) rfl
      | succ k => exact flat_apart n2 (by simpa using hf) (by simpa using hg) (by omega) x hx hm
theorem flat_set {α : Type} : ∀ {fs : List (List α)} {k : Nat} {g f' : List α}, fs.flatten.Nodup → fs[k]? = some g → f'.Nodup → (∀ x ∈ f', x ∈ g ∨ x ∉ fs.flatten) → (fs.set k f').flatten.Nodup ∧ ∀ x ∈ (fs.set k f').flatten, x ∈ fs.flatten ∨ x ∈ f'
  | [], k, g, f', _, hk, _, _ => by simp at hk
  | h :: fs, k, g, f', hn, hk, hf, hx => by
    rw [List.flatten_cons] at hn
    obtain ⟨n1, n2, n3⟩ := List.nodup_append.1 hn
    cases k with
    | zero =>
      simp at hk; subst hk
      simp only [List.set_cons_zero, List.flatten_cons]
      refine ⟨List.nodup_append.2 ⟨hf, n2, fun x h1 y h2 e => ?_⟩, fun x hm => ?_⟩
      · subst e
        rcases hx x h1 with h3 | h3
        · exact n3 x h3 x h2 rfl
        · exact h3 (by simp only [List.flatten_cons, List.mem_append]; exact .inr h2)
      · rcases List.mem_append.1 hm with h1 | h1
        · exact .inr h1
        · exact .inl (List.mem_append.2 (.inr h1))
    | succ k =>
      simp only [List.set_cons_succ, List.flatten_cons]
      have hk' : fs[k]? = some g := by simpa using hk
      have hgs : ∀ x ∈ g, x ∈ fs.flatten := fun x hm => List.mem_flatten.2 ⟨g, List.mem_of_getElem? hk', hm⟩
      obtain ⟨r1, r2⟩ := flat_set n2 hk' hf (fun x hm => (hx x hm).imp id fun h3 h4 => h3 (by simp only [List.flatten_cons, List.mem_append]; exact .inr h4))
      refine ⟨List.nodup_append.2 ⟨n1, r1, fun x h1 y h2 e => ?_⟩, fun x hm => ?_⟩
      · subst e
        rcases r2 x h2 with h3 | h3
        · exact n3 x h1 x h3 rfl
        · rcases hx x h3 with h4 | h4
          · exact n3 x h1 x (hgs x h4) rfl
          · exact h4 (by simp only [List.flatten_cons, List.mem_append]; exact .inl h1)
      · rcases List.mem_append.1 hm with h1 | h1
        · exact .inl (List.mem_append.2 (.inl h1))
        · exact (r2 x h1).imp (fun h => List.mem_append.2 (.inr h)) id
theorem flatT_at {T : PTy} {n i j : Nat} (hi : i < n) (hj : j < T.wd) : (flatT T n)[i * T.wd + j]? = T.leaves[j]? := by
  have e : n = i + (1 + (n - (i + 1))) := by omega
  rw [e, flatT_add, flatT_add, flatT_one, List.getElem?_append_right (by rw [flatT_len]; omega), flatT_len, Nat.add_sub_cancel_left, List.getElem?_append_left hj]
theorem flatP_at {T : PTy} {es : List PV} (hS : ∀ e ∈ es, Shp T e) {i j : Nat} (hi : i < es.length) (hj : j < T.wd) : (flatP es)[i * T.wd + j]? = (es.getD i PV.d).leaves[j]? := by
  have hs := split_at es hi
  have h1 : (flatP (es.take i)).length = i * T.wd := by
    rw [flatP_len (T := T) fun e he => hS e (List.mem_of_mem_take he), List.length_take, Nat.min_eq_left (by omega)]
  have h2 : (es.getD i PV.d).leaves.length = T.wd := leaves_len (hS _ (getD_mem hi))
  conv => lhs; rw [hs]
  rw [flatP_append, List.getElem?_append_right (by omega), h1, Nat.add_sub_cancel_left]
  show (List.flatMap PV.leaves (_ :: _))[j]? = _
  rw [List.flatMap_cons, List.getElem?_append_left (by omega)]
theorem flatP_set {ts : List PTy} {es : List PV} (hS : ∀ e ∈ es, Shp (.agg ts) e) {i j : Nat} {q : PV} (hi : i < es.length) (hj : j < ts.length) :
    flatP (es.set i (.agg ((es.getD i PV.d).A.set j q))) = (flatP es).set (i * (PTy.agg ts).wd + j) q := by
  have hs := split_at es hi
  have h1 : (flatP (es.take i)).length = i * (PTy.agg ts).wd := by
    rw [flatP_len (T := .agg ts) fun e he => hS e (List.mem_of_mem_take he), List.length_take, Nat.min_eq_left (by omega)]
  have h0 := hS _ (getD_mem hi)
  have h2 : (es.getD i PV.d).leaves.length = (PTy.agg ts).wd := leaves_len h0
  have h3 : (es.getD i PV.d).leaves = (es.getD i PV.d).A := by
    generalize es.getD i PV.d = e at h0
    obtain ⟨qs, rfl, _⟩ := h0
    rfl
  have hw : (PTy.agg ts).wd = ts.length := rfl
  rw [List.set_eq_take_append_cons_drop, if_pos hi, flatP_append]
  conv => rhs; rw [hs]
  rw [flatP_append, List.set_append_right _ _ (by omega), h1, Nat.add_sub_cancel_left]
  congr 1
  show List.flatMap PV.leaves (_ :: _) = (List.flatMap PV.leaves (_ :: _)).set j q
  rw [List.flatMap_cons, List.flatMap_cons, List.set_append_left _ _ (by omega), h3]
  rfl
theorem call_pt {s : FSpec} {ob : Prop} {ps : List PV} {xs : List SV} {fid : Nat} {R0 : RR} (hm : Meets P fid s) (hps : resTs S.A s.args xs = some (ob, ps)) (hcr : callPt S true s ob ps xs = some R0) (hk : SV.oks β xs) (hlt : SV.lts S.n xs) (sat : Sat N w0 X F S β ϕ a w) (hob : R0.ob) :
    R0.hy ∧ Calls P fid (SV.vals β xs).toArray w fun e w' => ∃ v β' ϕ', e = .returned v ∧ Post w0 X F S R0 β ϕ o.dst v w' β' ϕ' := by
  obtain ⟨args, ret, fresh, pre, res, out⟩ := s
  simp only [callPt] at hcr
  split at hcr
  case h_2 => cases hcr
  rename_i T0 ts h ys q hout0
  split at hcr
  case h_2 => cases hcr
  rename_i r i j hpath
  split at hcr
  case h_2 => cases hcr
  rename_i tt es p2 hr
  cases hcr
  obtain ⟨_, q1, q2, hfresh, hlen, hall, hrd⟩ := hob
  refine ⟨trivial, ?_⟩
  simp only at hfresh hlen hall hrd q2 hps hm hout0 ⊢
  have hv : ∃ rs T1 es1, lk S.A h = some (.arr (.vw rs) T1 es1 (.el r i j)) := by
    unfold pathOf at hpath
    split at hpath
    · rename_i rs T1 es1 r' i' j' e
      cases hpath
      exact ⟨_, _, _, e⟩
    · cases hpath
  obtain ⟨rs, T1, es1, hlk⟩ := hv
  simp only [resTs] at hps
  split at hps
  case h_2 => cases hps
  rename_i o1 p o2 qs hp1 hps2
  simp only [Option.some.injEq, Prod.mk.injEq] at hps
  obtain ⟨rfl, rfl⟩ := hps
  have hp1 : resL S.A (.list T0) (.sl h) = some (o1, p) := hp1
  simp only [resL, hlk, Option.some.injEq, Prod.mk.injEq] at hp1
  obtain ⟨rfl, rfl⟩ := hp1
  obtain ⟨hT0, ho2⟩ := q1
  subst hT0
  obtain ⟨hrs, T', es', p', hr', hi, hj, hje, b0, o0, c0, t0, fr0, hadr, hblk0, hcell⟩ := sat.hp.pt _ _ hlk
  rw [hr] at hr'; cases hr'
  have hwd : (PTy.agg tt).wd = tt.length := rfl
  have hjl : j < tt.length := by
    have := List.getElem?_eq_some_iff.1 hj
    exact this.1
  have hO : OwnD w (β r).v (.agg tt) es (ϕ r) := sat.hp.sat _ _ hr
  have hnd : (ϕ r).Nodup := sat.hp.nd _ _ hr
  rcases hO with ⟨e0, _⟩ | ⟨b, f1, cs, hϕ, hroom, hS, fs, hf1, hL⟩
  · subst e0; simp at hi
  have hTk := (flatT_at (T := .agg tt) (n := es.length) hi (by rw [hwd]; exact hjl)).trans hj
  obtain ⟨es2, v, f, g1, g2, g3, hOF⟩ := hL.at hTk
  have hPk := (flatP_at hS hi (by rw [hwd]; exact hjl)).trans hje
  rw [hPk] at g1; cases g1
  have hvv : v = (β h).v := by
    obtain ⟨⟨o', cap, c, t, fr, e1, e2, e3, e4, e5, e6, e7⟩, hcl, _⟩ := hroom
    rw [e1] at hadr
    simp only [addrOf, Option.some.injEq, Prod.mk.injEq] at hadr
    obtain ⟨rfl, rfl⟩ := hadr
    rw [e2] at hblk0
    cases hblk0
    have hlt' : i * (PTy.agg tt).wd + j < cs.length := (List.getElem?_eq_some_iff.1 g2).1
    rw [← e7, List.getElem?_take, if_pos hlt', List.getElem?_drop, Array.getElem?_toList] at g2
    rw [hcell] at g2
    exact (Option.some.inj g2).symm
  subst hvv
  have hff : ∀ x ∈ f, x ∈ fs.flatten := fun x hx => List.mem_flatten.2 ⟨f, List.mem_of_getElem? g3, hx⟩
  have hfϕ : ∀ x ∈ f, x ∈ ϕ r := fun x hx => by rw [hϕ, hf1]; exact List.mem_cons_of_mem _ (hff x hx)
  have hnd' : (b :: fs.flatten).Nodup := by rw [← hf1, ← hϕ]; exact hnd
  obtain ⟨hnb, hnf⟩ := List.nodup_cons.1 hnd'
  have hfn : f.Nodup := by
    exact (List.pairwise_flatten.1 hnf).1 f (List.mem_of_getElem? g3)
  have hFl : flatB T1 = true := hOF.1
  have hbx : ∀ i o t cs, lk S.A i = some (.box o t cs) → SV.oks β cs := fun i o t cs hi => (sat.hb _ _ hi).2.2
  obtain ⟨fs0, fl0, hargs, hfrom⟩ := argsRd hps2 hall ho2 sat.hp hbx hk.2
  have hA : ArgsV w ((.mt, .list T1) :: ts) (.list es1 :: qs) (SV.vals β (.sl h :: ys)) fs0 fl0 (f ++ []) := .mt ⟨_, rfl, ownF_D hOF⟩ hargs
  rw [List.append_nil] at hA
  have hms : ∀ b ∈ f, (b ∈ X ∨ w0.heap.size ≤ b) ∧ (b ∈ F ∨ w0.heap.size ≤ b) := fun x hx => ⟨sat.hp.own _ _ hr x (hfϕ x hx), sat.hp.all _ _ hr trivial x (hfϕ x hx)⟩
  refine (hm w _ _ fs0 fl0 f hA hfn ?_ q2 (sat.gl.now sat.fr fun b hb => (hms b hb).1)).mono fun e w' he => ?_
  · intro x hx hf
    obtain ⟨i', hi', hl', e3, e4, e5⟩ := hfrom.all x hf
    obtain ⟨n1, hl2, e6, e7, e8⟩ := rdOk_iff hrd i' hi'
    rw [e3] at e6; cases e6
    exact sat.hp.dj r i' _ _ hr e3 (fun e => n1 (by simp [e])) (fun hq => e8 r hq (by simp)) e4 x (hfϕ x hx) e5
  obtain ⟨rvs, rfl, hFr, hcase⟩ := he
  rcases hcase with ⟨_, fr, mo, hret, hout, hnd3, hge⟩ | ⟨hf, _⟩
  case inr => rw [hfresh] at hf; cases hf
  simp only at hret hout
  rw [hout0] at hout
  obtain ⟨p3, f', mo', hp3, hO', rfl, rfl⟩ : ∃ p3 f' mo', q = .list p3 ∧ OwnD w' (β h).v T1 p3 f' ∧ mo = f' ++ mo' ∧ mo' = [] := by
    cases hout with
    | mt h1 h2 =>
      obtain ⟨es3, rfl, h3⟩ := h1
      obtain ⟨rfl, _⟩ := outV_rd h2 hall
      exact ⟨_, _, _, rfl, h3, rfl, rfl⟩
  subst hp3
  rw [List.append_nil] at hnd3 hge
  obtain ⟨hnfr, hnf', hdis⟩ := List.nodup_append.1 hnd3
  have hfr : Fr w0 X w' := sat.fr.trans hFr (fun x hx => hx) (fun b hb => (hms b hb).1)
  have hst := sat.hp.struck [r]
  have hap : Apart (strike [r] S.A) ϕ (ϕ r) := strike_apart sat.hp fun b hb => ⟨r, by simp, _, hr, hb⟩
  have hst' : Holds w0.heap.size X F (strike [r] S.A) β ϕ w' := hst.world fun i hl hi hd b hb => hFr.block b (hst.inb hi hd b hb) fun hm => hap i hl hi hd b hb (hfϕ b hm)
  have hold : ∀ x ∈ ϕ r, x < w.heap.size := sat.hp.inb hr (by simp)
  have hg' : ∀ x ∈ f', x ∈ f ∨ x ∉ fs.flatten := fun x hx => (hge x (by simp [hx])).imp id fun h1 h2 => by
    have := hold x (by rw [hϕ, hf1]; exact List.mem_cons_of_mem _ h2); omega
  obtain ⟨s1, s2⟩ := flat_set hnf g3 hnf' hg'
  have hOk : OwnD w' (β r).v (.agg tt) (es.set i (.agg ((es.getD i PV.d).A.set j (.list p3)))) (b :: (fs.set (i * (PTy.agg tt).wd + j) f').flatten) := by
    have hb' : w'.heap[b]? = w.heap[b]? := hFr.block b (hold b (by rw [hϕ]; simp)) fun hm => hnb (hff b hm)
    refine .inr ⟨b, _, cs, rfl, by rw [List.length_set]; exact hroom.frame hb', ?_, _, rfl, ?_⟩
    · intro e he
      rcases List.mem_or_eq_of_mem_set he with he | rfl
      · exact hS e he
      · obtain ⟨qs', hq, hql⟩ := hS _ (getD_mem hi)
        exact ⟨_, rfl, by rw [List.length_set, hq]; exact hql⟩
    · rw [List.length_set, flatP_set hS hi hjl]
      refine hL.put hTk g2 (ownD_F hFl hO') fun m g hm hg v T es hv => hv.frame fun x hx => hFr.block x (hold x (by rw [hϕ, hf1]; exact List.mem_cons_of_mem _ (List.mem_flatten.2 ⟨g, List.mem_of_getElem? hg, hx⟩))) fun hm' => flat_apart hnf hg g3 hm x hx hm'
  have hmem : ∀ x ∈ b :: (fs.set (i * (PTy.agg tt).wd + j) f').flatten, x ∈ ϕ r ∨ x ∈ f' := by
    intro x hx
    rcases List.mem_cons.1 hx with rfl | hx
    · left; rw [hϕ]; simp
    · exact (s2 x hx).imp (fun h => by rw [hϕ, hf1]; exact List.mem_cons_of_mem _ h) id
  have hge2 : ∀ x ∈ fr ++ f', (x ∈ X ∨ w0.heap.size ≤ x) ∧ (x ∈ F ∨ w0.heap.size ≤ x) := by
    intro x hx
    rcases hge x hx with h | h
    · exact hms x h
    · exact ⟨.inr (Nat.le_trans sat.fr.size h), .inr (Nat.le_trans sat.fr.size h)⟩
  have hbf' : b ∉ f' := fun hm => by
    rcases hge b (by simp [hm]) with h | h
    · exact hnb (hff b h)
    · have := hold b (by rw [hϕ]; simp); omega
  have hfrϕ : ∀ x ∈ fr, x ∈ f ∨ w.heap.size ≤ x := fun x hx => hge x (by simp [hx])
  have hN : ((b :: (fs.set (i * (PTy.agg tt).wd + j) f').flatten) ++ fr).Nodup := by
    rw [List.cons_append, List.nodup_cons]
    refine ⟨fun hm => ?_, List.nodup_append.2 ⟨s1, hnfr, fun x hx y hy e => ?_⟩⟩
    · rcases List.mem_append.1 hm with hm | hm
      · rcases s2 b hm with h | h
        · exact hnb h
        · exact hbf' h
      · rcases hfrϕ b hm with h | h
        · exact hnb (hff b h)
        · have := hold b (by rw [hϕ]; simp); omega
    · subst e
      obtain ⟨g, hg, hxg⟩ := List.mem_flatten.1 hx
      obtain ⟨m, hm, e⟩ := List.mem_iff_getElem.1 hg
      by_cases hmk : m = i * (PTy.agg tt).wd + j
      · subst hmk
        rw [List.getElem_set_self] at e
        subst e
        exact hdis x hy x hxg rfl
      · rw [List.getElem_set_ne (by omega)] at e
        have hg2 : fs[m]? = some g := by rw [List.length_set] at hm; rw [List.getElem?_eq_getElem hm, e]
        rcases hfrϕ x hy with h | h
        · exact flat_apart hnf hg2 g3 hmk x hxg h
        · have := hold x (by rw [hϕ, hf1]; exact List.mem_cons_of_mem _ (List.mem_flatten.2 ⟨g, List.mem_of_getElem? hg2, hxg⟩)); omega
  have hap2 : Apart (strike [r] S.A) ϕ ((b :: (fs.set (i * (PTy.agg tt).wd + j) f').flatten) ++ fr) := by
    intro i' hl hi' hd x hx hm
    have hnew : ∀ x, x ∈ fr ++ f' → x ∈ ϕ i' → False := fun x h1 h2 => by
      rcases hge x h1 with h | h
      · exact hap i' hl hi' hd x h2 (hfϕ x h)
      · have := hst.inb hi' hd x h2; omega
    rcases List.mem_append.1 hm with hm | hm
    · rcases hmem x hm with h | h
      · exact hap i' hl hi' hd x hx h
      · exact hnew x (by simp [h]) hx
    · exact hnew x (by simp [hm]) hx
  obtain ⟨b1, b2, b5⟩ := put_own (h := r) hst' (strike_bd sat.hb [r]) (sat.hb _ _ hr).1 (fun hl' hl2 => strike_dead (by simp) hl2) hOk hN
    (fun x hx => by
      rcases hmem x hx with h | h
      · exact ⟨sat.hp.own _ _ hr x h, sat.hp.all _ _ hr trivial x h⟩
      · exact hge2 x (by simp [h])) hap2
  obtain ⟨β', ϕ', c1, c2, c3, c4, c5, c6, c7, c8, c9⟩ := introVs_own ret (res (.list es1 :: qs)) rvs fr [] S.n _ _ _ hret b1 b2 (by simpa using hnfr) (fun b hb => hge2 b (by simp [hb])) (by simpa using b5)
  exact ⟨_, β', ϕ', rfl, fun _ => packV_val c5, c3, c1, c2, packV_lt c6, packV_ok c7, c8, hfr⟩
end
end Go.Proofs.YtkofjkjcbljkdaaGreatDoor
end

section
namespace Go.Proofs.YtkofjkjcbljkdaaGreatDoor
variable [LaidG]
set_option linter.unusedVariables false
section
variable {P : Program} {E : Env} {N : Nat} {w0 : World} {X F : List Nat} {S : St} {β : Nat → GV} {ϕ : Nat → List Nat} {a : Act} {w w' : World} {o : Oper} {R : RR} {A : Hp} {B : Nat}
theorem s_call {c : Call} {f : Operand} {g' : Bool} {fid : Nat} {caps vs : List SV} {ob : Prop} {R0 : RR} (hE : EnvOk P E) (ho : o.op = .call c) (hc : c.callee = .value f) (hf : S.ev f = some (g', .fn fid caps)) (hg : g' = true)
    (hvs : evs S true c.args.toList = some (ob, vs)) (hobv : ob) (hcr : callRes E S true fid caps vs = some R0) (hob : R0.ob) (sat : Sat N w0 X F S β ϕ a w) :
    R0.hy ∧ ∀ (next : Act → World → Prop) (Q : Exit → Act → World → Prop), (∀ v w' β' ϕ', Post w0 X F S R0 β ϕ o.dst v w' β' ϕ' → (∀ s, findFn E.fn fid (closes vs) = some s → allRd s.args = true → Fr w [] w') → next (a.put o.dst v) w') → o.wp P a w next Q := by
  obtain ⟨f1, f2⟩ := ev_sound hf sat
  replace f1 := f1 hg
  obtain ⟨f3, f4⟩ := f2 hg
  obtain ⟨v1, v2⟩ := evs_sound hvs sat
  replace v1 := v1 rfl hobv
  obtain ⟨v3, v4⟩ := v2 rfl hobv
  have hok : SV.oks β (vs ++ caps) := by
    rw [SV.oks_iff]; intro x hx
    rcases List.mem_append.1 hx with h | h
    · exact SV.oks_iff.1 v4 x h
    · exact SV.oks_iff.1 f4 x h
  have hlt : SV.lts S.n (vs ++ caps) := by
    rw [SV.lts_iff]; intro x hx
    rcases List.mem_append.1 hx with h | h
    · exact SV.lts_iff.1 v1 x h
    · exact SV.lts_iff.1 f1 x h
  unfold callRes at hcr
  split at hcr
  · cases hcr
  · rename_i s hs
    obtain ⟨hmeet, fn, hfn, hbody, hname⟩ := hE.fn _ _ _ hs
    have hrun := call_enter (P := P) (w := w) (ob := ob) ho hc f3 v3 hfn hbody hname
    split at hcr
    · cases hcr
    · rename_i o1 ps hps
      have go : R0.hy → Calls P fid (SV.vals β (vs ++ caps)).toArray w (fun e w' => ∃ v β' ϕ', e = .returned v ∧ Post w0 X F S R0 β ϕ o.dst v w' β' ϕ' ∧ (allRd s.args = true → Fr w [] w')) →
          R0.hy ∧ ∀ (next : Act → World → Prop) (Q : Exit → Act → World → Prop), (∀ v w' β' ϕ', Post w0 X F S R0 β ϕ o.dst v w' β' ϕ' → (∀ s, findFn E.fn fid (closes vs) = some s → allRd s.args = true → Fr w [] w') → next (a.put o.dst v) w') → o.wp P a w next Q := by
        refine fun h0 hcall => ⟨h0, fun next Q hnext => ?_⟩
        unfold Oper.wp
        rw [hrun, Oper.upon_enter]
        refine hcall.mono fun e w' he => ?_
        obtain ⟨v, β', ϕ', rfl, hpost, hf⟩ := he
        exact hnext _ w' β' ϕ' hpost fun s' hs' ha => by rw [hs] at hs'; cases hs'; exact hf ha
      have own : allRd s.args = false → R0 = callOwn S true s o1 ps (vs ++ caps) → R0.hy ∧ ∀ (next : Act → World → Prop) (Q : Exit → Act → World → Prop), (∀ v w' β' ϕ', Post w0 X F S R0 β ϕ o.dst v w' β' ϕ' → (∀ s, findFn E.fn fid (closes vs) = some s → allRd s.args = true → Fr w [] w') → next (a.put o.dst v) w') → o.wp P a w next Q := by
        intro hna e
        subst e
        exact go trivial ((call_own hmeet hps hok hlt sat hob).mono fun e w' ⟨v, β', ϕ', h1, h2⟩ => ⟨v, β', ϕ', h1, h2, fun h => by rw [hna] at h; cases h⟩)
      split at hcr
      · rename_i hall
        cases hcr
        exact go trivial ((call_rd hmeet hps hall hok sat hob).mono fun e w' ⟨v, β', ϕ', h1, h2, h3⟩ => ⟨v, β', ϕ', h1, h2, fun _ => h3⟩)
      · rename_i hna
        split at hcr
        · split at hcr
          · obtain ⟨r1, r2⟩ := call_pt (P := P) (w := w) (o := o) hmeet hps hcr hok hlt sat hob
            exact go r1 (r2.mono fun e w' ⟨v, β', ϕ', h1, h2⟩ => ⟨v, β', ϕ', h1, h2, fun h => absurd h hna⟩)
          · cases hcr; exact own (by simpa using hna) rfl
        · cases hcr; exact own (by simpa using hna) rfl
end
end Go.Proofs.YtkofjkjcbljkdaaGreatDoor
end

section
namespace Go.Proofs.YtkofjkjcbljkdaaGreatDoor
variable [LaidG]
set_option linter.unusedVariables false
section
variable {P : Program} {E : Env} {N : Nat} {w0 : World} {X F : List Nat} {S : St} {β : Nat → GV} {ϕ : Nat → List Nat} {a : Act} {w w' : World} {o : Oper} {R : RR} {A : Hp} {B : Nat}
theorem addr_add0 (x : Addr) : x.add 0 = x := by cases x; rfl
theorem copyTo_sound {h r lo n : Nat} {T : PTy} {es : List PV} (hc : copyTo A h = some (r, lo, T, es, n)) (hp : Holds B X F A β ϕ w) :
    ∃ p, lk A r = some (.arr .dp T es p) ∧ lo + n ≤ es.length ∧ ∃ ad l cap, (β r).v = .slice ad l cap ∧ (β h).v = .slice (if cap = lo then ad else ad.map fun x => x.add (lo * T.wd)) n (cap - lo) := by
  unfold copyTo at hc
  split at hc
  · rename_i T' es' p hl
    cases hc
    obtain ⟨_, cap, ad, hv, _⟩ := lv_len (hp_lv hp hl (fun k => by simp))
    refine ⟨p, hl, by omega, ad, _, cap, hv, ?_⟩
    rw [hv]
    congr 1
    split
    · rfl
    · cases ad <;> simp [addr_add0]
  · rename_i rs T' es' r' lo' hl
    split at hc
    · rename_i T2 es2 p2 hr
      cases hc
      obtain ⟨_, es3, p3, h1, h2, _, ad, l, cap, h4, h5⟩ := hp.pt _ _ hl
      rcases h1 with h1 | h1
      · rw [hr] at h1; cases h1
        exact ⟨_, hr, h2, ad, l, cap, h4, h5⟩
      · rw [hr] at h1; cases h1
    · cases hc
  · cases hc
theorem flatL_ty {T : PTy} (h : flatL T = true) : flatB T = true ∧ T.leaves = [T] ∧ T.wd = 1 ∧ ∀ ts, T ≠ .agg ts := by
  cases T <;> simp [flatL] at h <;> exact ⟨rfl, rfl, rfl, by simp⟩
theorem run_copyRow {dT sT ty elem t b o dLen dCap b2 o2 sLen sCap : Nat} {c c2 : Array Value} {fr fr2 : Nat × Nat} {t2 : Nat} {cs : List Value} (hu : P.underlying dT = some (.slice elem)) (hs : (P.info? elem).map (·.size) = some 1) (hn : cs.length = Nat.min sLen dLen)
    (hb2 : w.heap[b2]? = some (.cells c2 t2 fr2)) (hcs : (c2.toList.drop o2).take cs.length = cs) (hb : w.heap[b]? = some (.cells c t fr)) (hbnd : o + cs.length ≤ c.size) (hf : ∀ j, j < c.size → ¬ (fr.1 ≤ j ∧ j < fr.2)) (h1 : ∀ v ∈ cs, v.oneCell' = true) :
    ∃ w', (Builtin.copy_ #[dT, sT] ty #[.slice (some ⟨b, o, none⟩) dLen dCap, .slice (some ⟨b2, o2, none⟩) sLen sCap]).run P w = .ok (goInt cs.length) w' ∧ w'.heap[b]? = some (.cells (c.toList.take o ++ cs ++ c.toList.drop (o + cs.length)).toArray t fr) ∧
      (∀ k, k ≠ b → w'.heap[k]? = w.heap[k]?) ∧ w'.os = w.os ∧ w'.tape = w.tape ∧ w'.output = w.output ∧ w'.heap.size = w.heap.size := by
  have hl := run_loadCells_list (P := P) w ⟨b2, o2, none⟩ cs (fun j v hj => by
    rw [addr_add, cell_of_row w b2 _ c2 t2 fr2 hb2]
    have hlt := (List.getElem?_eq_some_iff.1 hj).1
    rw [← hcs, List.getElem?_take, if_pos hlt, List.getElem?_drop, Array.getElem?_toList] at hj
    exact hj)
  obtain ⟨w', r1, r2, r3⟩ := run_storeCells_gen (P := P) b t fr cs o 0 c w hb (by omega) hf h1
  refine ⟨w', ?_, by simpa using r2, r3⟩
  cases hq : P.info? elem with
  | none => simp [hq] at hs
  | some i =>
    have hi : i.size = 1 := by simpa [hq] using hs
    simp [Builtin.copy_, run_underlying hu, Builtin.lenOf, Builtin.firstCells, sizeOf, typeInfo, hq, hi, ← hn, hl, r1]
theorem s_copy {c : Call} {vs : List SV} {ob : Prop} (hT : EnvTy P E) (ho : o.op = .call c) (hc : c.callee = .builtin .copy) (hvs : evs S true c.args.toList = some (ob, vs))
    (hR : builtinRes E S true .copy c.argTypes.toList ob vs = some R) (sat : Sat N w0 X F S β ϕ a w) (hob : R.ob) : Snd P w0 X F S β ϕ o a w R := by
  obtain ⟨e1, e2⟩ := evs_sound hvs sat
  have key : ∃ t u h s, c.argTypes.toList = [t, u] ∧ vs = [.sl h, .sl s] ∧ copyRes E S true ob t h s = some R := by
    unfold builtinRes at hR
    split at hR
    case h_4 => rename_i t u h s hb hts; exact ⟨_, _, _, _, hts, rfl, hR⟩
    all_goals first | (exfalso; rename_i hb; simp at hb; done) | (exfalso; rename_i hb _; simp at hb; done) | (exfalso; rename_i hb _ _; simp at hb; done) | (exfalso; rename_i hb _ _ _; simp at hb; done) | cases hR
  obtain ⟨t, u, h, s, hat, rfl, hcr⟩ := key
  have hat2 : c.argTypes = #[t, u] := by apply Array.ext'; simpa using hat
  unfold copyRes at hcr
  split at hcr
  case h_2 => cases hcr
  rename_i r lo T es n ti hct hti
  split at hcr
  case h_2 => cases hcr
  rename_i o' new te hsrc hte
  cases hcr
  obtain ⟨_, q1, q2, q3, q4, q5⟩ := hob
  subst q4
  obtain ⟨consts, hr0⟩ := run_builtin ho hc hvs q1 sat
  obtain ⟨hfB, hfl, hwd, hfa⟩ := flatL_ty q5
  have hTe := hT _ _ hte
  have hu := (hT _ _ hti).und
  rw [q3] at hu
  have hsz : (P.info? ti.el).map (·.size) = some 1 := by
    obtain ⟨i, h1, h2, _⟩ := hTe.info
    rw [h1]
    have := (pty_wd hTe).1
    rw [hwd] at this
    simp [h2, ← this]
  obtain ⟨p, hlr, hlo, ad, l, cap0, hvr, hvh⟩ := copyTo_sound hct sat.hp
  have hsrc2 : ∃ o2 p2, lk S.A s = some (.arr o2 te.pty new p2) ∧ ∀ k, o2 ≠ .cs k := by
    simp only [srcOf] at hsrc
    split at hsrc
    · cases hsrc
    · rename_i o2 T2 es2 p2 hn hl
      simp only [Option.some.injEq, Prod.mk.injEq] at hsrc
      obtain ⟨rfl, rfl⟩ := hsrc
      have : T2 = te.pty := q2
      subst this
      exact ⟨o2, p2, hl, fun k e => hn k (by rw [e])⟩
    · cases hsrc
  obtain ⟨o2, p2, hls, hncs⟩ := hsrc2
  have hLs := hp_lv sat.hp hls hncs
  obtain ⟨hnl, cs', as', hvs', hcs'⟩ := lv_len hLs
  have hst := sat.hp.struck [r]
  have hap : Apart (strike [r] S.A) ϕ (ϕ r) := strike_apart sat.hp fun b hb => ⟨r, by simp, _, hlr, hb⟩
  have hr1 : execOp a.eval o = Builtin.copy_ #[t, u] o.type #[(β h).v, (β s).v] >>= fun v => pure (.value v) := by
    rw [hr0]
    simp [builtin, hat2, SV.vals, SV.val]
  have hO : OwnD w (β r).v te.pty es (ϕ r) := sat.hp.sat _ _ hlr
  have hk0 : inR .i64 ((min new.length n : Nat) : Int) := by
    simp only [inR, IntKind.min, IntKind.max, IntKind.signed, IntKind.bits]; unfold LIM at hnl; omega
  have hrn : r < S.n := (sat.hb _ _ hlr).1
  by_cases hk : min new.length n = 0
  · -- nothing is copied
    have hes : es.take lo ++ new.take n ++ es.drop (lo + min new.length n) = es := by
      have : new.take n = [] := List.eq_nil_of_length_eq_zero (by rw [List.length_take]; omega)
      rw [this, List.append_nil, hk, Nat.add_zero, List.take_append_drop]
    obtain ⟨b1, b2, _⟩ := put_own (h := r) (G := []) hst (strike_bd sat.hb [r]) hrn (fun hl' hl2 => strike_dead (by simp) hl2) hO (by rw [List.append_nil]; exact sat.hp.nd _ _ hlr) (fun x hx => ⟨sat.hp.own _ _ hlr x hx, sat.hp.all _ _ hlr trivial x hx⟩) (by simpa using hap)
    refine ⟨trivial, _, w, β, upd ϕ r (ϕ r), .inl ?_, ⟨fun _ => rfl, fun _ _ => rfl, ?_, ?_, trivial, hk0, Nat.le_refl _, sat.fr⟩, fun h => by simp [stillP, convP, ho, hc] at h, fun h => by simp [growP, ho, hc] at h⟩
    · rw [hr1, hvh, hvs', Sem.run_bind, run_copy_none (P := P) w t u o.type ti.el _ _ _ _ _ _ hu hsz (by omega)]
      simp only [hk]
      rfl
    · show Holds _ _ _ (set1 (strike [r] S.A) r (.arr .dp te.pty (es.take lo ++ new.take n ++ es.drop (lo + min new.length n)) .no)) _ _ _
      rw [hes]; exact b1
    · show Bd _ _ (set1 (strike [r] S.A) r (.arr .dp te.pty (es.take lo ++ new.take n ++ es.drop (lo + min new.length n)) .no))
      rw [hes]; exact b2
  · -- cells are copied
    rcases hO with ⟨e0, _⟩ | ⟨b, f1, cs, hϕ, ⟨⟨o', cap, c', t', fr, hv, hblk, hcap, hle, hmx, hfz, hcs⟩, hlen1, hlim⟩, hS, hL⟩
    · subst e0; simp at hlo; omega
    rw [hv] at hvr
    cases hvr
    rw [if_neg (by omega)] at hvh
    simp only [Option.map_some, addr_add, hwd, Nat.mul_one] at hvh
    obtain ⟨b2, o2', cap2, c2, t2, fr2, cs2, f2, hvs2, hf2, hblk2, hS2, _, hL2, hcs2⟩ := lv_sl hLs (by omega)
    have hLv := hL.lv
    have hf1 : f1 = [] := flat_fp hLv (flatT_ty hfB _)
    have hf2' : f2 = [] := flat_fp hL2 (flatT_ty hfB _)
    subst hf1 hf2'
    have hwd' : te.pty.wd = 1 := hwd
    have fl : ∀ (l : List PV), (∀ e ∈ l, Shp te.pty e) → (flatP l).length = l.length := fun l hl => by rw [flatP_len hl, hwd', Nat.mul_one]
    have hsub : ∀ {l m : List PV}, (∀ e ∈ l ++ m, Shp te.pty e) → (∀ e ∈ l, Shp te.pty e) ∧ ∀ e ∈ m, Shp te.pty e := fun h => ⟨fun e he => h e (by simp [he]), fun e he => h e (by simp [he])⟩
    generalize hkk : min new.length n = k at *
    have hsplit : es = es.take lo ++ ((es.drop lo).take k ++ (es.drop lo).drop k) := by rw [List.take_append_drop, List.take_append_drop]
    have hl1 : (es.take lo).length = lo := by rw [List.length_take]; omega
    have hl2 : ((es.drop lo).take k).length = k := by rw [List.length_take, List.length_drop]; omega
    have hl3 : ((es.drop lo).drop k).length = es.length - (lo + k) := by rw [List.length_drop, List.length_drop]; omega
    have hS1 : (∀ e ∈ es.take lo, Shp te.pty e) ∧ (∀ e ∈ (es.drop lo).take k, Shp te.pty e) ∧ ∀ e ∈ (es.drop lo).drop k, Shp te.pty e :=
      ⟨fun e he => hS e (List.mem_of_mem_take he), fun e he => hS e (List.mem_of_mem_drop (List.mem_of_mem_take he)), fun e he => hS e (List.mem_of_mem_drop (List.mem_of_mem_drop he))⟩
    obtain ⟨v1, v23, g1, g23, rfl, hgg, hA1, hA23⟩ := hLv.split (T1 := flatT te.pty lo) (T2 := flatT te.pty (k + (es.length - (lo + k)))) (p1 := flatP (es.take lo)) (p2 := flatP ((es.drop lo).take k ++ (es.drop lo).drop k))
      (by rw [← flatT_add]; congr 1; omega) (by rw [← flatP_append, ← hsplit]) (by rw [flatT_len, hwd', fl _ hS1.1, hl1, Nat.mul_one])
    obtain ⟨v2, v3, g2, g3, rfl, hgg', hA2, hA3⟩ := hA23.split (T1 := flatT te.pty k) (T2 := flatT te.pty (es.length - (lo + k))) (p1 := flatP ((es.drop lo).take k)) (p2 := flatP ((es.drop lo).drop k))
      (by rw [← flatT_add]) (by rw [← flatP_append]) (by rw [flatT_len, hwd', fl _ hS1.2.1, hl2, Nat.mul_one])
    obtain ⟨u1, u2, m1, m2, rfl, hmm, hB1, hB2⟩ := hL2.split (T1 := flatT te.pty k) (T2 := flatT te.pty (new.length - k)) (p1 := flatP (new.take k)) (p2 := flatP (new.drop k))
      (by rw [← flatT_add]; congr 1; omega) (by rw [← flatP_append, List.take_append_drop]) (by rw [flatT_len, hwd', fl _ (fun e he => hS2 e (List.mem_of_mem_take he)), List.length_take, Nat.mul_one]; omega)
    have hg1 : g1 = [] ∧ g2 = [] ∧ g3 = [] ∧ m1 = [] := ⟨flat_fp hA1 (flatT_ty hfB _), flat_fp hA2 (flatT_ty hfB _), flat_fp hA3 (flatT_ty hfB _), flat_fp hB1 (flatT_ty hfB _)⟩
    obtain ⟨rfl, rfl, rfl, rfl⟩ := hg1
    have hn1 : v1.length = lo := by rw [hA1.lens.2, fl _ hS1.1, hl1]
    have hn2 : v2.length = k := by rw [hA2.lens.2, fl _ hS1.2.1, hl2]
    have hn3 : u1.length = k := by rw [hB1.lens.2, fl _ (fun e he => hS2 e (List.mem_of_mem_take he)), List.length_take]; omega
    have hn4 : v3.length = es.length - (lo + k) := by rw [hA3.lens.2, fl _ hS1.2.2, hl3]
    have hcu : (c2.toList.drop o2').take u1.length = u1 := by
      have := congrArg (List.take u1.length) hcs2
      rw [List.take_take, List.take_append_of_le_length (Nat.le_refl _), List.take_length] at this
      rw [List.length_append] at this
      rwa [Nat.min_eq_left (by omega)] at this
    have hct : ∃ pre post, c'.toList = pre ++ (v1 ++ (v2 ++ v3)) ++ post ∧ pre.length = o' := by
      have h2 := congrArg List.length hcs
      rw [List.length_take, List.length_drop] at h2
      simp only [Array.length_toList, List.length_append] at h2
      refine ⟨c'.toList.take o', c'.toList.drop (o' + (v1 ++ (v2 ++ v3)).length), ?_, ?_⟩
      · conv => lhs; rw [← List.take_append_drop o' c'.toList, ← List.take_append_drop (v1 ++ (v2 ++ v3)).length (c'.toList.drop o'), hcs, List.drop_drop]
        simp only [List.append_assoc]
      · rw [List.length_take, Array.length_toList]; omega
    obtain ⟨pre, post, hct, hpre⟩ := hct
    have hcsz : c'.size = pre.length + (lo + (k + (es.length - (lo + k)))) + post.length := by
      rw [← Array.length_toList, hct]; simp only [List.length_append]; omega
    have hone : ∀ v ∈ u1, v.oneCell' = true := lv_one hB1
    obtain ⟨w', r1, r2, r3, r4, r5, r6, r7⟩ := run_copyRow (P := P) (ty := o.type) (sT := u) (dLen := n) (dCap := cap0 - lo) (sLen := new.length) (sCap := cap2) (o := o' + lo) (cs := u1) hu hsz (by rw [hn3, ← hkk]) hblk2 hcu hblk (by omega) hfz.1 hone
    have hnew : (c'.toList.take (o' + lo) ++ u1 ++ c'.toList.drop (o' + lo + u1.length)) = pre ++ (v1 ++ (u1 ++ v3)) ++ post := by
      rw [hct]
      have e1 : (pre ++ (v1 ++ (v2 ++ v3)) ++ post).take (o' + lo) = pre ++ v1 := by
        rw [show pre ++ (v1 ++ (v2 ++ v3)) ++ post = (pre ++ v1) ++ (v2 ++ (v3 ++ post)) by simp only [List.append_assoc], List.take_left' (by rw [List.length_append]; omega)]
      have e2 : (pre ++ (v1 ++ (v2 ++ v3)) ++ post).drop (o' + lo + u1.length) = v3 ++ post := by
        rw [show pre ++ (v1 ++ (v2 ++ v3)) ++ post = (pre ++ v1 ++ v2) ++ (v3 ++ post) by simp only [List.append_assoc], List.drop_left' (by rw [List.length_append, List.length_append]; omega)]
      rw [e1, e2]; simp only [List.append_assoc]
    rw [hnew] at r2
    have hb1 : b ∈ X ∨ w0.heap.size ≤ b := sat.hp.own _ _ hlr b (by simp [owned, hϕ])
    have hnL : (new.take n).length = k := by rw [List.length_take]; omega
    have hnt : new.take n = new.take k := by rw [← hkk, List.take_eq_take_iff]; omega
    have hSn : ∀ e ∈ es.take lo ++ new.take n ++ es.drop (lo + k), Shp te.pty e := by
      intro e he
      simp only [List.mem_append] at he
      rcases he with (he | he) | he
      · exact hS e (List.mem_of_mem_take he)
      · exact hS2 e (List.mem_of_mem_take he)
      · exact hS e (List.mem_of_mem_drop he)
    have hlenN : (es.take lo ++ new.take n ++ es.drop (lo + k)).length = es.length := by
      simp only [List.length_append, hl1, hnL, List.length_drop]; omega
    have hnoB : ∀ {Ts : List PTy} {ps : List PV} {vs : List Value}, Lv w Ts ps vs [] → Lv w' Ts ps vs [] := fun h => h.frame (by simp)
    have hown' : OwnD w' (β r).v te.pty (es.take lo ++ new.take n ++ es.drop (lo + k)) [b] := by
      refine ownS_D hfB (.inr ⟨b, [], v1 ++ (u1 ++ v3), rfl, ⟨⟨o', cap0, (pre ++ (v1 ++ (u1 ++ v3)) ++ post).toArray, t', fr, by rw [hlenN]; exact hv, r2, ?_, by rw [hlenN]; exact hle, hmx, ?_, ?_⟩, ?_, by rw [hlenN]; exact hlim⟩, hSn, ?_⟩)
      · simp only [List.size_toArray, List.length_append] at hcap ⊢
        omega
      · exact hfz.cast (by simp only [List.size_toArray, List.length_append]; omega)
      · rw [List.toList_toArray, List.append_assoc, List.drop_left' hpre, List.take_left' rfl]
      · simp only [List.length_append, hlenN, hwd']; omega
      · have h5 := (hnoB hA1).append ((hnoB hB1).append (hnoB hA3))
        simp only [List.append_nil] at h5
        rw [hlenN, hnt, List.append_assoc, flatP_append, flatP_append]
        rw [← flatT_add, ← flatT_add, List.drop_drop] at h5
        have e9 : lo + (k + (es.length - (lo + k))) = es.length := by omega
        rw [e9] at h5
        exact h5
    have hst' : Holds w0.heap.size X F (strike [r] S.A) β ϕ w' := hst.world fun i hl hi hd x hx => r3 x fun e => hap i hl hi hd x hx (by rw [e, hϕ]; simp)
    obtain ⟨b1, b2', _⟩ := put_own (h := r) (G := []) hst' (strike_bd sat.hb [r]) hrn (fun hl' hl2 => strike_dead (by simp) hl2) hown' (by simp) (fun x hx => by rw [List.mem_singleton] at hx; subst hx; exact ⟨hb1, sat.hp.all _ _ hlr trivial x (by rw [hϕ]; simp)⟩) (by
      rw [List.append_nil]
      exact hap.mono fun x hx => by rw [hϕ]; exact hx)
    refine ⟨trivial, _, w', β, upd ϕ r [b], .inl ?_, ⟨fun _ => rfl, fun _ _ => rfl, b1, b2', trivial, hk0, Nat.le_refl _, sat.fr.store r4 r5 r6 r7 hb1 r3⟩, fun h => by simp [stillP, convP, ho, hc] at h, fun h => by simp [growP, ho, hc] at h⟩
    rw [hr1, hvh, hvs2, Sem.run_bind, r1, hn3]
    rfl
end
end Go.Proofs.YtkofjkjcbljkdaaGreatDoor
end

section
namespace Go.Proofs.YtkofjkjcbljkdaaGreatDoor
variable [LaidG]
set_option linter.unusedVariables false
section
variable {P : Program} {E : Env} {N : Nat} {w0 : World} {X F : List Nat} {S : St} {β : Nat → GV} {ϕ : Nat → List Nat} {a : Act} {w w' : World} {o : Oper} {R : RR} {A : Hp} {B : Nat}
theorem repT_flat {T : PTy} (hT : leafB T = true) : ∀ n, flatT T n = repT n T
  | 0 => rfl
  | n + 1 => by
    have h := repT_flat hT n
    have hl : T.leaves = [T] := by cases T <;> first | rfl | (simp [leafB] at hT)
    rw [repT, ← h]
    simp [flatT, List.replicate_succ, hl]
theorem repT_len (T : PTy) : ∀ n, (repT n T).length = n
  | 0 => rfl
  | n + 1 => by rw [repT, List.length_cons, repT_len T n]
theorem leafB_shp {T : PTy} (hT : leafB T = true) {es : List PV} (hS : ∀ e ∈ es, Shp T e) : flatP es = es := by
  refine flatP_leaf hS fun ts h => ?_
  subst h; simp [leafB] at hT
theorem leafB_flat {T : PTy} (hT : leafB T = true) : flatB T = true := by cases T <;> first | rfl | (simp [leafB] at hT)
theorem introL_scal (β : Nat → GV) (o : Own) (q : Nat → Pth) (m : Nat) : ∀ {ts : List PTy} {ps : List PV} {vs : List Value} {f : List Nat} (j n : Nat), (∀ t ∈ ts, leafB t = true) → Lv w ts ps vs f →
    SV.vals β (introL o q j n ts ps).1 = vs ∧ SV.oks β (introL o q j n ts ps).1 ∧ SV.lts m (introL o q j n ts ps).1 := by
  intro ts ps vs f j n ht h
  induction h generalizing j n with
  | nil => exact ⟨rfl, trivial, trivial⟩
  | int h1 _ ih =>
    obtain ⟨a1, a2, a3⟩ := ih (j + 1) n fun t ht' => ht t (by simp [ht'])
    exact ⟨by simp only [introL, SV.vals, a1]; rfl, ⟨h1, a2⟩, ⟨trivial, a3⟩⟩
  | bool _ ih =>
    obtain ⟨a1, a2, a3⟩ := ih (j + 1) n fun t ht' => ht t (by simp [ht'])
    exact ⟨by simp only [introL, SV.vals, a1]; rfl, ⟨trivial, a2⟩, ⟨trivial, a3⟩⟩
  | str h1 _ ih =>
    obtain ⟨a1, a2, a3⟩ := ih (j + 1) n fun t ht' => ht t (by simp [ht'])
    exact ⟨by simp only [introL, SV.vals, a1]; rfl, ⟨h1, a2⟩, ⟨trivial, a3⟩⟩
  | empty _ _ => exact absurd (ht _ List.mem_cons_self) (by simp [leafB])
  | list _ _ _ _ _ _ _ _ => exact absurd (ht _ List.mem_cons_self) (by simp [leafB])
theorem etaL_all : ∀ (ts : List PTy) (k : Nat) (A : List PV), A.length = k + ts.length → etaL k ts A = A.drop k
  | [], k, A, h => by rw [etaL, List.drop_eq_nil_of_le (by simp at h; omega)]
  | t :: ts, k, A, h => by
    have hk : k < A.length := by simp at h; omega
    rw [etaL, etaL_all ts (k + 1) A (by simp at h ⊢; omega), List.drop_eq_getElem_cons hk]
    simp [hk]
theorem repT_leaf {T : PTy} (hT : leafB T = true) {n : Nat} : ∀ t ∈ repT n T, leafB t = true := by
  induction n with
  | zero => simp [repT]
  | succ n ih => intro t ht; rw [repT, List.mem_cons] at ht; rcases ht with rfl | ht; exact hT; exact ih t ht
theorem run_loadArr {t : TypeId} {x : Operand} {ti : TI} {b : Nat} {t' : TypeId} {c : Array Value} (hTk : TIok P t ti) (ho : o.op = .load t x) (x3 : a.eval x = .pointer (some ⟨b, 0, none⟩)) (hblk : w.heap[b]? = some (.cells c t' (0, 0))) (hsz : c.size = ti.sz) (hA : ti.agg = true) :
    (execOp a.eval o).run P w = .ok (.value (.agg c)) w := by
  have hag := run_isAgg hTk w
  have hs := run_size hTk w
  have hlc := run_loadCells_row (P := P) b 0 ti.sz c t' (0, 0) hblk (by omega)
  rw [List.drop_zero, List.take_of_length_le (by simp; omega)] at hlc
  simp only [execOp, ho, Instr.loadAt, Instr.sureAddr, loadVar, Sem.run_bind, Sem.run_pure, Result.andThen_ok, x3, hag, hs, hA, if_true, hlc]
theorem arr_vals {T : PTy} {es : List PV} {c : Array Value} {f : List Nat} (hT : leafB T = true) (hS : ∀ e ∈ es, Shp T e) (hL : Lv w (flatT T es.length) (flatP es) c.toList f) (o : Own) (q : Nat → Pth) (m n : Nat) :
    SV.vals β (introL o q 0 n (repT es.length T) (etaL 0 (repT es.length T) es)).1 = c.toList ∧ SV.oks β (introL o q 0 n (repT es.length T) (etaL 0 (repT es.length T) es)).1 ∧ SV.lts m (introL o q 0 n (repT es.length T) (etaL 0 (repT es.length T) es)).1 ∧ c.size = es.length := by
  rw [repT_flat hT, leafB_shp hT hS] at hL
  rw [etaL_all _ 0 _ (by rw [repT_len]; omega), List.drop_zero]
  obtain ⟨a1, a2, a3⟩ := introL_scal β o q m 0 n (repT_leaf hT) hL
  have := hL.lens
  exact ⟨a1, a2, a3, by simpa using this.2⟩
theorem svInts_vals {xs : List SV} {k : IntKind} {ns : List Int} (h : svInts xs = some (k, ns)) : xs = ns.map (SV.int k) := by
  induction xs generalizing k ns with
  | nil => simp [svInts] at h
  | cons x xs ih =>
    cases x <;> simp only [svInts, reduceCtorEq] at h
    rename_i k' n
    split at h
    · rename_i hn
      cases xs with
      | nil => cases h; rfl
      | cons => simp [isNil] at hn
    · split at h
      · rename_i k'' ms h2
        split at h
        · rename_i e
          cases h
          rw [ih h2, ← e]; rfl
        · cases h
      · cases h
theorem arr_snd (hT : EnvTy P E) (hR : arrRes E S true o = some R) (sat : Sat N w0 X F S β ϕ a w) (hob : R.ob) : Snd P w0 X F S β ϕ o a w R := by
  unfold arrRes at hR
  split at hR
  · -- the address of an element
    rename_i t x i ho
    split at hR
    · rename_i g' h g'' k n ti hx hi hti
      split at hR
      · rename_i ow T es len el hl hd
        split at hR
        · rename_i te hte
          cases hR
          obtain ⟨q1, q2, q3, q4, q5⟩ := hob rfl
          obtain ⟨x1, x2⟩ := ev_sound hx sat
          obtain ⟨_, i2⟩ := ev_sound hi sat
          obtain ⟨hfb, hS, b, t', c, hv, hϕ, hblk, hL⟩ := sat.hp.sat _ _ hl
          have hu := (hT _ _ hti).und
          rw [hd] at hu
          have hsz := run_size (hT _ _ hte)
          refine snd_pure sat trivial ?_ (x1 q1) ⟨b, 0, by rw [hv]; rfl⟩
          have x3 := (x2 q1).1
          simp only [SV.val, hv] at x3 ⊢
          simp [execOp, ho, x3, (i2 q2).1, SV.val, Instr.indexAt, Instr.sureAddr, asIntOf, underlying, hu, q3, q4, hsz, addr_add]
        · cases hR
      · cases hR
    · rename_i g' q g'' k n ti hx hi hti
      split at hR
      · rename_i T es len el hg hd
        split at hR
        · rename_i te hte
          cases hR
          obtain ⟨q1, q2, q3, q4, q5, q6⟩ := hob rfl
          obtain ⟨x1, x2⟩ := ev_sound hx sat
          obtain ⟨_, i2⟩ := ev_sound hi sat
          have hu := (hT _ _ hti).und
          rw [hd] at hu
          have hsz := run_size (hT _ _ hte)
          refine snd_pure sat trivial ?_ trivial trivial
          have x3 := (x2 q1).1
          simp only [SV.val] at x3 ⊢
          simp [execOp, ho, x3, (i2 q2).1, SV.val, Instr.indexAt, Instr.sureAddr, asIntOf, underlying, hu, q3, q4, hsz, addr_add, q6]
        · cases hR
      · cases hR
    · cases hR
  · -- loads
    rename_i t x ho
    split at hR
    · rename_i g' q i ti hx hti
      split at hR
      · rename_i T es hg
        have hdat := (sat.gl.now (ms := []) sat.fr (by simp)).dat q T es hg
        obtain ⟨x1, x2⟩ := ev_sound hx sat
        split at hR
        · rename_i hA
          cases hR
          obtain ⟨q1, ql, q2, q3, q4⟩ := hob rfl
          obtain ⟨_, c, t', hblk, hfb, hS, hL⟩ := hdat ql
          subst q2
          obtain ⟨a1, a2, a3, a4⟩ := arr_vals (β := β) q3 hS hL .dp noP S.n S.n
          have x3 := (x2 q1).1
          have hs : ti.sz = es.length := by rw [TI.sz, q4, repT_len]
          have hrun := run_loadArr (w := w) (hT _ _ hti) ho x3 hblk (by rw [a4, hs]) hA
          rw [← q4] at a1 a2 a3
          refine snd_pure sat trivial ?_ a3 a2
          simp [hrun, SV.val, a1]
        · rename_i hA
          cases hR
          obtain ⟨q1, ql, q2, q3, q4⟩ := hob rfl
          obtain ⟨_, c, t', hblk, hfb, hS, hL⟩ := hdat ql
          have x3 := (x2 q1).1
          simp only [SV.val] at x3
          rw [repT_flat q3, leafB_shp q3 hS] at hL
          have hsp := List.getElem_cons_drop (h := q2) (as := es)
          have he : es = es.take i ++ (es.getD i PV.d :: es.drop (i + 1)) := by
            rw [List.getD_eq_getElem?_getD, List.getElem?_eq_getElem q2, Option.getD_some]
            rw [hsp, List.take_append_drop]
          have hr : ∀ n i, i < n → repT n T = repT i T ++ (T :: repT (n - i - 1) T) := by
            intro n i
            induction i generalizing n with
            | zero => intro hn; cases n with | zero => omega | succ n => simp [repT]
            | succ i ih => intro hn; cases n with | zero => omega | succ n => rw [repT, ih n (by omega), repT]; simp
          obtain ⟨v1, v2, f1, f2, hc, hf, h1, h2⟩ := hL.split (hr _ _ q2) he (by rw [repT_len]; simp; omega)
          obtain ⟨v, v3, f3, f4, rfl, rfl, h3, h4⟩ := h2.cons_inv
          have hl1 : v1.length = i := by have := h1.lens; rw [this.2]; simp; omega
          have hcell := cell_of_row w q i c t' (0, 0) hblk
          have hci : c[i]? = some v := by
            rw [← Array.getElem?_toList, hc, List.getElem?_append_right (by omega), hl1, Nat.sub_self]; rfl
          rw [hci] at hcell
          have hag := run_isAgg (hT _ _ hti)
          obtain ⟨a1, a2, a3⟩ := introL_scal β .dp noP S.n (ts := [T]) (ps := [es.getD i PV.d]) 0 S.n (by simpa using q3) h3
          have hhd : ∃ y, (introL .dp noP 0 S.n [T] [es.getD i PV.d]).1 = [y] := by
            cases T <;> first | exact ⟨_, rfl⟩ | (simp [leafB] at q3)
          obtain ⟨y, hy⟩ := hhd
          rw [hy] at a1 a2 a3 ⊢
          simp only [SV.vals, List.cons.injEq, and_true] at a1
          refine snd_pure sat (loadHy_sound h3) ?_ a3.1 a2.1
          have hA' : ti.agg = false := by simpa using hA
          simp only [execOp, ho, Instr.loadAt, Instr.sureAddr, loadVar, Sem.run_bind, Sem.run_pure, Result.andThen_ok, x3, hag, hA', Bool.false_eq_true, if_false, run_load, hcell, List.headD_cons, a1]
      · cases hR
    · rename_i g' h ti hx hti
      split at hR
      · rename_i ow T es hl
        split at hR
        · rename_i hA
          cases hR
          obtain ⟨q1, q3, q4⟩ := hob rfl
          obtain ⟨hfb, hS, b, t', c, hv, hϕ, hblk, hL⟩ := sat.hp.sat _ _ hl
          obtain ⟨x1, x2⟩ := ev_sound hx sat
          obtain ⟨a1, a2, a3, a4⟩ := arr_vals (β := β) q3 hS hL .dp noP S.n S.n
          have x3 := (x2 q1).1
          simp only [SV.val, hv, Nat.add_zero] at x3
          have hs : ti.sz = es.length := by rw [TI.sz, q4, repT_len]
          have hrun := run_loadArr (w := w) (hT _ _ hti) ho x3 hblk (by rw [a4, hs]) hA
          rw [← q4] at a1 a2 a3
          refine snd_pure sat trivial ?_ a3 a2
          simp [hrun, SV.val, a1]
        · cases hR
      · cases hR
    · cases hR
  · -- a whole array is stored
    rename_i t x y ho
    split at hR
    · rename_i g' h g'' v ti hx hy hti
      split at hR
      · rename_i T es hl
        split at hR
        · rename_i hA
          split at hR
          · rename_i obr ps hres
            cases hR
            obtain ⟨_, q2, q3, q4, q5, q6, q7, hd⟩ := hob
            obtain ⟨x1, x2⟩ := ev_sound hx sat
            have x3 := (x2 q2).1
            obtain ⟨y1, y2⟩ := ev_sound hy sat
            obtain ⟨y3, y4⟩ := y2 q3
            obtain ⟨fn, hnv, _⟩ := resLs_sound hres q4 sat.hp (oks_cells y4)
            have hfn : fn = [] := flat_fp hnv (by
              intro t' ht'
              rw [q6] at ht'
              have := repT_leaf q5 t' ht'
              cases t' <;> simp [leafB] at this <;> simp)
            subst hfn
            obtain ⟨hfb, hS, b, t', c, hv, hϕ, hblk, hL⟩ := sat.hp.sat _ _ hl
            simp only [SV.val, hv, Nat.add_zero] at x3
            have hs : ti.sz = es.length := by rw [TI.sz, q6, repT_len]
            have hcs : c.size = es.length := by
              rw [repT_flat q5, leafB_shp q5 hS] at hL
              have := hL.lens; simpa using this.2
            have hcl : v.cells.length = ti.sz := by
              have h1 := hnv.lens
              simp only [SV.vals_map, List.length_map] at h1
              rw [h1.2, ← h1.1]; rfl
            have hpl : ps.length = es.length := by rw [← hs]; exact (hnv.lens).1.symm
            obtain ⟨w', r1, r2, r3, r4, r5, r6, r7⟩ := run_storeEl (P := P) (β := β) (v := v) (hT _ _ hti) ho x3 y3 sat.hp.pl hcl q7 hblk (by omega) (by simp)
            have hSp : ∀ e ∈ ps, Shp T e := by
              intro e he
              have := hnv.leaves_of e he
              cases T <;> first | exact this | (simp [leafB] at q5)
            have hnew : HLSat w' (β h) β (ϕ h) (.abx true T ps) := by
              refine ⟨leafB_flat q5, hSp, b, t', _, hv, hϕ, r2, ?_⟩
              rw [repT_flat q5, leafB_shp q5 hSp, hpl, ← q6]
              have e2 : c.toList.drop (0 + ti.sz) = [] := List.drop_eq_nil_of_le (by simp; omega)
              rw [List.toList_toArray, List.take_zero, e2, List.nil_append, List.append_nil]
              exact hnv.frame (by simp)
            have hb1 : b ∈ X ∨ w0.heap.size ≤ b := sat.hp.own _ _ hl b (by simp [owned, hϕ])
            have h2 := sat.hp.redo (A' := set1 (strike [h] S.A) h (.abx true T ps)) (f := ϕ h) (hl0 := .abx true T ps) (fun j => lk_set1' _ _ _) hl hnew (fun b hb' => .inl (by simpa [owned] using hb')) (fun k _ hk => r3 k (by rw [hϕ] at hk; simpa [owned] using hk)) trivial (by simp) (by simp [roots]) (by simp) (fun _ => trivial) (fun o t cs e => by cases e)
            have hid : upd ϕ h (ϕ h) = ϕ := by funext k; unfold upd; split <;> simp_all
            rw [hid] at h2
            exact ⟨trivial, undef, w', β, ϕ, .inr ⟨r1, rfl⟩, ⟨fun hh => absurd hd hh, fun _ _ => rfl, h2, bd_put (strike_bd sat.hb _) (fun j => lk_set1' _ _ _) (sat.hb _ _ hl).1 trivial, trivial, trivial, Nat.le_refl _, sat.fr.store r4 r5 r6 r7 hb1 r3⟩, fun h => by simp [stillP, convP, ho] at h, fun h => by simp [growP, ho] at h⟩
          · cases hR
        · cases hR
      · cases hR
    · cases hR
  · -- a new array
    rename_i t ho
    split at hR
    · rename_i ti hti
      split at hR
      · rename_i len el hd
        split at hR
        · rename_i te hte
          cases hR
          obtain ⟨_, q2, q3⟩ := hob
          obtain ⟨z, hz, hzc⟩ := run_zero (hT _ _ hti) w
          have hnew : HLSat (w.alloc (.cells z.cells t (0, 0))) ⟨.pointer (some ⟨w.heap.size, 0, none⟩), [], []⟩ (upd β S.n ⟨.pointer (some ⟨w.heap.size, 0, none⟩), [], []⟩) [w.heap.size] (.abx true te.pty (repP len (zeroLf te.pty))) := by
            have hz1 : ∀ e ∈ repP len (zeroLf te.pty), Shp te.pty e := by
              intro e he
              rw [repP, List.mem_replicate] at he
              obtain ⟨_, rfl⟩ := he
              generalize te.pty = T at q2
              cases T <;> first | (intro qs; simp [zeroLf]; done) | (simp [leafB] at q2)
            refine ⟨leafB_flat q2, hz1, w.heap.size, t, z.cells, rfl, rfl, heap_alloc_new w _, ?_⟩
            have hlen : (repP len (zeroLf te.pty)).length = len := by simp [repP]
            rw [repT_flat q2, leafB_shp q2 hz1, hlen, hzc, q3]
            generalize te.pty = T at q2
            simp only [repP, List.toList_toArray]
            have key : ∀ (w : World) n, Lv w (repT n T) (List.replicate n (zeroLf T)) ((repT n T).map zeroV) [] := by
              intro w n
              induction n with
              | zero => exact .nil
              | succ n ih =>
                rw [repT, List.replicate_succ, List.map_cons]
                cases T with
                | int k => exact .int (by simp [inR]; cases k <;> decide) ih
                | bool => exact .bool ih
                | str => exact .str (Nat.zero_le _) ih
                | _ => simp [leafB] at q2
            exact key _ _
          refine ⟨trivial, _, _, _, _, .inl ?_, ⟨fun _ => rfl, fun h hh => upd_lt _ _ _ hh, sat.hp.addNew sat.hb sat.fr (fun b hb => alloc_old w _ hb) rfl hnew (by simp) trivial rfl trivial, hb_add sat.hb trivial, Nat.lt_succ_self _, ?_, Nat.le_succ _, sat.fr.alloc _⟩, fun h => by simp [stillP, convP, ho] at h, fun _ => (Fr.refl _ _).alloc _⟩
          · simp only [execOp, ho, Instr.alloc, newVar, newRow, Sem.run_bind, Sem.run_pure, run_newObj, Result.andThen_ok, hz, SV.val, upd_eq]
            rfl
          · exact ⟨w.heap.size, 0, by simp [upd_eq]⟩
        · cases hR
      · cases hR
    · cases hR
  · -- an array of values
    rename_i t parts ho
    split at hR
    · rename_i ti ob vs hti hvs
      split at hR
      · rename_i len el hd
        split at hR
        · rename_i te hte
          cases hR
          obtain ⟨q1, q2, q3, q4, q5⟩ := hob
          replace q1 := q1 rfl
          obtain ⟨v1, v2⟩ := evs_sound hvs sat
          replace v1 := v1 rfl q1
          obtain ⟨v3, v4⟩ := v2 rfl q1
          obtain ⟨z, hz, hzc⟩ := run_zero (hT _ _ hti) w
          have hu := run_und (hT _ _ hti) w
          rw [hd] at hu
          have hsz := run_size (hT _ _ hte) w
          rw [q4] at hsz
          have hparts : (parts.map fun (i, x) => (i, a.eval x)).toList = (idxs parts.toList).zip (SV.vals β vs) := by
            rw [Array.toList_map, ← v3]
            exact parts_map parts.toList a.eval
          have hio : ∀ l : List (Nat × Operand), (idxs l).length = l.length ∧ (oprs l).length = l.length := by
            intro l
            induction l with
            | nil => exact ⟨rfl, rfl⟩
            | cons p l ih => obtain ⟨i, x⟩ := p; simp [idxs, oprs, ih]
          have hlen : (SV.vals β vs).length = len := by
            have h1 := congrArg List.length v3
            have h2 := congrArg List.length q2
            rw [List.length_map, (hio _).2] at h1
            rw [(hio _).1, List.length_range] at h2
            rw [← h1, h2]
          have hone : ∀ v ∈ SV.vals β vs, v.cells = #[v] := fun v hv => cells_of_one (vals_one sat.hp.pl q3 v hv)
          have hzl : z.cells.toList.length = len := by rw [hzc]; simp; exact q5
          have hfl : ∀ l : List Value, (∀ v ∈ l, v.cells = #[v]) → (l.flatMap fun v => v.cells.toList) = l := by
            intro l hl
            induction l with
            | nil => rfl
            | cons v l ih => rw [List.flatMap_cons, hl v (by simp), ih fun u hu => hl u (by simp [hu])]; rfl
          have hfill := fill_all 1 (SV.vals β vs) 0 z.cells.toList (fun v hv => by rw [hone v hv]; rfl) (by rw [hzl, hlen]; omega)
          rw [hlen, ← List.range_eq_range', Nat.zero_mul, List.take_zero, List.nil_append, hfl _ hone] at hfill
          refine snd_pure sat trivial ?_ v1 v4
          simp only [execOp, ho, Instr.build, Sem.run_bind, hz, Result.andThen_ok, hu, hsz, hparts, q2]
          simp only [Array.toArray_toList] at hfill
          rw [hfill]
          simp [SV.val]
        · cases hR
      · cases hR
    · cases hR
  · -- an element of an array
    rename_i t x i ho
    split at hR
    · rename_i g' xs g'' k' n ti hx hi hti
      split at hR
      · rename_i len el k ns hd hns
        split at hR
        · rename_i te hte
          cases hR
          obtain ⟨q1, q2, q3, q4, q5, q6, q7⟩ := hob rfl
          obtain ⟨x1, x2⟩ := ev_sound hx sat
          obtain ⟨_, i2⟩ := ev_sound hi sat
          obtain ⟨x3, x4⟩ := x2 q1
          have hxs := svInts_vals hns
          subst hxs
          have hu := (hT _ _ hti).und
          rw [hd] at hu
          have hsz := run_size (hT _ _ hte)
          have hag := run_isAgg (hT _ _ hte)
          have hlt : n.toNat < ns.length := by omega
          refine snd_pure sat trivial ?_ trivial ?_
          · have hc : (SV.vals β (ns.map (SV.int k)))[n.toNat]? = some (.int k (ns[n.toNat]?.getD 0)) := by
              rw [SV.vals_map, List.map_map, List.getElem?_map, List.getElem?_eq_getElem hlt]
              rfl
            simp only [SV.val] at x3
            simp [execOp, ho, x3, (i2 q2).1, SV.val, Instr.index, asIntOf, underlying, hu, q3, q4, hsz, q6, part, hag, q7, hc]
          · have := SV.oks_iff.1 x4 (.int k (ns.getD n.toNat 0)) (by
              rw [List.mem_map]
              refine ⟨_, ?_, rfl⟩
              rw [List.getD_eq_getElem?_getD, List.getElem?_eq_getElem hlt]
              exact List.getElem_mem hlt)
            exact this
        · cases hR
      · cases hR
    · cases hR
  · cases hR
theorem arr_skip (hR : arrRes E S false o = some R) (hob : R.ob) : R.A = S.A ∧ R.n = S.n := by
  unfold arrRes at hR
  (repeat' split at hR) <;> first | (cases hR; done) | (cases hR; exact ⟨rfl, rfl⟩) | (cases hR; exact absurd hob.1 (by simp))
end
end Go.Proofs.YtkofjkjcbljkdaaGreatDoor
end

section
namespace Go.Proofs.YtkofjkjcbljkdaaGreatDoor
variable [LaidG]
set_option linter.unusedVariables false
section
variable {P : Program} {E : Env} {N : Nat} {w0 : World} {X F : List Nat} {S : St} {β : Nat → GV} {ϕ : Nat → List Nat} {a : Act} {w w' : World} {o : Oper} {R : RR}
def rdCall (E : Env) (S : St) (o : Op) : Prop :=
  match o with
  | .call c => (match c.callee with
    | .value f => (match S.ev f, evs S true c.args.toList with
      | some (_, .fn f _), some (_, vs) => (match findFn E.fn f (closes vs) with | some s => allRd s.args = true | none => False)
      | _, _ => False)
    | _ => False)
  | _ => False
def Wps (P : Program) (E : Env) (w0 : World) (X F : List Nat) (S : St) (β : Nat → GV) (ϕ : Nat → List Nat) (o : Oper) (a : Act) (w : World) (R : RR) : Prop :=
  R.hy ∧ ∀ (next : Act → World → Prop) (Q : Exit → Act → World → Prop), (∀ v w' β' ϕ', Post w0 X F S R β ϕ o.dst v w' β' ϕ' → (growP o.op ∨ rdCall E S o.op → Fr w [] w') → next (a.put o.dst v) w') → o.wp P a w next Q
def calls (o : Op) : Bool := match o with | .call c => (match c.callee with | .value _ => true | _ => false) | _ => false
theorem op_snd0 (hE : EnvOk P E) (hc : calls o.op = false) (hR : opRes0 E S true o = some R) (sat : Sat N w0 X F S β ϕ a w) (hob : R.ob) : Snd P w0 X F S β ϕ o a w R := by
  have hT := hE.ty
  cases ho : o.op with
  | move x => exact s_move ho hR sat hob
  | assign x => exact s_assign hT ho hR sat hob
  | pick c x y => exact s_pick ho hR sat hob
  | box t x => exact s_box hT ho hR sat hob
  | alloc t => exact s_alloc hT ho hR sat hob
  | load t x => exact s_load hT ho hR sat hob
  | store t x y => exact s_store hT ho hR sat hob
  | fieldAddr t x f => exact s_fieldAddr hT ho hR sat hob
  | indexAddr t x i => exact s_indexAddr hT ho hR sat hob
  | index t x i => exact s_index hT ho hR sat hob
  | binOp op t x y t2 => exact s_binOp hT ho hR sat hob
  | unOp op t x => exact s_unOp ho hR sat hob
  | nilCheck x => exact s_nilCheck ho hR sat hob
  | convert t1 t2 x => exact s_convert hT ho hR sat hob
  | build t ps => exact s_build hT ho hR sat hob
  | buildSlice t n ps => exact s_buildSlice hT ho hR sat hob
  | makeSlice t l c => exact s_makeSlice hT ho hR sat hob
  | slice t x lo hi mx => exact s_slice hT ho hR sat hob
  | makeFunc f xs ys => exact s_makeFunc ho hR sat hob
  | extract x i => exact s_extract ho hR sat hob
  | call c =>
    rw [ho] at hc
    unfold opRes0 at hR
    rw [ho] at hR
    simp only at hR
    split at hR
    · rename_i b hc
      split at hR
      · rename_i ob vs hvs
        cases b with
        | len => exact s_len hT ho hc hvs hR sat hob
        | append => exact s_append hT ho hc hvs hR sat hob
        | min => exact s_minmax (.inl rfl) ho hc hvs hR sat hob
        | max => exact s_minmax (.inr rfl) ho hc hvs hR sat hob
        | copy => exact s_copy hT ho hc hvs hR sat hob
        | _ => simp [builtinRes] at hR
      · cases hR
    · rename_i f hcc
      simp [calls, hcc] at hc
    · cases hR
  | _ => unfold opRes0 at hR; rw [ho] at hR; simp at hR
theorem op_sound0 (hE : EnvOk P E) (hR : opRes0 E S true o = some R) (sat : Sat N w0 X F S β ϕ a w) (hob : R.ob) : Wps P E w0 X F S β ϕ o a w R := by
  cases hc : calls o.op with
  | false =>
    obtain ⟨h1, v, w', β', ϕ', h2, h3, _, h4⟩ := op_snd0 hE hc hR sat hob
    refine ⟨h1, fun next Q hn => h2.wp (hn _ _ _ _ h3 fun h => ?_)⟩
    rcases h with h | h
    · exact h4 h
    · exfalso
      unfold rdCall at h
      unfold calls at hc
      split at h
      · rename_i c ho
        rw [ho] at hc
        simp only at hc
        split at h
        · rename_i f hcc; rw [hcc] at hc; cases hc
        · exact h
      · exact h
  | true =>
    unfold calls at hc
    split at hc
    · rename_i c ho
      split at hc
      · rename_i f hcc
        unfold opRes0 at hR
        rw [ho] at hR
        simp only at hR
        rw [hcc] at hR
        simp only at hR
        split at hR
        · rename_i g' fid caps ob vs hf hvs
          split at hR
          · rename_i R0 hcr
            cases hR
            obtain ⟨q1, q2⟩ := hob
            obtain ⟨h1, h2⟩ := s_call hE ho hcc hf (q1 rfl).1 hvs (q1 rfl).2 hcr q2 sat
            refine ⟨h1, fun next Q hn => h2 next Q fun v w' β' ϕ' hp hfr => hn v w' β' ϕ' ⟨hp.v, hp.bt, hp.hp, hp.hb, hp.lt, hp.ok, hp.n, hp.fr⟩ fun h => ?_⟩
            rcases h with h | h
            · simp [ho, growP, hcc] at h
            · simp only [ho, rdCall, hcc, hf, hvs] at h
              split at h
              · rename_i s hs; exact hfr s hs h
              · exact h.elim
          · cases hR
        · cases hR
      · cases hc
    · cases hc
theorem introL_calm (o : Own) (q : Nat → Pth) : ∀ (j n : Nat) (Ts : List PTy) (ps : List PV), (introL o q j n Ts ps).2.1 = [] → (introL o q j n Ts ps).2.2 = n := by
  intro j n Ts
  induction Ts generalizing n j with
  | nil => intro ps _; simp [introL]
  | cons t ts ih =>
    intro ps h
    cases ps with
    | nil => cases t <;> simp [introL]
    | cons p ps =>
      cases t <;> simp only [introL, List.append_eq_nil_iff, reduceCtorEq, and_false] at h ⊢ <;> exact ih _ _ _ h
theorem introV_calm (o : Own) (q : Nat → Pth) (j n : Nat) (T : PTy) (p : PV) (h : (introV o q j n T p).2.1 = []) : (introV o q j n T p).2.2 = n := by
  cases T <;> exact introL_calm o q j n _ _ h
theorem introVs_calm (o : Own) : ∀ (Ts : List PTy) (n : Nat) (ps : List PV), (introVs o n Ts ps).2.1 = [] → (introVs o n Ts ps).2.2 = n := by
  intro Ts
  induction Ts with
  | nil => intro n ps _; simp [introVs]
  | cons t ts ih =>
    intro n ps h
    cases ps with
    | nil => simp [introVs]
    | cons p ps =>
      simp only [introVs, List.append_eq_nil_iff] at h ⊢
      rw [ih _ _ h.1, introV_calm _ _ _ _ _ _ h.2]
theorem isNil_of {α : Type} {l : List α} (h : isNil l = false → false = true) : l = [] := by
  cases l with
  | nil => rfl
  | cons a l => exact absurd (h rfl) (by simp)
theorem op_skip0 (hR : opRes0 E S false o = some R) (hob : R.ob) : R.A = S.A ∧ R.n = S.n := by
  cases ho : o.op with
  | call c =>
    unfold opRes0 at hR
    rw [ho] at hR
    simp only at hR
    split at hR
    · split at hR
      · rename_i b _ _ _ _
        unfold builtinRes at hR
        split at hR
        all_goals (try (simp only [reduceCtorEq] at hR))
        · (repeat' split at hR) <;> first | (cases hR; done) | (cases hR; exact ⟨rfl, rfl⟩)
        · (repeat' split at hR) <;> first | (cases hR; done) | (cases hR; exact ⟨rfl, rfl⟩)
        · split at hR
          · unfold appRes at hR
            (repeat' split at hR) <;> first | (cases hR; done) | (cases hR; exact absurd hob.1 (by simp))
          · cases hR
        · unfold copyRes at hR
          (repeat' split at hR) <;> first | (cases hR; done) | (cases hR; exact absurd hob.1 (by simp))
        · cases hR; exact ⟨rfl, rfl⟩
        · cases hR; exact ⟨rfl, rfl⟩
      · cases hR
    · split at hR
      · split at hR
        · rename_i R0 hcr
          cases hR
          obtain ⟨_, q2⟩ := hob
          unfold callRes at hcr
          split at hcr
          · cases hcr
          · split at hcr
            · cases hcr
            · split at hcr
              · cases hcr
                obtain ⟨_, k1, _⟩ := q2
                have e1 := isNil_of k1
                exact ⟨by simp only [callRd, e1, List.nil_append], introVs_calm _ _ _ _ e1⟩
              · split at hcr
                · split at hcr
                  · simp only [callPt] at hcr
                    (repeat' split at hcr) <;> first | (cases hcr; done) | (cases hcr; exact absurd q2.1 (by simp))
                  · cases hcr
                    exact absurd q2.1 (by simp)
                · cases hcr
                  exact absurd q2.1 (by simp)
        · cases hR
      · cases hR
    · cases hR
  | load t x =>
    unfold opRes0 at hR
    rw [ho] at hR
    simp only at hR
    split at hR
    · split at hR
      · split at hR
        · split at hR
          · cases hR; exact ⟨rfl, rfl⟩
          · split at hR
            · cases hR; exact ⟨rfl, rfl⟩
            · cases hR
        · cases hR
      · cases hR
    · split at hR
      · split at hR
        · cases hR
          exact absurd hob.1 (by simp)
        · cases hR
      · split at hR
        · cases hR
          obtain ⟨_, q⟩ := hob
          have e : (introV _ _ _ S.n _ _).2.1 = [] := Classical.byContradiction fun h => absurd (q h) (by simp)
          exact ⟨by simp [e], introV_calm _ _ _ _ _ _ e⟩
        · cases hR
      · split at hR
        · cases hR
          exact ⟨rfl, rfl⟩
        · cases hR
      · cases hR
    · cases hR
  | convert a b x =>
    unfold opRes0 at hR
    rw [ho] at hR
    simp only at hR
    split at hR
    · unfold convRes at hR
      (repeat' split at hR) <;> first | (cases hR; done) | (cases hR; exact ⟨rfl, rfl⟩) | (cases hR; exact absurd hob.1 (by simp)) | (cases hR; cases hob; done)
    · cases hR
  | slice t x lo hi mx =>
    unfold opRes0 at hR
    rw [ho] at hR
    simp only at hR
    split at hR
    · unfold sliceRes at hR
      (repeat' split at hR) <;> first | (cases hR; done) | (cases hR; exact ⟨rfl, rfl⟩) | (cases hR; exact absurd hob.1 (by simp)) | (cases hR; cases hob; done)
    · cases hR
  | makeFunc fn xs ys =>
    unfold opRes0 at hR
    rw [ho] at hR
    cases fn <;> simp only at hR <;> (repeat' split at hR) <;> first | (cases hR; done) | (cases hR; exact ⟨rfl, rfl⟩)
  | _ =>
    unfold opRes0 at hR
    rw [ho] at hR
    simp only at hR
    (repeat' split at hR) <;> first | (cases hR; done) | (cases hR; exact ⟨rfl, rfl⟩) | (cases hR; exact absurd hob.1 (by simp)) | (cases hR; cases hob; done)
theorem opRes_or {g : Bool} (h : opRes E S g o = some R) : opRes0 E S g o = some R ∨ arrRes E S g o = some R := by
  unfold opRes at h
  split at h
  · rename_i R' h'; cases h; exact .inl h'
  · exact .inr h
theorem arr_calls {g : Bool} (h : arrRes E S g o = some R) : calls o.op = false := by
  unfold arrRes at h
  unfold calls
  split at h <;> first | (rename_i ho; rw [ho]; done) | (rename_i ho; rw [ho]) | (cases h; done) | skip
theorem op_snd (hE : EnvOk P E) (hc : calls o.op = false) (hR : opRes E S true o = some R) (sat : Sat N w0 X F S β ϕ a w) (hob : R.ob) : Snd P w0 X F S β ϕ o a w R := by
  rcases opRes_or hR with h | h
  · exact op_snd0 hE hc h sat hob
  · exact arr_snd hE.ty h sat hob
theorem op_sound (hE : EnvOk P E) (hR : opRes E S true o = some R) (sat : Sat N w0 X F S β ϕ a w) (hob : R.ob) : Wps P E w0 X F S β ϕ o a w R := by
  rcases opRes_or hR with h | h
  · exact op_sound0 hE h sat hob
  · have hc := arr_calls h
    obtain ⟨h1, v, w', β', ϕ', h2, h3, _, h4⟩ := arr_snd hE.ty h sat hob
    refine ⟨h1, fun next Q hn => h2.wp (hn _ _ _ _ h3 fun h => ?_)⟩
    rcases h with h | h
    · exact h4 h
    · exfalso
      unfold rdCall at h
      unfold calls at hc
      split at h
      · rename_i c ho
        rw [ho] at hc
        simp only at hc
        split at h
        · rename_i f hcc; rw [hcc] at hc; cases hc
        · exact h
      · exact h
theorem op_skip (hR : opRes E S false o = some R) (hob : R.ob) : R.A = S.A ∧ R.n = S.n := by
  rcases opRes_or hR with h | h
  · exact op_skip0 h hob
  · exact arr_skip h hob
end
end Go.Proofs.YtkofjkjcbljkdaaGreatDoor
end

section
namespace Go.Proofs.YtkofjkjcbljkdaaGreatDoor
variable [LaidG]
set_option linter.unusedVariables false
inductive KI where
  | code (c : Code)
  | run (all l : List Oper)
  | blk (id : Nat)
  | post (p : St → Prop)
def csz : Code → Nat
  | .seq a b => csz a + csz b + 2
  | .cond _ a b => csz a + csz b + 1
  | .block _ b => csz b + 3
  | .loop b => csz b + 1
  | .scope b => csz b + 1
  | .rangeFunc _ _ a b => csz a + csz b + 1
  | .region _ ops _ => ops.toList.length + 2
  | _ => 1
def ksz : List KI → Nat
  | [] => 0
  | .code c :: k => csz c + ksz k + 1
  | .run _ l :: k => l.length + ksz k + 1
  | _ :: k => ksz k + 1
def unwd (id : Nat) : List KI → Option (List KI)
  | [] => none
  | .blk i :: k => if i = id then some k else unwd id k
  | _ :: k => unwd id k
theorem unwd_sz {id : Nat} : ∀ {k k' : List KI}, unwd id k = some k' → ksz k' ≤ ksz k
  | [], _, h => by cases h
  | .blk i :: k, k', h => by
    simp only [unwd] at h
    split at h
    · cases h; simp [ksz]
    · have := unwd_sz h; simp only [ksz]; omega
  | .code c :: k, k', h => by have := unwd_sz (k := k) h; simp only [ksz]; omega
  | .run _ _ :: k, k', h => by have := unwd_sz (k := k) h; simp only [ksz]; omega
  | .post _ :: k, k', h => by have := unwd_sz (k := k) h; simp only [ksz]; omega
def dstOk (N : Nat) (keep : List Nat) (g : Bool) : Option Nat → Prop
  | none => True
  | some d => d < N ∧ (keep.contains d = true → g = true)
def putS (keep : List Nat) (S : St) (g : Bool) (dst : Option Nat) (R : RR) : St :=
  match dst with
  | none => { Lp := S.Lp, Lt := S.Lt, A := R.A, n := R.n }
  | some d => if keep.contains d then { Lp := set1 S.Lp d R.sv, Lt := S.Lt, A := R.A, n := R.n } else { Lp := S.Lp, Lt := (d, g, R.sv) :: S.Lt, A := R.A, n := R.n }
structure Cx where
  P : Program
  E : Env
  N : Nat
  w0 : World
  X : List Nat
  F : List Nat
  keep : List Nat
  n0 : Nat
  β0 : Nat → GV
  Q : Exit → Act → World → Prop
  fin : St → Prop
def Kp (keep : List Nat) (S : St) : Prop := (∀ t v, lk S.Lp t = some v → keep.contains t = true) ∧ (∀ t x, lk S.Lt t = some x → keep.contains t = false)
def At (C : Cx) (S : St) (a : Act) (w : World) : Prop :=
  Kp C.keep S ∧ C.n0 ≤ S.n ∧ ∃ β ϕ, Sat C.N C.w0 C.X C.F S β ϕ a w ∧ ∀ h, h < C.n0 → β h = C.β0 h
structure Cx.Ok (C : Cx) : Prop where
  env : EnvOk C.P C.E
  mix : C.P.follows .mixedOrders = true
  fin : ∀ S a w, At C S a w → C.fin S → C.Q .normal a w ∧ C.Q .ret a w
  pan : ∀ c a d v w, C.Q (.panic c) (a.put d v) w → C.Q (.panic c) a w
def xt (C : Cx) : List KI → Exit → Act → World → Prop
  | [] => C.Q
  | .code c :: k => Exit.then (c.wp C.P (xt C k)) (xt C k)
  | .run all l :: k => Exit.then (wpList C.P all.toArray (xt C k) l) (xt C k)
  | .blk id :: k => Exit.inBlock id (xt C k)
  | .post p :: k => Exit.then (fun a w => ∃ S, At C S a w ∧ p S) (xt C k)
def WP (C : Cx) (k : List KI) (S : St) : Prop := ∀ a w, At C S a w → xt C k .normal a w
theorem xt_ret {C : Cx} {a : Act} {w : World} : ∀ {k : List KI}, C.Q .ret a w → xt C k .ret a w
  | [], h => h
  | .code c :: k, h => xt_ret (k := k) h
  | .run _ _ :: k, h => xt_ret (k := k) h
  | .blk _ :: k, h => xt_ret (k := k) h
  | .post _ :: k, h => xt_ret (k := k) h
theorem xt_exit {C : Cx} {id : Nat} {a : Act} {w : World} : ∀ {k k' : List KI}, unwd id k = some k' → xt C k' .normal a w → xt C k (.exit id) a w
  | [], k', h, _ => by cases h
  | .code c :: k, k', h, hx => xt_exit (k := k) h hx
  | .run _ _ :: k, k', h, hx => xt_exit (k := k) h hx
  | .post _ :: k, k', h, hx => xt_exit (k := k) h hx
  | .blk i :: k, k', h, hx => by
    simp only [unwd] at h
    simp only [xt, Exit.inBlock]
    split at h
    · rename_i e; cases h; subst e; rw [if_pos rfl]; exact hx
    · rename_i e; rw [if_neg (Ne.symm e)]; exact xt_exit h hx
section
variable {C : Cx} {S : St} {a : Act} {w : World} {o : Oper} {R : RR} {g : Bool} {all l : List Oper} {k : List KI}
theorem guard_sound {β : Nat → GV} {ϕ : Nat → List Nat} {N : Nat} {w0 : World} {X F : List Nat} (h : guardOf S all o.guard = some g) (sat : Sat N w0 X F S β ϕ a w) : Region.wanted o (yielded all.toArray a.tmps) = g := by
  unfold Region.wanted
  unfold guardOf at h
  split at h
  · rename_i hg; rw [hg]; cases h; rfl
  · rename_i j wt hg
    rw [hg]
    simp only
    split at h
    · rename_i o' ho'
      split at h
      · rename_i d hd
        split at h
        · rename_i g' x hs
          cases h
          obtain ⟨_, s2, s3⟩ := slot_sound hs sat
          have hy : ((all.toArray[j]?).bind (·.dst)).bind (a.tmps[·]?) = a.tmps[d]? := by simp [ho', hd]
          unfold yielded
          rw [hy]
          cases g' with
          | true => rw [(s2 rfl).1]; cases wt <;> cases x <;> simp [SV.val]
          | false => rw [s3 rfl]; simp [undef]
        · cases h
      · cases h
    · cases h
theorem at_taken {β : Nat → GV} {ϕ : Nat → List Nat} {β' : Nat → GV} {ϕ' : Nat → List Nat} {v : Value} {w' : World} (kp : Kp C.keep S) (hn : C.n0 ≤ S.n) (sat : Sat C.N C.w0 C.X C.F S β ϕ a w) (h0 : ∀ h, h < C.n0 → β h = C.β0 h)
    (hd : dstOk C.N C.keep true o.dst) (hp : Post C.w0 C.X C.F S R β ϕ o.dst v w' β' ϕ') : At C (putS C.keep S true o.dst R) (a.put o.dst v) w' := by
  have hval : ∀ x, SV.lt S.n x → SV.val β' x = SV.val β x := fun x hx => SV.val_congr hp.bt x hx
  have h0' : ∀ h, h < C.n0 → β' h = C.β0 h := fun h hh =>
    (hp.bt h (Nat.lt_of_lt_of_le hh hn)).trans (h0 h hh)
  have oldp : ∀ t v, lk S.Lp t = some v → a.tmps[t]? = some (SV.val β' v) ∧ SV.lt R.n v ∧ SV.ok β' v := by
    intro t v ht
    obtain ⟨q1, q2, q3⟩ := sat.lp t v ht
    exact ⟨by rw [hval v q2]; exact q1, SV.lt_mono hp.n v q2, SV.ok_congr hp.bt v q2 q3⟩
  have oldt : ∀ t g v, lk S.Lt t = some (g, v) → (g = true → SV.lt R.n v) ∧ (g = true → a.tmps[t]? = some (SV.val β' v) ∧ SV.ok β' v) ∧ (g = false → a.tmps[t]? = some undef) := by
    intro t g v ht
    obtain ⟨q1, q2, q3⟩ := sat.lt t g v ht
    exact ⟨fun hg => SV.lt_mono hp.n v (q1 hg), fun hg => ⟨by rw [hval v (q1 hg)]; exact (q2 hg).1, SV.ok_congr hp.bt v (q1 hg) (q2 hg).2⟩, q3⟩
  cases hdst : o.dst with
  | none =>
    exact ⟨kp, Nat.le_trans hn hp.n, β', ϕ', ⟨sat.df, sat.sz, oldp, oldt, hp.hp, hp.hb, hp.fr, sat.gl⟩, h0'⟩
  | some d =>
    rw [hdst] at hd
    obtain ⟨hdN, _⟩ := hd
    have hv := hp.v (by rw [hdst]; simp)
    have hget : (a.put (some d) v).tmps[d]? = some (SV.val β' R.sv) := by
      simp only [Act.put]; rw [Array.getElem?_setIfInBounds_self_of_lt (by rw [sat.sz]; exact hdN), hv]
    have hoth : ∀ t, d ≠ t → (a.put (some d) v).tmps[t]? = a.tmps[t]? := fun t ht => by
      simp only [Act.put]; exact Array.getElem?_setIfInBounds_ne ht
    have hsz : (a.put (some d) v).tmps.size = C.N := by simp only [Act.put, Array.size_setIfInBounds]; exact sat.sz
    by_cases hk : C.keep.contains d = true
    · simp only [putS, hk, if_true]
      refine ⟨⟨?_, ?_⟩, Nat.le_trans hn hp.n, β', ϕ', ⟨sat.df, hsz, ?_, ?_, hp.hp, hp.hb, hp.fr, sat.gl⟩, h0'⟩
      · intro t u ht
        simp only [lk_set1] at ht
        split at ht
        · rename_i e; subst e; exact hk
        · exact kp.1 t u ht
      · exact kp.2
      · intro t u ht
        simp only [lk_set1] at ht
        split at ht
        · rename_i e; subst e; cases ht; exact ⟨hget, hp.lt, hp.ok⟩
        · rename_i e; rw [hoth t e]; exact oldp t u ht
      · intro t g u ht
        have : d ≠ t := fun e => by subst e; have := kp.2 _ _ ht; rw [hk] at this; cases this
        rw [hoth t this]; exact oldt t g u ht
    · simp only [putS, hk, Bool.false_eq_true, if_false]
      refine ⟨⟨kp.1, ?_⟩, Nat.le_trans hn hp.n, β', ϕ', ⟨sat.df, hsz, ?_, ?_, hp.hp, hp.hb, hp.fr, sat.gl⟩, h0'⟩
      · intro t u ht
        simp only [lk] at ht
        split at ht
        · rename_i e; subst e; simpa using hk
        · exact kp.2 t u ht
      · intro t u ht
        have : d ≠ t := fun e => by subst e; exact hk (kp.1 _ _ ht)
        rw [hoth t this]; exact oldp t u ht
      · intro t g u ht
        simp only [lk] at ht
        split at ht
        · rename_i e; subst e; cases ht
          exact ⟨fun _ => hp.lt, fun _ => ⟨hget, hp.ok⟩, fun h => by cases h⟩
        · rename_i e; rw [hoth t e]; exact oldt t g u ht
theorem at_skipped {β : Nat → GV} {ϕ : Nat → List Nat} (kp : Kp C.keep S) (hn : C.n0 ≤ S.n) (sat : Sat C.N C.w0 C.X C.F S β ϕ a w) (h0 : ∀ h, h < C.n0 → β h = C.β0 h)
    (hd : dstOk C.N C.keep false o.dst) (hA : R.A = S.A) (hRn : R.n = S.n) : At C (putS C.keep S false o.dst R) (a.put o.dst undef) w := by
  cases hdst : o.dst with
  | none =>
    simp only [putS, hA, hRn]
    exact ⟨kp, hn, β, ϕ, ⟨sat.df, sat.sz, sat.lp, sat.lt, sat.hp, sat.hb, sat.fr, sat.gl⟩, h0⟩
  | some d =>
    rw [hdst] at hd
    obtain ⟨hdN, hk⟩ := hd
    have hk : C.keep.contains d = false := by
      cases h : C.keep.contains d with
      | false => rfl
      | true => exact absurd (hk h) (by simp)
    have hget : (a.put (some d) undef).tmps[d]? = some undef := by
      simp only [Act.put]; rw [Array.getElem?_setIfInBounds_self_of_lt (by rw [sat.sz]; exact hdN)]
    have hoth : ∀ t, d ≠ t → (a.put (some d) undef).tmps[t]? = a.tmps[t]? := fun t ht => by
      simp only [Act.put]; exact Array.getElem?_setIfInBounds_ne ht
    have hsz : (a.put (some d) undef).tmps.size = C.N := by simp only [Act.put, Array.size_setIfInBounds]; exact sat.sz
    simp only [putS, hk, Bool.false_eq_true, if_false, hA, hRn]
    refine ⟨⟨kp.1, ?_⟩, hn, β, ϕ, ⟨sat.df, hsz, ?_, ?_, sat.hp, sat.hb, sat.fr, sat.gl⟩, h0⟩
    · intro t u ht
      simp only [lk] at ht
      split at ht
      · rename_i e; subst e; exact hk
      · exact kp.2 t u ht
    · intro t u ht
      have : d ≠ t := fun e => by subst e; have := kp.1 _ _ ht; rw [hk] at this; cases this
      rw [hoth t this]; exact sat.lp t u ht
    · intro t g u ht
      simp only [lk] at ht
      split at ht
      · rename_i e; subst e; cases ht
        exact ⟨fun h => (by cases h), fun h => (by cases h), fun _ => hget⟩
      · rename_i e; rw [hoth t e]; exact sat.lt t g u ht
theorem kp_lt (kp : Kp C.keep S) : Kp C.keep { S with Lt := [] } := ⟨kp.1, fun t x h => (by cases h)⟩
theorem at_lt (h : At C S a w) : At C { S with Lt := [] } a w := by
  obtain ⟨kp, hn, β, ϕ, sat, h0⟩ := h
  exact ⟨kp_lt kp, hn, β, ϕ, ⟨sat.df, sat.sz, sat.lp, fun t g v h => (by cases h), sat.hp, sat.hb, sat.fr, sat.gl⟩, h0⟩
end
end Go.Proofs.YtkofjkjcbljkdaaGreatDoor
end

