/-
  A function keeps its contract if its code's conditions hold.
  Conditions: the contracts of the called functions hold.
-/
import Derived.Test.YtmjjdfhpnckacabRun
namespace Go.Proofs.Ytmjjdfhpnckacab
set_option linter.unusedVariables false

/-- The values in the result variables. -/
def lkAll (E : Env) (S : St) : List ResultVar → Option (List SV)
  | [] => some []
  | .tmp t :: ts => match lk S.Lp t, lkAll E S ts with | some x, some xs => some (x :: xs) | _, _ => none
  | .cell t ty :: ts => match lk S.Lp t, lkAll E S ts with
    | some (.ptr h 0), some xs => (match lk S.A h, lk E.ty ty with
      | some (.box _ _ cs), some ti => if ti.agg && cs.length == ti.sz then some (.agg cs :: xs) else none
      | _, _ => none)
    | _, _ => none

def numb : Nat → List SV → List (Nat × SV)
  | _, [] => []
  | i, x :: xs => (i, x) :: numb (i + 1) xs

/-- The values now in the arguments that may be changed. -/
def resMs (A : Hp) : List (Md × PTy) → List SV → Option (Prop × List PV)
  | (.mt, t) :: ts, x :: xs => match resB A t x, resMs A ts xs with | some (o, p), some (o', ps) => some (o ∧ o', p :: ps) | _, _ => none
  | (.rd, _) :: ts, _ :: xs => resMs A ts xs
  | (.ow, _) :: ts, _ :: xs => resMs A ts xs
  | (.bx, .box l) :: ts, .ptr h 0 :: xs => (match lk A h with
    | some (.box true _ cs) => (match resLs A l cs, resMs A ts xs with | some (o, p), some (o', ps) => some ((o ∧ cs.length = l.length) ∧ o', .agg p :: ps) | _, _ => none)
    | _ => none)
  | (.bx, .abx T) :: ts, .ptr h 0 :: xs => (match lk A h with
    | some (.abx true T' es) => (match resMs A ts xs with | some (o', ps) => some (T' = T ∧ o', .list es :: ps) | none => none)
    | _ => none)
  | [], [] => some (True, [])
  | _, _ => none

def retOk : List PTy → Prop
  | [] => True
  | .agg _ :: ts => retOk ts
  | .int _ :: ts => retOk ts
  | .bool :: ts => retOk ts
  | .str :: ts => retOk ts
  | .list _ :: ts => retOk ts
  | _ :: _ => False

def mtTy : List (Md × PTy) → Prop
  | [] => True
  | (.mt, .agg _) :: ts => mtTy ts
  | (.mt, .list _) :: ts => mtTy ts
  | (.mt, _) :: _ => False
  | _ :: ts => mtTy ts

/-- The slices of the changed arguments. -/
def bxCs (A : Hp) : SV → List SV
  | .ptr h _ => (match lk A h with | some (.box _ _ cs) => cs | _ => [])
  | _ => []
def mtSls (A : Hp) : List (Md × PTy) → List SV → List Nat
  | (.mt, _) :: ts, x :: xs => slsOf x.cells ++ mtSls A ts xs
  | (.bx, _) :: ts, x :: xs => slsOf (bxCs A x) ++ mtSls A ts xs
  | _ :: ts, _ :: xs => mtSls A ts xs
  | _, _ => []
/-- with the pointers -/
def mtHs (A : Hp) : List (Md × PTy) → List SV → List Nat
  | (.mt, _) :: ts, x :: xs => slsOf x.cells ++ mtHs A ts xs
  | (.bx, _) :: ts, .ptr h _ :: xs => h :: (slsOf (bxCs A (.ptr h 0)) ++ mtHs A ts xs)
  | _ :: ts, _ :: xs => mtHs A ts xs
  | _, _ => []

/-- New memory is given back. -/
def finFr (s : FSpec) (xs xs0 : List SV) (ps : List PV) (A : Hp) : Prop :=
  match resBs A s.ret xs, resMs A s.args xs0 with
  | some (o, rs), some (o', qs) => o ∧ rs = s.res ps ∧ o' ∧ qs = s.out ps ∧ dpAll A (slsAll xs ++ mtSls A s.args xs0) = true
  | _, _ => False

/-- The state at the end gives what the contract says. -/
def finOf (E : Env) (outs : List ResultVar) (s : FSpec) (xs0 : List SV) (ps : List PV) (S : St) : Prop :=
  match lkAll E S outs with
  | none => False
  | some xs => retOk s.ret ∧
      (if s.fresh then mtTy s.args ∧ ndB (slsAll xs ++ mtHs (proms S.A (slsAll xs ++ mtSls S.A s.args xs0)) s.args xs0) = true ∧ finFr s xs xs0 ps (proms S.A (slsAll xs ++ mtSls S.A s.args xs0))
      else allRd s.args = true ∧ (match resBs S.A s.ret xs with | some (o, rs) => o ∧ rs = s.res ps | none => False))

section
variable {P : Program} {E : Env} {N : Nat} {w0 : World} {X F : List Nat} {S : St} {β : Nat → GV} {ϕ : Nat → List Nat} {a : Act} {w w' : World} {o : Oper} {R : RR} {A : Hp} {B : Nat}

theorem resB_own {T : PTy} {x : SV} {ob : Prop} {p : PV} (h : resB A T x = some (ob, p)) (hob : ob) (hp : Holds B X F A β ϕ w) (hk : SV.ok β x) (ho : dpAll A (slsOf x.cells) = true) (hT : retOk [T]) :
    RetV w T p (SV.val β x) ((slsOf x.cells).map ϕ).flatten := by
  have lists : ∀ {us : List PTy} {ys : List SV} {o : Prop} {rs : List PV}, resLs A us ys = some (o, rs) → o → SV.oks β ys → dpAll A (slsOf ys) = true → LoD w us rs (SV.vals β ys) (fsOf ϕ ys) := by
    intro us ys o rs q1 q2 q3 q4
    refine resLs_own q1 q2 q3 fun h hh o T es p hA => ?_
    obtain ⟨T', es', p', e⟩ := dpB_iff.1 (dpAll_iff.1 q4 h hh)
    rw [hA] at e; cases e
    exact hp.sat _ _ hA
  have leaf : ∀ (h' : resL A T x = some (ob, p)), (x.cells = [x]) → ∃ fs, LoD w [T] [p] [SV.val β x] fs ∧ ((slsOf x.cells).map ϕ).flatten = fs.flatten := by
    intro h' hc
    rw [hc] at ho ⊢
    exact ⟨_, lists (us := [T]) (ys := [x]) (o := ob ∧ True) (rs := [p]) (by simp [resLs, h']) ⟨hob, trivial⟩ ⟨hk, trivial⟩ ho, by rw [fsOf_flat]⟩
  cases T with
  | agg ts =>
    cases x with
    | agg xs =>
      simp only [resB] at h
      split at h
      · rename_i o ps hps
        simp only [Option.some.injEq, Prod.mk.injEq] at h
        obtain ⟨rfl, rfl⟩ := h
        exact ⟨ps, _, _, rfl, rfl, lists hps hob hk ho, by rw [fsOf_flat]; rfl⟩
      · cases h
    | _ => simp [resB, resL] at h
  | box ts => exact hT.elim
  | abx t => exact hT.elim
  | fn g ts => exact hT.elim
  | opq => exact hT.elim
  | int k => cases x <;> first | (simp [resB, resL] at h; done) | exact leaf (by simpa [resB] using h) rfl
  | bool => cases x <;> first | (simp [resB, resL] at h; done) | exact leaf (by simpa [resB] using h) rfl
  | str => cases x <;> first | (simp [resB, resL] at h; done) | exact leaf (by simpa [resB] using h) rfl
  | list T => cases x <;> first | (simp [resB, resL] at h; done) | exact leaf (by simpa [resB] using h) rfl

theorem retOk_cons {t : PTy} {ts : List PTy} (h : retOk (t :: ts)) : retOk [t] ∧ retOk ts := by
  cases t <;> first | exact ⟨trivial, h⟩ | exact h.elim

theorem dpAll_append {l l' : List Nat} : dpAll A (l ++ l') = true ↔ dpAll A l = true ∧ dpAll A l' = true := by
  simp only [dpAll_iff, List.mem_append]
  exact ⟨fun h => ⟨fun i hi => h i (.inl hi), fun i hi => h i (.inr hi)⟩, fun h i hi => hi.elim (h.1 i) (h.2 i)⟩

theorem resBs_own : ∀ {ts : List PTy} {xs : List SV} {ob : Prop} {ps : List PV}, resBs A ts xs = some (ob, ps) → ob → Holds B X F A β ϕ w → SV.oks β xs → dpAll A (slsAll xs) = true → retOk ts →
    RetVs w ts ps (SV.vals β xs) ((slsAll xs).map ϕ).flatten
  | [], [], ob, ps, h, hob, hp, hk, ho, hT => by cases h; exact .nil
  | [], x :: xs, ob, ps, h, hob, hp, hk, ho, hT => by cases h
  | t :: ts, [], ob, ps, h, hob, hp, hk, ho, hT => by cases h
  | t :: ts, x :: xs, ob, ps, h, hob, hp, hk, ho, hT => by
    simp only [resBs] at h
    split at h
    · rename_i o1 p o2 qs h1 h2
      cases h
      obtain ⟨hT1, hT2⟩ := retOk_cons hT
      simp only [slsAll, dpAll_append] at ho
      simp only [slsAll, List.map_append, List.flatten_append, SV.vals]
      exact .cons (resB_own h1 hob.1 hp hk.1 ho.1 hT1) (resBs_own h2 hob.2 hp hk.2 ho.2 hT2)
    · cases h

theorem RetV.arg {t : PTy} {p : PV} {v : Value} {f : List Nat} (h : RetV w t p v f) (ht : (∃ ts, t = .agg ts) ∨ ∃ T, t = .list T) : ArgM w t p v f := by
  rcases ht with ⟨ts, rfl⟩ | ⟨T, rfl⟩
  · exact h
  · obtain ⟨fs, hL, rfl⟩ := h
    cases hL with
    | list hO hr => cases hr; exact ⟨_, rfl, by simpa using hO⟩

theorem resMs_own {w' : World} : ∀ {ts : List (Md × PTy)} {xs : List SV} {ob : Prop} {ps : List PV}, resMs A ts xs = some (ob, ps) → ob → Holds B X F A β ϕ w → SV.oks β xs → (∀ i o t cs, lk A i = some (.box o t cs) → SV.oks β cs) → dpAll A (mtSls A ts xs) = true → mtTy ts → OldX w' β ts xs →
    OutV w' w ts ps (SV.vals β xs) ((mtHs A ts xs).map ϕ).flatten ∧ ∀ h ∈ mtHs A ts xs, Lent A ϕ h
  | [], [], ob, ps, h, hob, hp, hk, hbx, ho, hT, hX => by cases h; exact ⟨.nil, by simp [mtHs]⟩
  | [], x :: xs, ob, ps, h, hob, hp, hk, hbx, ho, hT, hX => by cases h
  | (m, t) :: ts, [], ob, ps, h, hob, hp, hk, hbx, ho, hT, hX => by cases m <;> (try cases h) <;> cases t <;> cases h
  | (m, t) :: ts, x :: xs, ob, ps, h, hob, hp, hk, hbx, ho, hT, hX => by
    cases m with
    | rd =>
      obtain ⟨r1, r2⟩ := resMs_own (ts := ts) (xs := xs) h hob hp hk.2 hbx ho (by cases t <;> exact hT) hX
      exact ⟨.rd r1, r2⟩
    | ow =>
      obtain ⟨r1, r2⟩ := resMs_own (ts := ts) (xs := xs) h hob hp hk.2 hbx ho (by cases t <;> exact hT) hX
      exact ⟨.ow r1, r2⟩
    | bx =>
      have hT2 : mtTy ts := by cases t <;> exact hT
      cases t with
      | box l =>
        cases x with
        | ptr i off =>
          cases off with
          | zero =>
            simp only [resMs] at h
            split at h
            case h_2 => cases h
            rename_i tt cs hA
            split at h
            case h_2 => cases h
            rename_i o1 p o2 qs h1 h2
            simp only [Option.some.injEq, Prod.mk.injEq] at h
            obtain ⟨rfl, rfl⟩ := h
            simp only [mtSls, bxCs, hA, dpAll_append] at ho
            obtain ⟨r1, r2⟩ := resMs_own h2 hob.2 hp hk.2 hbx ho.2 hT2 hX.2
            obtain ⟨b, t', hb, hϕ, hblk⟩ := hp.sat _ _ hA
            obtain ⟨b2, t2, cs0, hb2, hblk2, hl0⟩ := hX.1
            have : b2 = b := by
              rw [hb] at hb2; simp only [Value.pointer.injEq, Option.some.injEq, Addr.mk.injEq] at hb2; exact hb2.1.symm
            subst this
            have hLo : LoD w l p (SV.vals β cs) (fsOf ϕ cs) := resLs_own h1 hob.1.1 (hbx _ _ _ _ hA) fun h hh o T es p' hA' => by
              obtain ⟨T', es', p2, e⟩ := dpB_iff.1 (dpAll_iff.1 ho.1 h hh)
              rw [e] at hA'; cases hA'
              exact hp.sat _ _ e
            constructor
            · have hx : OutX w' w (.box l) (.agg p) (SV.val β (.ptr i 0)) (b2 :: (fsOf ϕ cs).flatten) :=
                ⟨p, cs0, SV.vals β cs, fsOf ϕ cs, b2, t2, t', (β i).pre, (β i).post, rfl, by simp [SV.val, hb], hblk2, hl0, hblk, hLo, rfl⟩
              have := OutV.bx hx r1
              simp only [mtHs, bxCs, hA, List.map_append, List.map_cons, List.flatten_append, List.flatten_cons, hϕ, ← fsOf_flat, List.cons_append, List.append_assoc, List.nil_append, SV.vals] at this ⊢
              exact this
            · intro h hh
              simp only [mtHs, bxCs, hA, List.mem_cons, List.mem_append] at hh
              rcases hh with rfl | hh | hh
              · exact ⟨_, hA, by simp, rfl, by rw [hϕ]; simp, rfl⟩
              · exact lent_dp hp (dpAll_iff.1 ho.1 h hh)
              · exact r2 h hh
          | succ n => simp [resMs] at h
        | _ => simp [resMs] at h
      | abx T =>
        cases x with
        | ptr i off =>
          cases off with
          | zero =>
            simp only [resMs] at h
            split at h
            case h_2 => cases h
            rename_i T' es hA
            split at h
            case h_2 => cases h
            rename_i o2 qs h2
            simp only [Option.some.injEq, Prod.mk.injEq] at h
            obtain ⟨rfl, rfl⟩ := h
            simp only [mtSls, bxCs, hA, slsOf, List.nil_append] at ho
            obtain ⟨r1, r2⟩ := resMs_own h2 hob.2 hp hk.2 hbx ho hT2 hX.2
            have := hob.1
            subst this
            obtain ⟨g1, g2, b, t', c, hv, hϕ, hblk, hL⟩ := hp.sat _ _ hA
            constructor
            · have hx : OutX w' w (.abx T') (.list es) (SV.val β (.ptr i 0)) [b] := ⟨es, b, t', c, rfl, by simp [SV.val, hv], hblk, g1, g2, hL, rfl⟩
              have := OutV.bx hx r1
              simp only [mtHs, bxCs, hA, slsOf, List.map_cons, List.flatten_cons, hϕ, List.nil_append, SV.vals] at this ⊢
              exact this
            · intro h hh
              simp only [mtHs, bxCs, hA, slsOf, List.nil_append, List.mem_cons] at hh
              rcases hh with rfl | hh
              · exact ⟨_, hA, by simp, rfl, by rw [hϕ]; simp, rfl⟩
              · exact r2 h hh
          | succ n => simp [resMs] at h
        | _ => simp [resMs] at h
      | _ => cases x <;> simp [resMs] at h
    | mt =>
      simp only [resMs] at h
      split at h
      · rename_i o1 p o2 qs h1 h2
        cases h
        simp only [mtSls, dpAll_append] at ho
        have ht : (∃ ts, t = .agg ts) ∨ ∃ T, t = .list T := by cases t <;> first | exact hT.elim | exact .inl ⟨_, rfl⟩ | exact .inr ⟨_, rfl⟩
        have hT1 : retOk [t] := by rcases ht with ⟨ts, rfl⟩ | ⟨T, rfl⟩ <;> trivial
        have hT2 : mtTy ts := by cases t <;> first | exact hT.elim | exact hT
        obtain ⟨r1, r2⟩ := resMs_own h2 hob.2 hp hk.2 hbx ho.2 hT2 hX
        constructor
        · simp only [mtHs, List.map_append, List.flatten_append, SV.vals]
          exact .mt ((resB_own h1 hob.1 hp hk.1 ho.1 hT1).arg ht) r1
        · intro h hh
          simp only [mtHs, List.mem_append] at hh
          rcases hh with hh | hh
          · exact lent_dp hp (dpAll_iff.1 ho.1 h hh)
          · exact r2 h hh
      · cases h

/-- Results that may share memory. -/
theorem resB_ret {T : PTy} {x : SV} {ob : Prop} {p : PV} (h : resB A T x = some (ob, p)) (hob : ob) (hp : Holds B X F A β ϕ w) (hk : SV.ok β x) (hT : retOk [T]) :
    ∃ f, RetN w T p (SV.val β x) f ∧ ∀ b ∈ f, b ∈ F ∨ B ≤ b := by
  have lists : ∀ {us : List PTy} {ys : List SV} {o : Prop} {rs : List PV}, resLs A us ys = some (o, rs) → o → SV.oks β ys → ∃ f, Lv w us rs (SV.vals β ys) f ∧ ∀ b ∈ f, b ∈ F ∨ B ≤ b := by
    intro us ys o rs q1 q2 q3
    obtain ⟨f, q4, q5⟩ := resLs_sound q1 q2 hp q3
    refine ⟨f, q4, fun b hb => ?_⟩
    obtain ⟨i, hi, hl, e1, e2, e3⟩ := q5 b hb
    obtain ⟨hl', e4, e5⟩ := resLs_isA q1 i hi
    rw [e1] at e4; cases e4
    exact hp.all i hl e1 e5.isA b e3
  have leaf : ∀ (h' : resL A T x = some (ob, p)), ∃ f, Lv w [T] [p] [SV.val β x] f ∧ ∀ b ∈ f, b ∈ F ∨ B ≤ b := fun h' =>
    lists (us := [T]) (ys := [x]) (o := ob ∧ True) (rs := [p]) (by simp [resLs, h']) ⟨hob, trivial⟩ ⟨hk, trivial⟩
  cases T with
  | agg ts =>
    cases x with
    | agg xs =>
      simp only [resB] at h
      split at h
      · rename_i o ps hps
        simp only [Option.some.injEq, Prod.mk.injEq] at h
        obtain ⟨rfl, rfl⟩ := h
        obtain ⟨f, q1, q2⟩ := lists hps hob hk
        exact ⟨f, ⟨ps, _, rfl, rfl, q1⟩, q2⟩
      · cases h
    | _ => simp [resB, resL] at h
  | box ts => exact hT.elim
  | abx t => exact hT.elim
  | fn g ts => exact hT.elim
  | opq => exact hT.elim
  | int k => cases x <;> first | (simp [resB, resL] at h; done) | exact leaf (by simpa [resB] using h)
  | bool => cases x <;> first | (simp [resB, resL] at h; done) | exact leaf (by simpa [resB] using h)
  | str => cases x <;> first | (simp [resB, resL] at h; done) | exact leaf (by simpa [resB] using h)
  | list T => cases x <;> first | (simp [resB, resL] at h; done) | exact leaf (by simpa [resB] using h)

theorem resBs_ret : ∀ {ts : List PTy} {xs : List SV} {ob : Prop} {ps : List PV}, resBs A ts xs = some (ob, ps) → ob → Holds B X F A β ϕ w → SV.oks β xs → retOk ts →
    ∃ f, RetNs w ts ps (SV.vals β xs) f ∧ ∀ b ∈ f, b ∈ F ∨ B ≤ b
  | [], [], ob, ps, h, hob, hp, hk, hT => by cases h; exact ⟨[], .nil, by simp⟩
  | [], x :: xs, ob, ps, h, hob, hp, hk, hT => by cases h
  | t :: ts, [], ob, ps, h, hob, hp, hk, hT => by cases h
  | t :: ts, x :: xs, ob, ps, h, hob, hp, hk, hT => by
    simp only [resBs] at h
    split at h
    · rename_i o1 p o2 qs h1 h2
      cases h
      obtain ⟨hT1, hT2⟩ := retOk_cons hT
      obtain ⟨f, q1, q2⟩ := resB_ret h1 hob.1 hp hk.1 hT1
      obtain ⟨g, q3, q4⟩ := resBs_ret h2 hob.2 hp hk.2 hT2
      exact ⟨f ++ g, .cons q1 q3, fun b hb => (List.mem_append.1 hb).elim (q2 b) (q4 b)⟩
    · cases h

theorem lkAll_run (hE : EnvTy P E) (sat : Sat N w0 X F S β ϕ a w) (g : ResultVar → Sem Value) (hg : ∀ t, g (.tmp t) = pure (a.tmps.getD t undef)) (hc : ∀ t ty, g (.cell t ty) = asAddr (a.tmps.getD t undef) >>= fun x => loadVar ty x) :
    ∀ {outs : List ResultVar} {xs : List SV}, lkAll E S outs = some xs → (outs.mapM g).run P w = .ok (SV.vals β xs) w ∧ SV.oks β xs ∧ SV.lts S.n xs ∧ xs.length = outs.length
  | [], xs, h => by cases h; exact ⟨rfl, trivial, trivial, rfl⟩
  | .tmp t :: ts, xs, h => by
    simp only [lkAll] at h
    split at h
    · rename_i x ys hx hy
      cases h
      obtain ⟨h1, h2, h3, h4⟩ := lkAll_run hE sat g hg hc hy
      obtain ⟨q1, q2, q3⟩ := sat.lp t x hx
      refine ⟨?_, ⟨q3, h2⟩, ⟨q2, h3⟩, by simp [h4]⟩
      simp only [List.mapM_cons, Sem.run_bind, Sem.run_pure, Result.andThen_ok, h1, hg, SV.vals, Array.getD_eq_getD_getElem?, q1, Option.getD_some]
    · cases h
  | .cell t ty :: ts, xs, h => by
    simp only [lkAll] at h
    split at h
    · rename_i i ys hx hy
      split at h
      · rename_i ow bt cs ti hl hti
        split at h
        · rename_i hcond
          cases h
          simp only [Bool.and_eq_true, beq_iff_eq] at hcond
          obtain ⟨hA, hlen⟩ := hcond
          obtain ⟨h1, h2, h3, h4⟩ := lkAll_run hE sat g hg hc hy
          obtain ⟨q1, q2, b, oo, hb⟩ := sat.lp t _ hx
          obtain ⟨b', bt', hb', hϕ, hold⟩ := sat.hp.sat _ _ hl
          rw [hb] at hb'
          simp only [Value.pointer.injEq, Option.some.injEq, Addr.mk.injEq, and_true] at hb'
          obtain ⟨rfl, rfl⟩ := hb'
          simp only [SV.val, hb, Nat.add_zero] at q1
          obtain ⟨k1, k2⟩ := (sat.hb _ _ hl).2
          have hag := run_isAgg (hE _ _ hti)
          have hsz := run_size (hE _ _ hti)
          have hcl : (SV.vals β cs).length = cs.length := by simp [SV.vals_map]
          have hlc := run_loadCells_row (P := P) b ((β i).pre.length + 0) ti.sz _ bt' (0, 0) hold (by simp [hcl, hlen])
          rw [List.toList_toArray, mid_take _ _ _ (by rw [hcl]; omega)] at hlc
          have hall : ((SV.vals β cs).drop 0).take ti.sz = SV.vals β cs := by
            rw [List.drop_zero, List.take_of_length_le (by simp [SV.vals_map, hlen])]
          simp only [hall, Nat.add_zero] at hlc
          refine ⟨?_, ⟨k2, h2⟩, ⟨k1, h3⟩, by simp [h4]⟩
          simp only [List.mapM_cons, Sem.run_bind, Sem.run_pure, Result.andThen_ok, h1, hc, SV.vals, SV.val, Array.getD_eq_getD_getElem?, q1, Option.getD_some, asAddr, loadVar, hag, hsz, hA, if_true, hlc]
        · cases h
      · cases h
    · cases h

theorem results_run {fn : Func} {outs : List ResultVar} (h : fn.results = outs.toArray) (tmps : Array Value) (w : World) (g : ResultVar → Sem Value) (hg : ∀ t, g (.tmp t) = pure (tmps.getD t undef)) (hc : ∀ t ty, g (.cell t ty) = asAddr (tmps.getD t undef) >>= fun x => loadVar ty x)
    {vs : List Value} (hv : (outs.mapM g).run P w = .ok vs w) (hlen : vs.length = outs.length) : (results fn tmps).run P w = .ok (packR vs) w := by
  have hgg : ∀ g' : ResultVar → Sem Value, (∀ t, g' (.tmp t) = pure (tmps.getD t undef)) → (∀ t ty, g' (.cell t ty) = asAddr (tmps.getD t undef) >>= fun x => loadVar ty x) → outs.mapM g' = outs.mapM g := by
    intro g' h1 h2
    have : g' = g := by
      funext r
      cases r with
      | tmp t => rw [h1, hg]
      | cell a t => rw [h2, hc]
    rw [this]
  unfold results
  rw [h, List.mapM_toArray]
  simp only [Sem.run_bind, Sem.run_map, Result.andThen_ok]
  rw [hgg _ (fun _ => rfl) (fun _ _ => rfl), hv]
  simp only [Result.andThen_ok, Sem.run_pure]
  match vs with
  | [] => rfl
  | [x] => rfl
  | x :: y :: l => simp [packR]

theorem lk_numb : ∀ {xs : List SV} {i t : Nat} {v : SV}, lk (numb i xs) t = some v → i ≤ t ∧ xs[t - i]? = some v
  | [], i, t, v, h => by cases h
  | x :: xs, i, t, v, h => by
    simp only [numb, lk] at h
    split at h
    · rename_i e; subst e; cases h; simp
    · rename_i e
      obtain ⟨h1, h2⟩ := lk_numb h
      refine ⟨by omega, ?_⟩
      rw [show t - i = (t - (i + 1)) + 1 by omega]
      simpa using h2

theorem ArgsV.lens {ts : List (Md × PTy)} {ps : List PV} {vs : List Value} {f fl ms : List Nat} (h : ArgsV w ts ps vs f fl ms) : ts.length = vs.length := by
  induction h with
  | nil => rfl
  | rd _ _ ih => simp [ih]
  | mt _ _ ih => simp [ih]
  | ow _ _ ih => simp [ih]
  | bx _ _ ih => simp [ih]

theorem ArgsV.rdms {ts : List (Md × PTy)} {ps : List PV} {vs : List Value} {f fl ms : List Nat} (h : ArgsV w ts ps vs f fl ms) (hr : allRd ts = true) : ms = [] := by
  induction h with
  | nil => rfl
  | rd _ _ ih => exact ih hr
  | mt _ _ _ => simp [allRd] at hr
  | ow _ _ _ => simp [allRd] at hr
  | bx _ _ _ => simp [allRd] at hr

/-- A function keeps its contract if its code's conditions hold. -/
theorem meets_of_vc {fid : FuncId} {fn : Func} {c : Code} {s : FSpec} {keep : List Nat} {outs : List ResultVar} (G : (List KI → St → Prop) → Prop) (hG : ∀ C : Cx, C.Ok → C.P = P → C.N = fn.ntmps → C.keep = keep → G (WP C)) (hE : EnvOk P E) (hm : P.follows .mixedOrders = true) (hf : P.funcs[fid]? = some fn) (hb : fn.body = some c)
    (hr : fn.results = outs.toArray) (hp : s.args.length ≤ fn.ntmps) (hkeep : ∀ i, i < s.args.length → keep.contains i = true)
    (h : ∀ ps, TyA s.args ps → s.pre ps → ∀ W, Rules E fn.ntmps keep (introTs 0 s.args ps).2.2 (finOf E outs s (introTs 0 s.args ps).1 ps) W → G W →
      W [.code c] ⟨numb 0 (introTs 0 s.args ps).1, [], (introTs 0 s.args ps).2.1, (introTs 0 s.args ps).2.2⟩) : Meets P fid s := by
  intro w ps vs fs fl ms hA hnd hdis hpre
  have h0 : Holds w.heap.size ms (fl ++ ms) [] (fun _ => ⟨Value.bool false, [], []⟩) (fun _ => []) w :=
    ⟨fun _ => rfl, fun _ _ h => (by cases h), fun _ _ h => (by cases h), fun _ _ h => (by cases h), fun _ _ h => (by cases h), fun _ _ _ _ h => (by cases h), fun _ _ h => (by cases h), fun _ _ h => (by cases h)⟩
  obtain ⟨β, ϕ, ⟨e1, e2, e3, e4, e5, e6, e7, e8, e9⟩, hold⟩ := introTs_sound s.args ps vs fs fl ms 0 [] _ _ hA h0 (fun i hl h => (by cases h)) rfl (fun b hb hm => hdis b hm hb) (fun b hb => by simp [hb]) (fun b hb => ⟨hb, by simp [hb]⟩) hnd (fun i hl h => (by cases h))
  have hlen := hA.lens
  have hlen2 : (introTs 0 s.args ps).1.length = vs.length := by rw [← e5, SV.vals_map]; simp
  let fin := finOf E outs s (introTs 0 s.args ps).1 ps
  let Rr : Ending → World → Prop := fun e w' => ∃ rvs, e = .returned (packR rvs) ∧ Done w s ps vs fl ms rvs w'
  let C : Cx := ⟨P, E, fn.ntmps, w, ms, fl ++ ms, keep, (introTs 0 s.args ps).2.2, β, bodyPost P fn Rr, fin⟩
  have hfin : ∀ S a w', At C S a w' → fin S → a.defers = [] ∧ ∃ v, (results fn a.tmps).run P w' = .ok v w' ∧ Rr (.returned v) w' := by
    intro S a w' hat hS
    obtain ⟨kp, hn, β1, ϕ1, sat, hsame⟩ := hat
    unfold fin finOf at hS
    split at hS
    · exact hS.elim
    · rename_i xs hxs
      obtain ⟨hret, hS⟩ := hS
      let g : ResultVar → Sem Value := fun r => match r with | .tmp t => pure (a.tmps.getD t undef) | .cell t ty => asAddr (a.tmps.getD t undef) >>= fun x => loadVar ty x
      obtain ⟨v1, v2, v3, v4⟩ := lkAll_run hE.ty sat g (fun _ => rfl) (fun _ _ => rfl) hxs
      refine ⟨sat.df, _, results_run hr a.tmps w' g (fun _ => rfl) (fun _ _ => rfl) v1 (by simp [SV.vals_map, v4]), _, rfl, sat.fr, ?_⟩
      have hsame1 : SV.vals β1 (introTs 0 s.args ps).1 = vs := by
        rw [SV.vals_congr (fun k hk => hsame k hk) _ e6]; exact e5
      have hok1 : SV.oks β1 (introTs 0 s.args ps).1 := SV.oks_congr (fun k hk => hsame k hk) _ e6 e7
      cases hfs : s.fresh with
      | true =>
        rw [hfs] at hS
        simp only [if_true] at hS
        obtain ⟨f0, f1, f2⟩ := hS
        obtain ⟨ϕ2, p1, p2, _⟩ := proms_sound (slsAll xs ++ mtSls S.A s.args (introTs 0 s.args ps).1) sat.hp sat.hb
        unfold finFr at f2
        split at f2
        · rename_i o rs o' qs hrs hqs
          obtain ⟨g1, g2, g3, g4, g5⟩ := f2
          obtain ⟨g6, g7⟩ := dpAll_append.1 g5
          have hR := resBs_own hrs g1 p1 v2 g6 hret
          obtain ⟨hO, hLt⟩ := resMs_own (w' := w) hqs g3 p1 hok1 (fun i o t cs hi => (p2 _ _ hi).2.2) g7 f0 (hold.congr hsame e6)
          rw [hsame1, g4] at hO
          rw [g2] at hR
          have hLents : ∀ h ∈ slsAll xs ++ mtHs (proms S.A (slsAll xs ++ mtSls S.A s.args (introTs 0 s.args ps).1)) s.args (introTs 0 s.args ps).1, Lent (proms S.A (slsAll xs ++ mtSls S.A s.args (introTs 0 s.args ps).1)) ϕ2 h := by
            intro h hh
            rcases List.mem_append.1 hh with hh | hh
            · exact lent_dp p1 (dpAll_iff.1 g6 h hh)
            · exact hLt h hh
          refine .inl ⟨rfl, _, _, hR, hO, ?_, ?_⟩
          · rw [← List.flatten_append, ← List.map_append]
            exact lents_nodup p1 hLents (ndB_iff.1 f1)
          · rw [← List.flatten_append, ← List.map_append]
            intro b hb
            obtain ⟨i, hi, hl, e1, e2⟩ := lents_own hLents b hb
            exact p1.own i _ e1 b e2
        · exact f2.elim
      | false =>
        rw [hfs] at hS
        simp only [Bool.false_eq_true, if_false] at hS
        obtain ⟨f1, f2⟩ := hS
        split at f2
        · rename_i o rs hrs
          obtain ⟨g1, g2⟩ := f2
          obtain ⟨f, q1, q2⟩ := resBs_ret hrs g1 sat.hp v2 hret
          rw [g2] at q1
          have hms := hA.rdms f1
          refine .inr ⟨rfl, f1, f, q1, fun b hb => ?_⟩
          have := q2 b hb
          have hF : C.F = fl ++ ms := rfl
          rw [hF, hms, List.append_nil] at this
          exact this
        · exact f2.elim
  have hC : C.Ok := ⟨hE, hm, fun S a w' hat hS => ⟨hfin S a w' hat hS, hfin S a w' hat hS⟩, fun c a d v w h => ⟨by have h1 := h.1; cases d <;> exact h1, h.2⟩⟩
  refine calls_of_wp hf hb ?_
  have hW := h ps hA.ty hpre (WP C) (rules_wp hC) (hG C hC rfl rfl rfl)
  refine hW _ w ⟨⟨?_, fun t x h => (by cases h)⟩, Nat.le_refl _, β, ϕ, ⟨rfl, ?_, ?_, fun t g v h => (by cases h), by simpa using e1, (by simpa using e2 : Bd _ _ _), Fr.refl _ _⟩, fun h _ => rfl⟩
  · intro t v ht
    obtain ⟨h1, h2⟩ := lk_numb ht
    obtain ⟨h3, _⟩ := List.getElem?_eq_some_iff.1 h2
    exact hkeep t (by simp only [Nat.sub_zero] at h3; omega)
  · show (vs.toArray ++ Array.replicate (fn.ntmps - vs.toArray.size) undef).size = fn.ntmps
    simp; omega
  · intro t v ht
    obtain ⟨_, h2⟩ := lk_numb ht
    simp only [Nat.sub_zero] at h2
    have hm1 := List.mem_of_getElem? h2
    refine ⟨?_, SV.lts_iff.1 e6 v hm1, SV.oks_iff.1 e7 v hm1⟩
    obtain ⟨h3, _⟩ := List.getElem?_eq_some_iff.1 h2
    show (vs.toArray ++ Array.replicate (fn.ntmps - vs.toArray.size) undef)[t]? = _
    rw [Array.getElem?_append_left (by simp; omega)]
    rw [← e5, SV.vals_map]
    simp [h2]

end
def fldsOf : TypeDesc → List (Nat × Nat)
  | .struct fs => fs.toList.map fun f => (f.offset, f.type)
  | _ => []

def aggOf : TypeDesc → Bool
  | .struct _ => true
  | .array _ _ => true
  | _ => false

def lfB : PTy → Bool
  | .agg _ => false
  | .fn _ _ => false
  | _ => true

theorem tiok_mk {P : Program} {t : TypeId} {ti : TI} {i : TypeInfo} {z : Value} (h1 : P.underlying t = some ti.d) (h2 : P.info? t = some i) (h3 : i.size = ti.sz) (h4 : i.bytes = ti.bytes) (h5 : i.zero = some z)
    (h6 : z.cells = (ti.leaves.map zeroV).toArray) (h7 : ti.agg = aggOf ti.d) (h8 : ti.flds = fldsOf ti.d) (h9 : (ti.flds.all fun f => (P.info? f.2).isSome) = true) (h10 : 0 < ti.sz) (h11 : 0 < ti.bytes) (h12 : ti.agg = false → ti.sz = 1)
    (h13 : ti.leaves.all lfB = true) : TIok P t ti := by
  refine ⟨h1, ⟨i, h2, h3, h4, z, h5, h6⟩, ?_, ?_, ?_, h10, h11, h12, fun t ht => ?_, fun t ht f l e => ?_⟩
  · rw [h7]; cases ti.d <;> rfl
  · intro f off ft hf
    rw [h8] at hf
    cases hd : ti.d <;> rw [hd] at hf <;> simp only [fldsOf, List.getElem?_nil, reduceCtorEq] at hf
    rename_i fs
    simp only [List.getElem?_map, Option.map_eq_some_iff, Array.getElem?_toList, Prod.mk.injEq] at hf
    obtain ⟨fd, h, h1, h2⟩ := hf
    exact ⟨fs, fd, rfl, h, h1, h2⟩
  · intro fs hd f hf
    rw [h8, hd] at h9
    have := List.all_eq_true.1 h9 (f.offset, f.type) (by simp only [fldsOf, List.mem_map]; exact ⟨f, by simpa using hf, rfl⟩)
    exact Option.isSome_iff_exists.1 this
  · have := List.all_eq_true.1 h13 t ht
    cases t <;> first | rfl | (simp [lfB] at this)
  · have := List.all_eq_true.1 h13 t ht
    subst e
    simp [lfB] at this

/-- A function that may be called by its contract. -/
def FnOk (P : Program) (f : FuncId) (s : FSpec) : Prop := Meets P f s ∧ ∃ fn, P.funcs[f]? = some fn ∧ fn.body.isNone = false ∧ (fn.name == "runtime.NumGoroutine") = false

theorem env_nil {P : Program} {tab : List (Nat × TI)} (h : EnvTy P ⟨tab, []⟩) : EnvOk P ⟨tab, []⟩ := ⟨h, fun f cs s h => (by cases h)⟩

theorem env_cons {P : Program} {tab : List (Nat × TI)} {l : List ((Nat × List Nat) × FSpec)} {f : Nat} {cs : List Nat} {s : FSpec} (hf : FnOk P f s) (h : EnvOk P ⟨tab, l⟩) : EnvOk P ⟨tab, ((f, cs), s) :: l⟩ := by
  refine ⟨h.ty, fun g ds t hg => ?_⟩
  simp only [findFn] at hg
  split at hg
  · rename_i e
    cases hg
    obtain ⟨rfl, _⟩ := e
    exact hf
  · exact h.fn g ds t hg

theorem fn_mkG {P : Program} {E : Env} {fid : FuncId} {fn : Func} {c : Code} {s : FSpec} (keep : List Nat) (outs : List ResultVar) (G : (List KI → St → Prop) → Prop) (hG : ∀ C : Cx, C.Ok → C.P = P → C.N = fn.ntmps → C.keep = keep → G (WP C)) (hE : EnvOk P E) (hm : P.follows .mixedOrders = true) (hf : P.funcs[fid]? = some fn) (hb : fn.body = some c)
    (hn : (fn.name == "runtime.NumGoroutine") = false) (hr : fn.results = outs.toArray) (hp : s.args.length ≤ fn.ntmps) (hkeep : (List.range s.args.length).all (keep.contains ·) = true)
    (h : ∀ ps, TyA s.args ps → s.pre ps → ∀ W, Rules E fn.ntmps keep (introTs 0 s.args ps).2.2 (finOf E outs s (introTs 0 s.args ps).1 ps) W → G W →
      W [.code c] ⟨numb 0 (introTs 0 s.args ps).1, [], (introTs 0 s.args ps).2.1, (introTs 0 s.args ps).2.2⟩) : FnOk P fid s :=
  ⟨meets_of_vc G hG hE hm hf hb hr hp (fun i hi => List.all_eq_true.1 hkeep i (by simpa using hi)) h, fn, hf, by rw [hb]; rfl, hn⟩

theorem fn_mk {P : Program} {E : Env} {fid : FuncId} {fn : Func} {c : Code} {s : FSpec} (keep : List Nat) (outs : List ResultVar) (hE : EnvOk P E) (hm : P.follows .mixedOrders = true) (hf : P.funcs[fid]? = some fn) (hb : fn.body = some c)
    (hn : (fn.name == "runtime.NumGoroutine") = false) (hr : fn.results = outs.toArray) (hp : s.args.length ≤ fn.ntmps) (hkeep : (List.range s.args.length).all (keep.contains ·) = true)
    (h : ∀ ps, TyA s.args ps → s.pre ps → ∀ W, Rules E fn.ntmps keep (introTs 0 s.args ps).2.2 (finOf E outs s (introTs 0 s.args ps).1 ps) W →
      W [.code c] ⟨numb 0 (introTs 0 s.args ps).1, [], (introTs 0 s.args ps).2.1, (introTs 0 s.args ps).2.2⟩) : FnOk P fid s :=
  fn_mkG keep outs (fun _ => True) (fun _ _ _ _ _ => trivial) hE hm hf hb hn hr hp hkeep fun ps h1 h2 W hW _ => h ps h1 h2 W hW

end Go.Proofs.Ytmjjdfhpnckacab
