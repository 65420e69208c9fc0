/-
  Part 6 of the proof of FnExactWorldOK: a verification-condition generator over the program and the contracts of its functions, in the order of their use.
  Conditions: none.
-/
import Derived.Test.YtkofjkjcbljkdaaGreatDoorM5
import Derived.Test.YtkofjkjcbljkdaaGreatDoorChecked
set_option linter.unusedVariables false
set_option linter.unusedSimpArgs false
set_option linter.unusedSectionVars false

section
namespace Go.Proofs.YtkofjkjcbljkdaaGreatDoor
variable [LaidG]
set_option linter.unusedVariables false
def lkAll (E : Env) (S : St) : List ResultVar → Option (List SV)
  | [] => some []
  | .tmp t :: ts => match lk S.Lp t, lkAll E S ts with | some x, some xs => some (x :: xs) | _, _ => none
  | .cell t ty :: ts => match lk S.Lp t, lkAll E S ts with
    | some (.ptr h 0), some xs => (match lk S.A h, lk E.ty ty with
      | some (.box _ _ cs), some ti => if ti.agg && cs.length == ti.sz then some (.agg cs :: xs) else none
      | _, _ => none)
    | _, _ => none
def numb : Nat → List SV → List (Nat × SV)
  | _, [] => []
  | i, x :: xs => (i, x) :: numb (i + 1) xs
def resKp : List PTy → Nat → List SV → Option (Prop × List PV)
  | [], _, [] => some (True, [])
  | .int k :: ts, i, .int k' m :: xs => match resKp ts i xs with | some (o, ps) => some (k' = k ∧ o, .int k m :: ps) | none => none
  | .bool :: ts, i, .bool b :: xs => match resKp ts i xs with | some (o, ps) => some (o, .bool b :: ps) | none => none
  | .str :: ts, i, .str l :: xs => match resKp ts i xs with | some (o, ps) => some (o, .str l :: ps) | none => none
  | .list _ :: ts, i, .sl j :: xs => match resKp ts (i + 1) xs with | some (o, ps) => some (j = i ∧ o, .list [] :: ps) | none => none
  | _, _, _ => none
def resMs (A : Hp) : List (Md × PTy) → List SV → Option (Prop × List PV)
  | (.mt, t) :: ts, x :: xs => match resB A t x, resMs A ts xs with | some (o, p), some (o', ps) => some (o ∧ o', p :: ps) | _, _ => none
  | (.rd, _) :: ts, _ :: xs => resMs A ts xs
  | (.ow, _) :: ts, _ :: xs => resMs A ts xs
  | (.bx, .box l) :: ts, .ptr h 0 :: xs => (match lk A h with
    | some (.box true _ cs) => (match resLs A l cs, resMs A ts xs with | some (o, p), some (o', ps) => some ((o ∧ cs.length = l.length) ∧ o', .agg p :: ps) | _, _ => none)
    | _ => none)
  | (.bx, .abx T) :: ts, .ptr h 0 :: xs => (match lk A h with
    | some (.abx true T' es) => (match resMs A ts xs with | some (o', ps) => some (T' = T ∧ o', .list es :: ps) | none => none)
    | _ => none)
  | (.bs, .box l) :: ts, .ptr h 0 :: xs => (match lk A h with
    | some (.box true _ cs) => (match resKp l (h - nL l) cs, resMs A ts xs with | some (o, p), some (o', ps) => some ((o ∧ cs.length = l.length) ∧ o', .agg p :: ps) | _, _ => none)
    | _ => none)
  | [], [] => some (True, [])
  | _, _ => none
def retOk : List PTy → Prop
  | [] => True
  | .agg _ :: ts => retOk ts
  | .int _ :: ts => retOk ts
  | .bool :: ts => retOk ts
  | .str :: ts => retOk ts
  | .list _ :: ts => retOk ts
  | _ :: _ => False
def mtTy : List (Md × PTy) → Prop
  | [] => True
  | (.mt, .agg _) :: ts => mtTy ts
  | (.mt, .list _) :: ts => mtTy ts
  | (.mt, _) :: _ => False
  | _ :: ts => mtTy ts
def bxCs (A : Hp) : SV → List SV
  | .ptr h _ => (match lk A h with | some (.box _ _ cs) => cs | _ => [])
  | _ => []
def mtSls (A : Hp) : List (Md × PTy) → List SV → List Nat
  | (.mt, _) :: ts, x :: xs => slsOf x.cells ++ mtSls A ts xs
  | (.bx, _) :: ts, x :: xs => slsOf (bxCs A x) ++ mtSls A ts xs
  | _ :: ts, _ :: xs => mtSls A ts xs
  | _, _ => []
def mtHs (A : Hp) : List (Md × PTy) → List SV → List Nat
  | (.mt, _) :: ts, x :: xs => slsOf x.cells ++ mtHs A ts xs
  | (.bx, _) :: ts, .ptr h _ :: xs => h :: (slsOf (bxCs A (.ptr h 0)) ++ mtHs A ts xs)
  | (.bs, _) :: ts, .ptr h _ :: xs => h :: mtHs A ts xs
  | _ :: ts, _ :: xs => mtHs A ts xs
  | _, _ => []
def finFr (s : FSpec) (xs xs0 : List SV) (ps : List PV) (A : Hp) : Prop :=
  match resBs A s.ret xs, resMs A s.args xs0 with
  | some (o, rs), some (o', qs) => o ∧ rs = s.res ps ∧ o' ∧ qs = s.out ps ∧ dpAll A (slsAll xs ++ mtSls A s.args xs0) = true
  | _, _ => False
def finOf (E : Env) (outs : List ResultVar) (s : FSpec) (xs0 : List SV) (ps : List PV) (S : St) : Prop :=
  match lkAll E S outs with
  | none => False
  | some xs => retOk s.ret ∧
      (if s.fresh then mtTy s.args ∧ ndB (slsAll xs ++ mtHs (proms S.A (slsAll xs ++ mtSls S.A s.args xs0)) s.args xs0) = true ∧ finFr s xs xs0 ps (proms S.A (slsAll xs ++ mtSls S.A s.args xs0))
      else allRd s.args = true ∧ (match resBs S.A s.ret xs with | some (o, rs) => o ∧ rs = s.res ps | none => False))
section
variable {P : Program} {E : Env} {N : Nat} {w0 : World} {X F : List Nat} {S : St} {β : Nat → GV} {ϕ : Nat → List Nat} {a : Act} {w w' : World} {o : Oper} {R : RR} {A : Hp} {B : Nat}
theorem resB_own {T : PTy} {x : SV} {ob : Prop} {p : PV} (h : resB A T x = some (ob, p)) (hob : ob) (hp : Holds B X F A β ϕ w) (hk : SV.ok β x) (ho : dpAll A (slsOf x.cells) = true) (hT : retOk [T]) :
    RetV w T p (SV.val β x) ((slsOf x.cells).map ϕ).flatten := by
  have lists : ∀ {us : List PTy} {ys : List SV} {o : Prop} {rs : List PV}, resLs A us ys = some (o, rs) → o → SV.oks β ys → dpAll A (slsOf ys) = true → LoD w us rs (SV.vals β ys) (fsOf ϕ ys) := by
    intro us ys o rs q1 q2 q3 q4
    refine resLs_own q1 q2 q3 fun h hh o T es p hA => ?_
    obtain ⟨T', es', p', e⟩ := dpB_iff.1 (dpAll_iff.1 q4 h hh)
    rw [hA] at e; cases e
    exact hp.sat _ _ hA
  have leaf : ∀ (h' : resL A T x = some (ob, p)), (x.cells = [x]) → ∃ fs, LoD w [T] [p] [SV.val β x] fs ∧ ((slsOf x.cells).map ϕ).flatten = fs.flatten := by
    intro h' hc
    rw [hc] at ho ⊢
    exact ⟨_, lists (us := [T]) (ys := [x]) (o := ob ∧ True) (rs := [p]) (by simp [resLs, h']) ⟨hob, trivial⟩ ⟨hk, trivial⟩ ho, by rw [fsOf_flat]⟩
  cases T with
  | agg ts =>
    cases x with
    | agg xs =>
      simp only [resB] at h
      split at h
      · rename_i o ps hps
        simp only [Option.some.injEq, Prod.mk.injEq] at h
        obtain ⟨rfl, rfl⟩ := h
        exact ⟨ps, _, _, rfl, rfl, lists hps hob hk ho, by rw [fsOf_flat]; rfl⟩
      · cases h
    | _ => simp [resB, resL] at h
  | box ts => exact hT.elim
  | abx t => exact hT.elim
  | fn g ts => exact hT.elim
  | opq => exact hT.elim
  | int k => cases x <;> first | (simp [resB, resL] at h; done) | exact leaf (by simpa [resB] using h) rfl
  | bool => cases x <;> first | (simp [resB, resL] at h; done) | exact leaf (by simpa [resB] using h) rfl
  | str => cases x <;> first | (simp [resB, resL] at h; done) | exact leaf (by simpa [resB] using h) rfl
  | list T => cases x <;> first | (simp [resB, resL] at h; done) | exact leaf (by simpa [resB] using h) rfl
theorem retOk_cons {t : PTy} {ts : List PTy} (h : retOk (t :: ts)) : retOk [t] ∧ retOk ts := by
  cases t <;> first | exact ⟨trivial, h⟩ | exact h.elim
theorem dpAll_append {l l' : List Nat} : dpAll A (l ++ l') = true ↔ dpAll A l = true ∧ dpAll A l' = true := by
  simp only [dpAll_iff, List.mem_append]
  exact ⟨fun h => ⟨fun i hi => h i (.inl hi), fun i hi => h i (.inr hi)⟩, fun h i hi => hi.elim (h.1 i) (h.2 i)⟩
theorem resBs_own : ∀ {ts : List PTy} {xs : List SV} {ob : Prop} {ps : List PV}, resBs A ts xs = some (ob, ps) → ob → Holds B X F A β ϕ w → SV.oks β xs → dpAll A (slsAll xs) = true → retOk ts →
    RetVs w ts ps (SV.vals β xs) ((slsAll xs).map ϕ).flatten
  | [], [], ob, ps, h, hob, hp, hk, ho, hT => by cases h; exact .nil
  | [], x :: xs, ob, ps, h, hob, hp, hk, ho, hT => by cases h
  | t :: ts, [], ob, ps, h, hob, hp, hk, ho, hT => by cases h
  | t :: ts, x :: xs, ob, ps, h, hob, hp, hk, ho, hT => by
    simp only [resBs] at h
    split at h
    · rename_i o1 p o2 qs h1 h2
      cases h
      obtain ⟨hT1, hT2⟩ := retOk_cons hT
      simp only [slsAll, dpAll_append] at ho
      simp only [slsAll, List.map_append, List.flatten_append, SV.vals]
      exact .cons (resB_own h1 hob.1 hp hk.1 ho.1 hT1) (resBs_own h2 hob.2 hp hk.2 ho.2 hT2)
    · cases h
theorem RetV.arg {t : PTy} {p : PV} {v : Value} {f : List Nat} (h : RetV w t p v f) (ht : (∃ ts, t = .agg ts) ∨ ∃ T, t = .list T) : ArgM w t p v f := by
  rcases ht with ⟨ts, rfl⟩ | ⟨T, rfl⟩
  · exact h
  · obtain ⟨fs, hL, rfl⟩ := h
    cases hL with
    | list hO hr => cases hr; exact ⟨_, rfl, by simpa using hO⟩
theorem resKp_kp : ∀ {l : List PTy} {i : Nat} {cs : List SV} {o : Prop} {ps : List PV} {cs0 : List Value}, resKp l i cs = some (o, ps) → o → KpOld β l i cs0 → cs0.length = l.length → SV.oks β cs → KpS l ps cs0 (SV.vals β cs)
  | [], i, cs, o, ps, cs0, h, ho, hk, hl, hok => by
    cases cs with
    | nil => cases h; cases cs0 <;> first | exact .nil | (simp at hl)
    | cons c cs => cases h
  | t :: ts, i, cs, o, ps, [], h, ho, hk, hl, hok => by simp at hl
  | t :: ts, i, [], o, ps, c0 :: cs0, h, ho, hk, hl, hok => by cases t <;> cases h
  | t :: ts, i, c :: cs, o, ps, c0 :: cs0, h, ho, hk, hl, hok => by
    have hl' : cs0.length = ts.length := by simpa using hl
    cases t with
    | int k =>
      cases c <;> simp only [resKp, reduceCtorEq] at h
      split at h
      · rename_i o1 ps1 h1
        simp only [Option.some.injEq, Prod.mk.injEq] at h
        obtain ⟨rfl, rfl⟩ := h
        obtain ⟨rfl, ho⟩ := ho
        exact .int hok.1 (resKp_kp h1 ho hk hl' hok.2)
      · cases h
    | bool =>
      cases c <;> simp only [resKp, reduceCtorEq] at h
      split at h
      · rename_i o1 ps1 h1
        simp only [Option.some.injEq, Prod.mk.injEq] at h
        obtain ⟨rfl, rfl⟩ := h
        exact .bool (resKp_kp h1 ho hk hl' hok.2)
      · cases h
    | str =>
      cases c <;> simp only [resKp, reduceCtorEq] at h
      split at h
      · rename_i o1 ps1 h1
        simp only [Option.some.injEq, Prod.mk.injEq] at h
        obtain ⟨rfl, rfl⟩ := h
        exact .str hok.1 (resKp_kp h1 ho hk hl' hok.2)
      · cases h
    | list T =>
      cases c <;> simp only [resKp, reduceCtorEq] at h
      split at h
      · rename_i o1 ps1 h1
        simp only [Option.some.injEq, Prod.mk.injEq] at h
        obtain ⟨rfl, rfl⟩ := h
        obtain ⟨rfl, ho⟩ := ho
        obtain ⟨rfl, hk⟩ := hk
        exact .list (resKp_kp h1 ho hk hl' hok.2)
      · cases h
    | _ => cases h
theorem resMs_own {w' : World} : ∀ {ts : List (Md × PTy)} {xs : List SV} {ob : Prop} {ps : List PV}, resMs A ts xs = some (ob, ps) → ob → Holds B X F A β ϕ w → SV.oks β xs → (∀ i o t cs, lk A i = some (.box o t cs) → SV.oks β cs) → dpAll A (mtSls A ts xs) = true → mtTy ts → OldX w' β ts xs →
    OutV w' w ts ps (SV.vals β xs) ((mtHs A ts xs).map ϕ).flatten ∧ ∀ h ∈ mtHs A ts xs, Lent A ϕ h
  | [], [], ob, ps, h, hob, hp, hk, hbx, ho, hT, hX => by cases h; exact ⟨.nil, by simp [mtHs]⟩
  | [], x :: xs, ob, ps, h, hob, hp, hk, hbx, ho, hT, hX => by cases h
  | (m, t) :: ts, [], ob, ps, h, hob, hp, hk, hbx, ho, hT, hX => by cases m <;> (try cases h) <;> cases t <;> cases h
  | (m, t) :: ts, x :: xs, ob, ps, h, hob, hp, hk, hbx, ho, hT, hX => by
    cases m with
    | rd =>
      obtain ⟨r1, r2⟩ := resMs_own (ts := ts) (xs := xs) h hob hp hk.2 hbx ho (by cases t <;> exact hT) hX
      exact ⟨.rd r1, r2⟩
    | ow =>
      obtain ⟨r1, r2⟩ := resMs_own (ts := ts) (xs := xs) h hob hp hk.2 hbx ho (by cases t <;> exact hT) hX
      exact ⟨.ow r1, r2⟩
    | bx =>
      have hT2 : mtTy ts := by cases t <;> exact hT
      cases t with
      | box l =>
        cases x with
        | ptr i off =>
          cases off with
          | zero =>
            simp only [resMs] at h
            split at h
            case h_2 => cases h
            rename_i tt cs hA
            split at h
            case h_2 => cases h
            rename_i o1 p o2 qs h1 h2
            simp only [Option.some.injEq, Prod.mk.injEq] at h
            obtain ⟨rfl, rfl⟩ := h
            simp only [mtSls, bxCs, hA, dpAll_append] at ho
            obtain ⟨r1, r2⟩ := resMs_own h2 hob.2 hp hk.2 hbx ho.2 hT2 hX.2
            obtain ⟨b, t', hb, hϕ, hblk⟩ := hp.sat _ _ hA
            obtain ⟨b2, t2, cs0, hb2, hblk2, hl0⟩ := hX.1
            have : b2 = b := by
              rw [hb] at hb2; simp only [Value.pointer.injEq, Option.some.injEq, Addr.mk.injEq] at hb2; exact hb2.1.symm
            subst this
            have hLo : LoD w l p (SV.vals β cs) (fsOf ϕ cs) := resLs_own h1 hob.1.1 (hbx _ _ _ _ hA) fun h hh o T es p' hA' => by
              obtain ⟨T', es', p2, e⟩ := dpB_iff.1 (dpAll_iff.1 ho.1 h hh)
              rw [e] at hA'; cases hA'
              exact hp.sat _ _ e
            constructor
            · have hx : OutX w' w (.box l) (.agg p) (SV.val β (.ptr i 0)) (b2 :: (fsOf ϕ cs).flatten) :=
                ⟨p, cs0, SV.vals β cs, fsOf ϕ cs, b2, t2, t', (β i).pre, (β i).post, rfl, by simp [SV.val, hb], hblk2, hl0, hblk, hLo, rfl⟩
              have := OutV.bx hx r1
              simp only [mtHs, bxCs, hA, List.map_append, List.map_cons, List.flatten_append, List.flatten_cons, hϕ, ← fsOf_flat, List.cons_append, List.append_assoc, List.nil_append, SV.vals] at this ⊢
              exact this
            · intro h hh
              simp only [mtHs, bxCs, hA, List.mem_cons, List.mem_append] at hh
              rcases hh with rfl | hh | hh
              · exact ⟨_, hA, by simp, rfl, by rw [hϕ]; simp, rfl⟩
              · exact lent_dp hp (dpAll_iff.1 ho.1 h hh)
              · exact r2 h hh
          | succ n => simp [resMs] at h
        | _ => simp [resMs] at h
      | abx T =>
        cases x with
        | ptr i off =>
          cases off with
          | zero =>
            simp only [resMs] at h
            split at h
            case h_2 => cases h
            rename_i T' es hA
            split at h
            case h_2 => cases h
            rename_i o2 qs h2
            simp only [Option.some.injEq, Prod.mk.injEq] at h
            obtain ⟨rfl, rfl⟩ := h
            simp only [mtSls, bxCs, hA, slsOf, List.nil_append] at ho
            obtain ⟨r1, r2⟩ := resMs_own h2 hob.2 hp hk.2 hbx ho hT2 hX.2
            have := hob.1
            subst this
            obtain ⟨g1, g2, b, t', c, hv, hϕ, hblk, hL⟩ := hp.sat _ _ hA
            constructor
            · have hx : OutX w' w (.abx T') (.list es) (SV.val β (.ptr i 0)) [b] := ⟨es, b, t', c, rfl, by simp [SV.val, hv], hblk, g1, g2, hL, rfl⟩
              have := OutV.bx hx r1
              simp only [mtHs, bxCs, hA, slsOf, List.map_cons, List.flatten_cons, hϕ, List.nil_append, SV.vals] at this ⊢
              exact this
            · intro h hh
              simp only [mtHs, bxCs, hA, slsOf, List.nil_append, List.mem_cons] at hh
              rcases hh with rfl | hh
              · exact ⟨_, hA, by simp, rfl, by rw [hϕ]; simp, rfl⟩
              · exact r2 h hh
          | succ n => simp [resMs] at h
        | _ => simp [resMs] at h
      | _ => cases x <;> simp [resMs] at h
    | bs =>
      have hT2 : mtTy ts := by cases t <;> exact hT
      cases t with
      | box l =>
        cases x with
        | ptr i off =>
          cases off with
          | zero =>
            simp only [resMs] at h
            split at h
            case h_2 => cases h
            rename_i tt cs hA
            split at h
            case h_2 => cases h
            rename_i o1 p o2 qs h1 h2
            simp only [Option.some.injEq, Prod.mk.injEq] at h
            obtain ⟨rfl, rfl⟩ := h
            obtain ⟨r1, r2⟩ := resMs_own h2 hob.2 hp hk.2 hbx ho hT2 hX.2
            obtain ⟨b, t', hb, hϕ, hblk⟩ := hp.sat _ _ hA
            obtain ⟨b2, t2, cs0, hb2, hblk2, hl0, _, hkp⟩ := hX.1
            have : b2 = b := by
              rw [hb] at hb2; simp only [Value.pointer.injEq, Option.some.injEq, Addr.mk.injEq] at hb2; exact hb2.1.symm
            subst this
            have hKp := resKp_kp h1 hob.1.1 hkp hl0 (hbx _ _ _ _ hA)
            constructor
            · have hx : OutS w' w (.box l) (.agg p) (SV.val β (.ptr i 0)) b2 :=
                ⟨p, cs0, SV.vals β cs, t2, t', (β i).pre, (β i).post, rfl, by simp [SV.val, hb], hblk2, hl0, hblk, hKp⟩
              have := OutV.bs hx r1
              simp only [mtHs, List.map_cons, List.flatten_cons, hϕ, List.cons_append, List.nil_append, SV.vals] at this ⊢
              exact this
            · intro h hh
              simp only [mtHs, List.mem_cons] at hh
              rcases hh with rfl | hh
              · exact ⟨_, hA, by simp, rfl, by rw [hϕ]; simp, rfl⟩
              · exact r2 h hh
          | succ n => simp [resMs] at h
        | _ => simp [resMs] at h
      | _ => cases x <;> simp [resMs] at h
    | mt =>
      simp only [resMs] at h
      split at h
      · rename_i o1 p o2 qs h1 h2
        cases h
        simp only [mtSls, dpAll_append] at ho
        have ht : (∃ ts, t = .agg ts) ∨ ∃ T, t = .list T := by cases t <;> first | exact hT.elim | exact .inl ⟨_, rfl⟩ | exact .inr ⟨_, rfl⟩
        have hT1 : retOk [t] := by rcases ht with ⟨ts, rfl⟩ | ⟨T, rfl⟩ <;> trivial
        have hT2 : mtTy ts := by cases t <;> first | exact hT.elim | exact hT
        obtain ⟨r1, r2⟩ := resMs_own h2 hob.2 hp hk.2 hbx ho.2 hT2 hX
        constructor
        · simp only [mtHs, List.map_append, List.flatten_append, SV.vals]
          exact .mt ((resB_own h1 hob.1 hp hk.1 ho.1 hT1).arg ht) r1
        · intro h hh
          simp only [mtHs, List.mem_append] at hh
          rcases hh with hh | hh
          · exact lent_dp hp (dpAll_iff.1 ho.1 h hh)
          · exact r2 h hh
      · cases h
theorem resB_ret {T : PTy} {x : SV} {ob : Prop} {p : PV} (h : resB A T x = some (ob, p)) (hob : ob) (hp : Holds B X F A β ϕ w) (hk : SV.ok β x) (hT : retOk [T]) :
    ∃ f, RetN w T p (SV.val β x) f ∧ ∀ b ∈ f, b ∈ F ∨ B ≤ b := by
  have lists : ∀ {us : List PTy} {ys : List SV} {o : Prop} {rs : List PV}, resLs A us ys = some (o, rs) → o → SV.oks β ys → ∃ f, Lv w us rs (SV.vals β ys) f ∧ ∀ b ∈ f, b ∈ F ∨ B ≤ b := by
    intro us ys o rs q1 q2 q3
    obtain ⟨f, q4, q5⟩ := resLs_sound q1 q2 hp q3
    refine ⟨f, q4, fun b hb => ?_⟩
    obtain ⟨i, hi, hl, e1, e2, e3⟩ := q5 b hb
    obtain ⟨hl', e4, e5⟩ := resLs_isA q1 i hi
    rw [e1] at e4; cases e4
    exact hp.all i hl e1 e5.isA b e3
  have leaf : ∀ (h' : resL A T x = some (ob, p)), ∃ f, Lv w [T] [p] [SV.val β x] f ∧ ∀ b ∈ f, b ∈ F ∨ B ≤ b := fun h' =>
    lists (us := [T]) (ys := [x]) (o := ob ∧ True) (rs := [p]) (by simp [resLs, h']) ⟨hob, trivial⟩ ⟨hk, trivial⟩
  cases T with
  | agg ts =>
    cases x with
    | agg xs =>
      simp only [resB] at h
      split at h
      · rename_i o ps hps
        simp only [Option.some.injEq, Prod.mk.injEq] at h
        obtain ⟨rfl, rfl⟩ := h
        obtain ⟨f, q1, q2⟩ := lists hps hob hk
        exact ⟨f, ⟨ps, _, rfl, rfl, q1⟩, q2⟩
      · cases h
    | _ => simp [resB, resL] at h
  | box ts => exact hT.elim
  | abx t => exact hT.elim
  | fn g ts => exact hT.elim
  | opq => exact hT.elim
  | int k => cases x <;> first | (simp [resB, resL] at h; done) | exact leaf (by simpa [resB] using h)
  | bool => cases x <;> first | (simp [resB, resL] at h; done) | exact leaf (by simpa [resB] using h)
  | str => cases x <;> first | (simp [resB, resL] at h; done) | exact leaf (by simpa [resB] using h)
  | list T => cases x <;> first | (simp [resB, resL] at h; done) | exact leaf (by simpa [resB] using h)
theorem resBs_ret : ∀ {ts : List PTy} {xs : List SV} {ob : Prop} {ps : List PV}, resBs A ts xs = some (ob, ps) → ob → Holds B X F A β ϕ w → SV.oks β xs → retOk ts →
    ∃ f, RetNs w ts ps (SV.vals β xs) f ∧ ∀ b ∈ f, b ∈ F ∨ B ≤ b
  | [], [], ob, ps, h, hob, hp, hk, hT => by cases h; exact ⟨[], .nil, by simp⟩
  | [], x :: xs, ob, ps, h, hob, hp, hk, hT => by cases h
  | t :: ts, [], ob, ps, h, hob, hp, hk, hT => by cases h
  | t :: ts, x :: xs, ob, ps, h, hob, hp, hk, hT => by
    simp only [resBs] at h
    split at h
    · rename_i o1 p o2 qs h1 h2
      cases h
      obtain ⟨hT1, hT2⟩ := retOk_cons hT
      obtain ⟨f, q1, q2⟩ := resB_ret h1 hob.1 hp hk.1 hT1
      obtain ⟨g, q3, q4⟩ := resBs_ret h2 hob.2 hp hk.2 hT2
      exact ⟨f ++ g, .cons q1 q3, fun b hb => (List.mem_append.1 hb).elim (q2 b) (q4 b)⟩
    · cases h
theorem lkAll_run (hE : EnvTy P E) (sat : Sat N w0 X F S β ϕ a w) (g : ResultVar → Sem Value) (hg : ∀ t, g (.tmp t) = pure (a.tmps.getD t undef)) (hc : ∀ t ty, g (.cell t ty) = asAddr (a.tmps.getD t undef) >>= fun x => loadVar ty x) :
    ∀ {outs : List ResultVar} {xs : List SV}, lkAll E S outs = some xs → (outs.mapM g).run P w = .ok (SV.vals β xs) w ∧ SV.oks β xs ∧ SV.lts S.n xs ∧ xs.length = outs.length
  | [], xs, h => by cases h; exact ⟨rfl, trivial, trivial, rfl⟩
  | .tmp t :: ts, xs, h => by
    simp only [lkAll] at h
    split at h
    · rename_i x ys hx hy
      cases h
      obtain ⟨h1, h2, h3, h4⟩ := lkAll_run hE sat g hg hc hy
      obtain ⟨q1, q2, q3⟩ := sat.lp t x hx
      refine ⟨?_, ⟨q3, h2⟩, ⟨q2, h3⟩, by simp [h4]⟩
      simp only [List.mapM_cons, Sem.run_bind, Sem.run_pure, Result.andThen_ok, h1, hg, SV.vals, Array.getD_eq_getD_getElem?, q1, Option.getD_some]
    · cases h
  | .cell t ty :: ts, xs, h => by
    simp only [lkAll] at h
    split at h
    · rename_i i ys hx hy
      split at h
      · rename_i ow bt cs ti hl hti
        split at h
        · rename_i hcond
          cases h
          simp only [Bool.and_eq_true, beq_iff_eq] at hcond
          obtain ⟨hA, hlen⟩ := hcond
          obtain ⟨h1, h2, h3, h4⟩ := lkAll_run hE sat g hg hc hy
          obtain ⟨q1, q2, b, oo, hb⟩ := sat.lp t _ hx
          obtain ⟨b', bt', hb', hϕ, hold⟩ := sat.hp.sat _ _ hl
          rw [hb] at hb'
          simp only [Value.pointer.injEq, Option.some.injEq, Addr.mk.injEq, and_true] at hb'
          obtain ⟨rfl, rfl⟩ := hb'
          simp only [SV.val, hb, Nat.add_zero] at q1
          obtain ⟨k1, k2⟩ := (sat.hb _ _ hl).2
          have hag := run_isAgg (hE _ _ hti)
          have hsz := run_size (hE _ _ hti)
          have hcl : (SV.vals β cs).length = cs.length := by simp [SV.vals_map]
          have hlc := run_loadCells_row (P := P) b ((β i).pre.length + 0) ti.sz _ bt' (0, 0) hold (by simp [hcl, hlen])
          rw [List.toList_toArray, mid_take _ _ _ (by rw [hcl]; omega)] at hlc
          have hall : ((SV.vals β cs).drop 0).take ti.sz = SV.vals β cs := by
            rw [List.drop_zero, List.take_of_length_le (by simp [SV.vals_map, hlen])]
          simp only [hall, Nat.add_zero] at hlc
          refine ⟨?_, ⟨k2, h2⟩, ⟨k1, h3⟩, by simp [h4]⟩
          simp only [List.mapM_cons, Sem.run_bind, Sem.run_pure, Result.andThen_ok, h1, hc, SV.vals, SV.val, Array.getD_eq_getD_getElem?, q1, Option.getD_some, asAddr, loadVar, hag, hsz, hA, if_true, hlc]
        · cases h
      · cases h
    · cases h
theorem results_run {fn : Func} {outs : List ResultVar} (h : fn.results = outs.toArray) (tmps : Array Value) (w : World) (g : ResultVar → Sem Value) (hg : ∀ t, g (.tmp t) = pure (tmps.getD t undef)) (hc : ∀ t ty, g (.cell t ty) = asAddr (tmps.getD t undef) >>= fun x => loadVar ty x)
    {vs : List Value} (hv : (outs.mapM g).run P w = .ok vs w) (hlen : vs.length = outs.length) : (results fn tmps).run P w = .ok (packR vs) w := by
  have hgg : ∀ g' : ResultVar → Sem Value, (∀ t, g' (.tmp t) = pure (tmps.getD t undef)) → (∀ t ty, g' (.cell t ty) = asAddr (tmps.getD t undef) >>= fun x => loadVar ty x) → outs.mapM g' = outs.mapM g := by
    intro g' h1 h2
    have : g' = g := by
      funext r
      cases r with
      | tmp t => rw [h1, hg]
      | cell a t => rw [h2, hc]
    rw [this]
  unfold results
  rw [h, List.mapM_toArray]
  simp only [Sem.run_bind, Sem.run_map, Result.andThen_ok]
  rw [hgg _ (fun _ => rfl) (fun _ _ => rfl), hv]
  simp only [Result.andThen_ok, Sem.run_pure]
  match vs with
  | [] => rfl
  | [x] => rfl
  | x :: y :: l => simp [packR]
theorem lk_numb : ∀ {xs : List SV} {i t : Nat} {v : SV}, lk (numb i xs) t = some v → i ≤ t ∧ xs[t - i]? = some v
  | [], i, t, v, h => by cases h
  | x :: xs, i, t, v, h => by
    simp only [numb, lk] at h
    split at h
    · rename_i e; subst e; cases h; simp
    · rename_i e
      obtain ⟨h1, h2⟩ := lk_numb h
      refine ⟨by omega, ?_⟩
      rw [show t - i = (t - (i + 1)) + 1 by omega]
      simpa using h2
theorem ArgsV.lens {ts : List (Md × PTy)} {ps : List PV} {vs : List Value} {f fl ms : List Nat} (h : ArgsV w ts ps vs f fl ms) : ts.length = vs.length := by
  induction h with
  | nil => rfl
  | rd _ _ ih => simp [ih]
  | mt _ _ ih => simp [ih]
  | ow _ _ ih => simp [ih]
  | bx _ _ ih => simp [ih]
  | bs _ _ ih => simp [ih]
theorem ArgsV.rdms {ts : List (Md × PTy)} {ps : List PV} {vs : List Value} {f fl ms : List Nat} (h : ArgsV w ts ps vs f fl ms) (hr : allRd ts = true) : ms = [] := by
  induction h with
  | nil => rfl
  | rd _ _ ih => exact ih hr
  | mt _ _ _ => simp [allRd] at hr
  | ow _ _ _ => simp [allRd] at hr
  | bx _ _ _ => simp [allRd] at hr
  | bs _ _ _ => simp [allRd] at hr
theorem meets_of_vc {fid : FuncId} {fn : Func} {c : Code} {s : FSpec} {keep : List Nat} {outs : List ResultVar} (G : (List KI → St → Prop) → Prop) (hG : ∀ C : Cx, C.Ok → C.P = P → C.N = fn.ntmps → C.keep = keep → G (WP C)) (hE : EnvOk P E) (hm : P.follows .mixedOrders = true) (hf : P.funcs[fid]? = some fn) (hb : fn.body = some c)
    (hr : fn.results = outs.toArray) (hp : s.args.length ≤ fn.ntmps) (hkeep : ∀ i, i < s.args.length → keep.contains i = true)
    (h : ∀ ps, TyA s.args ps → s.pre ps → ∀ W, Rules E fn.ntmps keep (introTs 0 s.args ps).2.2 (finOf E outs s (introTs 0 s.args ps).1 ps) W → G W →
      W [.code c] ⟨numb 0 (introTs 0 s.args ps).1, [], (introTs 0 s.args ps).2.1, (introTs 0 s.args ps).2.2⟩) : Meets P fid s := by
  intro w ps vs fs fl ms hA hnd hdis hpre hgl
  have h0 : Holds w.heap.size ms (fl ++ ms) [] (fun _ => ⟨Value.bool false, [], []⟩) (fun _ => []) w :=
    ⟨fun _ => rfl, fun _ _ h => (by cases h), fun _ _ h => (by cases h), fun _ _ h => (by cases h), fun _ _ h => (by cases h), fun _ _ _ _ h => (by cases h), fun _ _ h => (by cases h), fun _ _ h => (by cases h)⟩
  obtain ⟨β, ϕ, ⟨e1, e2, e3, e4, e5, e6, e7, e8, e9⟩, hold⟩ := introTs_sound s.args ps vs fs fl ms 0 [] _ _ hA h0 (fun i hl h => (by cases h)) rfl (fun b hb hm => hdis b hm hb) (fun b hb => by simp [hb]) (fun b hb => ⟨hb, by simp [hb]⟩) hnd (fun i hl h => (by cases h))
  have hlen := hA.lens
  have hlen2 : (introTs 0 s.args ps).1.length = vs.length := by rw [← e5, SV.vals_map]; simp
  let fin := finOf E outs s (introTs 0 s.args ps).1 ps
  let Rr : Ending → World → Prop := fun e w' => ∃ rvs, e = .returned (packR rvs) ∧ Done w s ps vs fl ms rvs w'
  let C : Cx := ⟨P, E, fn.ntmps, w, ms, fl ++ ms, keep, (introTs 0 s.args ps).2.2, β, bodyPost P fn Rr, fin⟩
  have hfin : ∀ S a w', At C S a w' → fin S → a.defers = [] ∧ ∃ v, (results fn a.tmps).run P w' = .ok v w' ∧ Rr (.returned v) w' := by
    intro S a w' hat hS
    obtain ⟨kp, hn, β1, ϕ1, sat, hsame⟩ := hat
    unfold fin finOf at hS
    split at hS
    · exact hS.elim
    · rename_i xs hxs
      obtain ⟨hret, hS⟩ := hS
      let g : ResultVar → Sem Value := fun r => match r with | .tmp t => pure (a.tmps.getD t undef) | .cell t ty => asAddr (a.tmps.getD t undef) >>= fun x => loadVar ty x
      obtain ⟨v1, v2, v3, v4⟩ := lkAll_run hE.ty sat g (fun _ => rfl) (fun _ _ => rfl) hxs
      refine ⟨sat.df, _, results_run hr a.tmps w' g (fun _ => rfl) (fun _ _ => rfl) v1 (by simp [SV.vals_map, v4]), _, rfl, sat.fr, ?_⟩
      have hsame1 : SV.vals β1 (introTs 0 s.args ps).1 = vs := by
        rw [SV.vals_congr (fun k hk => hsame k hk) _ e6]; exact e5
      have hok1 : SV.oks β1 (introTs 0 s.args ps).1 := SV.oks_congr (fun k hk => hsame k hk) _ e6 e7
      cases hfs : s.fresh with
      | true =>
        rw [hfs] at hS
        simp only [if_true] at hS
        obtain ⟨f0, f1, f2⟩ := hS
        obtain ⟨ϕ2, p1, p2, _⟩ := proms_sound (slsAll xs ++ mtSls S.A s.args (introTs 0 s.args ps).1) sat.hp sat.hb
        unfold finFr at f2
        split at f2
        · rename_i o rs o' qs hrs hqs
          obtain ⟨g1, g2, g3, g4, g5⟩ := f2
          obtain ⟨g6, g7⟩ := dpAll_append.1 g5
          have hR := resBs_own hrs g1 p1 v2 g6 hret
          obtain ⟨hO, hLt⟩ := resMs_own (w' := w) hqs g3 p1 hok1 (fun i o t cs hi => (p2 _ _ hi).2.2) g7 f0 (hold.congr hsame e6)
          rw [hsame1, g4] at hO
          rw [g2] at hR
          have hLents : ∀ h ∈ slsAll xs ++ mtHs (proms S.A (slsAll xs ++ mtSls S.A s.args (introTs 0 s.args ps).1)) s.args (introTs 0 s.args ps).1, Lent (proms S.A (slsAll xs ++ mtSls S.A s.args (introTs 0 s.args ps).1)) ϕ2 h := by
            intro h hh
            rcases List.mem_append.1 hh with hh | hh
            · exact lent_dp p1 (dpAll_iff.1 g6 h hh)
            · exact hLt h hh
          refine .inl ⟨rfl, _, _, hR, hO, ?_, ?_⟩
          · rw [← List.flatten_append, ← List.map_append]
            exact lents_nodup p1 hLents (ndB_iff.1 f1)
          · rw [← List.flatten_append, ← List.map_append]
            intro b hb
            obtain ⟨i, hi, hl, e1, e2⟩ := lents_own hLents b hb
            exact p1.own i _ e1 b e2
        · exact f2.elim
      | false =>
        rw [hfs] at hS
        simp only [Bool.false_eq_true, if_false] at hS
        obtain ⟨f1, f2⟩ := hS
        split at f2
        · rename_i o rs hrs
          obtain ⟨g1, g2⟩ := f2
          obtain ⟨f, q1, q2⟩ := resBs_ret hrs g1 sat.hp v2 hret
          rw [g2] at q1
          have hms := hA.rdms f1
          refine .inr ⟨rfl, f1, f, q1, fun b hb => ?_⟩
          have := q2 b hb
          have hF : C.F = fl ++ ms := rfl
          rw [hF, hms, List.append_nil] at this
          exact this
        · exact f2.elim
  have hC : C.Ok := ⟨hE, hm, fun S a w' hat hS => ⟨hfin S a w' hat hS, hfin S a w' hat hS⟩, fun c a d v w h => ⟨by have h1 := h.1; cases d <;> exact h1, h.2⟩⟩
  refine calls_of_wp hf hb ?_
  have hW := h ps hA.ty hpre (WP C) (rules_wp hC) (hG C hC rfl rfl rfl)
  refine hW _ w ⟨⟨?_, fun t x h => (by cases h)⟩, Nat.le_refl _, β, ϕ, ⟨rfl, ?_, ?_, fun t g v h => (by cases h), by simpa using e1, (by simpa using e2 : Bd _ _ _), Fr.refl _ _, hgl⟩, fun h _ => rfl⟩
  · intro t v ht
    obtain ⟨h1, h2⟩ := lk_numb ht
    obtain ⟨h3, _⟩ := List.getElem?_eq_some_iff.1 h2
    exact hkeep t (by simp only [Nat.sub_zero] at h3; omega)
  · show (vs.toArray ++ Array.replicate (fn.ntmps - vs.toArray.size) undef).size = fn.ntmps
    simp; omega
  · intro t v ht
    obtain ⟨_, h2⟩ := lk_numb ht
    simp only [Nat.sub_zero] at h2
    have hm1 := List.mem_of_getElem? h2
    refine ⟨?_, SV.lts_iff.1 e6 v hm1, SV.oks_iff.1 e7 v hm1⟩
    obtain ⟨h3, _⟩ := List.getElem?_eq_some_iff.1 h2
    show (vs.toArray ++ Array.replicate (fn.ntmps - vs.toArray.size) undef)[t]? = _
    rw [Array.getElem?_append_left (by simp; omega)]
    rw [← e5, SV.vals_map]
    simp [h2]
end
def fldsOf : TypeDesc → List (Nat × Nat)
  | .struct fs => fs.toList.map fun f => (f.offset, f.type)
  | _ => []
def aggOf : TypeDesc → Bool
  | .struct _ => true
  | .array _ _ => true
  | _ => false
def lfB : PTy → Bool
  | .agg _ => false
  | .fn _ _ => false
  | _ => true
theorem tiok_mk {P : Program} {t : TypeId} {ti : TI} {i : TypeInfo} {z : Value} (h1 : P.underlying t = some ti.d) (h2 : P.info? t = some i) (h3 : i.size = ti.sz) (h4 : i.bytes = ti.bytes) (h5 : i.zero = some z)
    (h6 : z.cells = (ti.leaves.map zeroV).toArray) (h7 : ti.agg = aggOf ti.d) (h8 : ti.flds = fldsOf ti.d) (h9 : (ti.flds.all fun f => (P.info? f.2).isSome) = true) (h10 : 0 < ti.sz) (h11 : 0 < ti.bytes) (h12 : ti.agg = false → ti.sz = 1)
    (h13 : ti.leaves.all lfB = true) (h14 : ti.eqb = true → P.stoodInHeld t = false ∧ P.eqGuardType P.depth t = false) : TIok P t ti := by
  refine ⟨h1, ⟨i, h2, h3, h4, z, h5, h6⟩, ?_, ?_, ?_, h10, h11, h12, fun t ht => ?_, fun t ht f l e => ?_, h14⟩
  · rw [h7]; cases ti.d <;> rfl
  · intro f off ft hf
    rw [h8] at hf
    cases hd : ti.d <;> rw [hd] at hf <;> simp only [fldsOf, List.getElem?_nil, reduceCtorEq] at hf
    rename_i fs
    simp only [List.getElem?_map, Option.map_eq_some_iff, Array.getElem?_toList, Prod.mk.injEq] at hf
    obtain ⟨fd, h, h1, h2⟩ := hf
    exact ⟨fs, fd, rfl, h, h1, h2⟩
  · intro fs hd f hf
    rw [h8, hd] at h9
    have := List.all_eq_true.1 h9 (f.offset, f.type) (by simp only [fldsOf, List.mem_map]; exact ⟨f, by simpa using hf, rfl⟩)
    exact Option.isSome_iff_exists.1 this
  · have := List.all_eq_true.1 h13 t ht
    cases t <;> first | rfl | (simp [lfB] at this)
  · have := List.all_eq_true.1 h13 t ht
    subst e
    simp [lfB] at this
def FnOk (P : Program) (f : FuncId) (s : FSpec) : Prop := Meets P f s ∧ ∃ fn, P.funcs[f]? = some fn ∧ fn.body.isNone = false ∧ (fn.name == "runtime.NumGoroutine") = false
theorem env_nil {P : Program} {tab : List (Nat × TI)} (h : EnvTy P ⟨tab, []⟩) : EnvOk P ⟨tab, []⟩ := ⟨h, fun f cs s h => (by cases h)⟩
theorem env_cons {P : Program} {tab : List (Nat × TI)} {l : List ((Nat × List Nat) × FSpec)} {f : Nat} {cs : List Nat} {s : FSpec} (hf : FnOk P f s) (h : EnvOk P ⟨tab, l⟩) : EnvOk P ⟨tab, ((f, cs), s) :: l⟩ := by
  refine ⟨h.ty, fun g ds t hg => ?_⟩
  simp only [findFn] at hg
  split at hg
  · rename_i e
    cases hg
    obtain ⟨rfl, _⟩ := e
    exact hf
  · exact h.fn g ds t hg
theorem fn_mkG {P : Program} {E : Env} {fid : FuncId} {fn : Func} {c : Code} {s : FSpec} (keep : List Nat) (outs : List ResultVar) (G : (List KI → St → Prop) → Prop) (hG : ∀ C : Cx, C.Ok → C.P = P → C.N = fn.ntmps → C.keep = keep → G (WP C)) (hE : EnvOk P E) (hm : P.follows .mixedOrders = true) (hf : P.funcs[fid]? = some fn) (hb : fn.body = some c)
    (hn : (fn.name == "runtime.NumGoroutine") = false) (hr : fn.results = outs.toArray) (hp : s.args.length ≤ fn.ntmps) (hkeep : (List.range s.args.length).all (keep.contains ·) = true)
    (h : ∀ ps, TyA s.args ps → s.pre ps → ∀ W, Rules E fn.ntmps keep (introTs 0 s.args ps).2.2 (finOf E outs s (introTs 0 s.args ps).1 ps) W → G W →
      W [.code c] ⟨numb 0 (introTs 0 s.args ps).1, [], (introTs 0 s.args ps).2.1, (introTs 0 s.args ps).2.2⟩) : FnOk P fid s :=
  ⟨meets_of_vc G hG hE hm hf hb hr hp (fun i hi => List.all_eq_true.1 hkeep i (by simpa using hi)) h, fn, hf, by rw [hb]; rfl, hn⟩
theorem fn_mk {P : Program} {E : Env} {fid : FuncId} {fn : Func} {c : Code} {s : FSpec} (keep : List Nat) (outs : List ResultVar) (hE : EnvOk P E) (hm : P.follows .mixedOrders = true) (hf : P.funcs[fid]? = some fn) (hb : fn.body = some c)
    (hn : (fn.name == "runtime.NumGoroutine") = false) (hr : fn.results = outs.toArray) (hp : s.args.length ≤ fn.ntmps) (hkeep : (List.range s.args.length).all (keep.contains ·) = true)
    (h : ∀ ps, TyA s.args ps → s.pre ps → ∀ W, Rules E fn.ntmps keep (introTs 0 s.args ps).2.2 (finOf E outs s (introTs 0 s.args ps).1 ps) W →
      W [.code c] ⟨numb 0 (introTs 0 s.args ps).1, [], (introTs 0 s.args ps).2.1, (introTs 0 s.args ps).2.2⟩) : FnOk P fid s :=
  fn_mkG keep outs (fun _ => True) (fun _ _ _ _ _ => trivial) hE hm hf hb hn hr hp hkeep fun ps h1 h2 W hW _ => h ps h1 h2 W hW
end Go.Proofs.YtkofjkjcbljkdaaGreatDoor
end

section
namespace Go.Proofs.YtkofjkjcbljkdaaGreatDoor
variable [LaidG]
def nth (es : List PV) (i : Nat) : PV := es.getD i PV.d
theorem nth_fold (es : List PV) (i : Nat) : es.getD i PV.d = nth es i := rfl
theorem nth_zero (a : PV) (l : List PV) : nth (a :: l) 0 = a := rfl
theorem nth_succ (a : PV) (l : List PV) (n : Nat) : nth (a :: l) (n + 1) = nth l n := rfl
theorem pv_I (k : IntKind) (n : Int) : (PV.int k n).I = n := rfl
theorem pv_B (n : Bool) : (PV.bool n).B = n := rfl
theorem pv_S (n : List UInt8) : (PV.str n).S = n := rfl
theorem pv_L (n : List PV) : (PV.list n).L = n := rfl
theorem pv_A (n : List PV) : (PV.agg n).A = n := rfl
theorem pv_at (p : PV) (i : Nat) : p.at i = nth p.A i := rfl
theorem lv_int (k : IntKind) (n : Int) : (PV.int k n).leaves = [.int k n] := rfl
theorem lv_bool (n : Bool) : (PV.bool n).leaves = [.bool n] := rfl
theorem lv_str (n : List UInt8) : (PV.str n).leaves = [.str n] := rfl
theorem lv_list (n : List PV) : (PV.list n).leaves = [.list n] := rfl
theorem lv_agg (n : List PV) : (PV.agg n).leaves = n := rfl
theorem nth_eq {es : List PV} {i : Nat} (h : i < es.length) : nth es i = es[i] := by simp [nth, h]
theorem nth_mem {es : List PV} {i : Nat} (h : i < es.length) : nth es i ∈ es := by rw [nth_eq h]; exact List.getElem_mem h
theorem drop_nth {es : List PV} {i : Nat} (h : i < es.length) : es.drop i = nth es i :: es.drop (i + 1) := by
  rw [nth_eq h]; exact (List.drop_eq_getElem_cons h)
theorem take_nth {es : List PV} {i : Nat} (h : i < es.length) : es.take (i + 1) = es.take i ++ [nth es i] := by
  rw [nth_eq h]; exact List.take_succ_eq_append_getElem h
theorem wrap64 {n : Int} (h : -9223372036854775808 ≤ n ∧ n ≤ 9223372036854775807) : IntKind.i64.wrap n = n := by
  simp [IntKind.wrap, IntKind.signed, IntKind.bits]; omega
theorem wrapU64 {n : Int} (h : 0 ≤ n ∧ n ≤ 9223372036854775807) : IntKind.u64.wrap n = n := by
  simp [IntKind.wrap, IntKind.signed, IntKind.bits]; omega
theorem inR64 {n : Int} : inR .i64 n ↔ -9223372036854775808 ≤ n ∧ n ≤ 9223372036854775807 := by
  simp [inR, IntKind.min, IntKind.max, IntKind.signed, IntKind.bits]
end Go.Proofs.YtkofjkjcbljkdaaGreatDoor
end

section
namespace Go.Proofs.YtkofjkjcbljkdaaGreatDoor
variable [LaidG]
set_option maxRecDepth 100000
noncomputable def T2 : TI := ⟨false, [.int .i64], 0, [], 8, .int .i64, false⟩
theorem T2_ok : TIok Tryz.prog 2 T2 := tiok_mk (i := Tryz.t2) Tryz.underlying2 Tryz.type2 rfl rfl rfl rfl rfl rfl (by kernel_rfl) (by decide) (by decide) (by decide) rfl (fun h => by cases h)
theorem T2_sz : T2.sz = 1 := rfl
theorem T2_pty : T2.pty = .int .i64 := rfl
noncomputable def T3 : TI := ⟨false, [.int .i64], 0, [], 8, .int .i64, false⟩
theorem T3_ok : TIok Tryz.prog 3 T3 := tiok_mk (i := Tryz.t3) Tryz.underlying3 Tryz.type3 rfl rfl rfl rfl rfl rfl (by kernel_rfl) (by decide) (by decide) (by decide) rfl (fun h => by cases h)
theorem T3_sz : T3.sz = 1 := rfl
theorem T3_pty : T3.pty = .int .i64 := rfl
noncomputable def T4 : TI := ⟨false, [.bool], 0, [], 1, .bool, false⟩
theorem T4_ok : TIok Tryz.prog 4 T4 := tiok_mk (i := Tryz.t4) Tryz.underlying4 Tryz.type4 rfl rfl rfl rfl rfl rfl (by kernel_rfl) (by decide) (by decide) (by decide) rfl (fun h => by cases h)
theorem T4_sz : T4.sz = 1 := rfl
theorem T4_pty : T4.pty = .bool := rfl
noncomputable def T5 : TI := ⟨false, [.int .u8], 0, [], 1, .int .u8, false⟩
theorem T5_ok : TIok Tryz.prog 5 T5 := tiok_mk (i := Tryz.t5) Tryz.underlying5 Tryz.type5 rfl rfl rfl rfl rfl rfl (by kernel_rfl) (by decide) (by decide) (by decide) rfl (fun h => by cases h)
theorem T5_sz : T5.sz = 1 := rfl
theorem T5_pty : T5.pty = .int .u8 := rfl
noncomputable def T6 : TI := ⟨false, [.int .u8], 0, [], 1, .int .u8, false⟩
theorem T6_ok : TIok Tryz.prog 6 T6 := tiok_mk (i := Tryz.t6) Tryz.underlying6 Tryz.type6 rfl rfl rfl rfl rfl rfl (by kernel_rfl) (by decide) (by decide) (by decide) rfl (fun h => by cases h)
theorem T6_sz : T6.sz = 1 := rfl
theorem T6_pty : T6.pty = .int .u8 := rfl
noncomputable def T7 : TI := ⟨true, [.int .i64, .int .i64, .bool, .int .u8], 0, [(0, 2), (1, 3), (2, 4), (3, 6)], 24, .struct (match Tryz.t7.desc with | .struct fs => fs | _ => #[]), true⟩
theorem T7_ok : TIok Tryz.prog 7 T7 := tiok_mk (i := Tryz.t7) Tryz.underlying7 Tryz.type7 rfl rfl rfl rfl rfl rfl (by kernel_rfl) (by decide) (by decide) (by decide) rfl (fun _ => ⟨Tryz.stoodInHeld7, Tryz.eqGuardType7⟩)
theorem T7_sz : T7.sz = 4 := rfl
theorem T7_pty : T7.pty = .agg [.int .i64, .int .i64, .bool, .int .u8] := rfl
noncomputable def T8 : TI := ⟨true, [.int .i64, .int .i64, .bool, .int .u8], 0, [(0, 2), (1, 3), (2, 4), (3, 6)], 24, .struct (match Tryz.t7.desc with | .struct fs => fs | _ => #[]), true⟩
theorem T8_ok : TIok Tryz.prog 8 T8 := tiok_mk (i := Tryz.t8) Tryz.underlying8 Tryz.type8 rfl rfl rfl rfl rfl rfl (by kernel_rfl) (by decide) (by decide) (by decide) rfl (fun _ => ⟨Tryz.stoodInHeld8, Tryz.eqGuardType8⟩)
theorem T8_sz : T8.sz = 4 := rfl
theorem T8_pty : T8.pty = .agg [.int .i64, .int .i64, .bool, .int .u8] := rfl
noncomputable def T9 : TI := ⟨false, [.str], 0, [], 16, .string, false⟩
theorem T9_ok : TIok Tryz.prog 9 T9 := tiok_mk (i := Tryz.t9) Tryz.underlying9 Tryz.type9 rfl rfl rfl rfl rfl rfl (by kernel_rfl) (by decide) (by decide) (by decide) rfl (fun h => by cases h)
theorem T9_sz : T9.sz = 1 := rfl
theorem T9_pty : T9.pty = .str := rfl
noncomputable def T10 : TI := ⟨false, [.str], 0, [], 16, .string, false⟩
theorem T10_ok : TIok Tryz.prog 10 T10 := tiok_mk (i := Tryz.t10) Tryz.underlying10 Tryz.type10 rfl rfl rfl rfl rfl rfl (by kernel_rfl) (by decide) (by decide) (by decide) rfl (fun h => by cases h)
theorem T10_sz : T10.sz = 1 := rfl
theorem T10_pty : T10.pty = .str := rfl
noncomputable def T11 : TI := ⟨false, [.str], 0, [], 16, .string, false⟩
theorem T11_ok : TIok Tryz.prog 11 T11 := tiok_mk (i := Tryz.t11) Tryz.underlying11 Tryz.type11 rfl rfl rfl rfl rfl rfl (by kernel_rfl) (by decide) (by decide) (by decide) rfl (fun h => by cases h)
theorem T11_sz : T11.sz = 1 := rfl
theorem T11_pty : T11.pty = .str := rfl
noncomputable def T12 : TI := ⟨false, [.int .u64], 0, [], 8, .int .u64, false⟩
theorem T12_ok : TIok Tryz.prog 12 T12 := tiok_mk (i := Tryz.t12) Tryz.underlying12 Tryz.type12 rfl rfl rfl rfl rfl rfl (by kernel_rfl) (by decide) (by decide) (by decide) rfl (fun h => by cases h)
theorem T12_sz : T12.sz = 1 := rfl
theorem T12_pty : T12.pty = .int .u64 := rfl
noncomputable def T13 : TI := ⟨true, [.str, .int .u64], 0, [(0, 9), (1, 12)], 24, .struct (match Tryz.t13.desc with | .struct fs => fs | _ => #[]), false⟩
theorem T13_ok : TIok Tryz.prog 13 T13 := tiok_mk (i := Tryz.t13) Tryz.underlying13 Tryz.type13 rfl rfl rfl rfl rfl rfl (by kernel_rfl) (by decide) (by decide) (by decide) rfl (fun h => by cases h)
theorem T13_sz : T13.sz = 2 := rfl
theorem T13_pty : T13.pty = .agg [.str, .int .u64] := rfl
noncomputable def T14 : TI := ⟨true, [.str, .int .u64], 0, [(0, 9), (1, 12)], 24, .struct (match Tryz.t13.desc with | .struct fs => fs | _ => #[]), false⟩
theorem T14_ok : TIok Tryz.prog 14 T14 := tiok_mk (i := Tryz.t14) Tryz.underlying14 Tryz.type14 rfl rfl rfl rfl rfl rfl (by kernel_rfl) (by decide) (by decide) (by decide) rfl (fun h => by cases h)
theorem T14_sz : T14.sz = 2 := rfl
theorem T14_pty : T14.pty = .agg [.str, .int .u64] := rfl
noncomputable def T15 : TI := ⟨false, [.opq], 0, [], 8, .pointer 304, false⟩
theorem T15_ok : TIok Tryz.prog 15 T15 := tiok_mk (i := Tryz.t15) Tryz.underlying15 Tryz.type15 rfl rfl rfl rfl rfl rfl (by kernel_rfl) (by decide) (by decide) (by decide) rfl (fun h => by cases h)
theorem T15_sz : T15.sz = 1 := rfl
theorem T15_pty : T15.pty = .opq := rfl
noncomputable def T16 : TI := ⟨false, [.opq], 0, [], 8, .pointer 307, false⟩
theorem T16_ok : TIok Tryz.prog 16 T16 := tiok_mk (i := Tryz.t16) Tryz.underlying16 Tryz.type16 rfl rfl rfl rfl rfl rfl (by kernel_rfl) (by decide) (by decide) (by decide) rfl (fun h => by cases h)
theorem T16_sz : T16.sz = 1 := rfl
theorem T16_pty : T16.pty = .opq := rfl
noncomputable def T17 : TI := ⟨false, [.opq], 0, [], 8, .pointer 314, false⟩
theorem T17_ok : TIok Tryz.prog 17 T17 := tiok_mk (i := Tryz.t17) Tryz.underlying17 Tryz.type17 rfl rfl rfl rfl rfl rfl (by kernel_rfl) (by decide) (by decide) (by decide) rfl (fun h => by cases h)
theorem T17_sz : T17.sz = 1 := rfl
theorem T17_pty : T17.pty = .opq := rfl
noncomputable def T18 : TI := ⟨true, [.opq], 0, [(0, 17)], 8, .struct (match Tryz.t18.desc with | .struct fs => fs | _ => #[]), false⟩
theorem T18_ok : TIok Tryz.prog 18 T18 := tiok_mk (i := Tryz.t18) Tryz.underlying18 Tryz.type18 rfl rfl rfl rfl rfl rfl (by kernel_rfl) (by decide) (by decide) (by decide) rfl (fun h => by cases h)
theorem T18_sz : T18.sz = 1 := rfl
theorem T18_pty : T18.pty = .agg [.opq] := rfl
noncomputable def T19 : TI := ⟨true, [.opq], 0, [(0, 17)], 8, .struct (match Tryz.t18.desc with | .struct fs => fs | _ => #[]), false⟩
theorem T19_ok : TIok Tryz.prog 19 T19 := tiok_mk (i := Tryz.t19) Tryz.underlying19 Tryz.type19 rfl rfl rfl rfl rfl rfl (by kernel_rfl) (by decide) (by decide) (by decide) rfl (fun h => by cases h)
theorem T19_sz : T19.sz = 1 := rfl
theorem T19_pty : T19.pty = .agg [.opq] := rfl
noncomputable def T21 : TI := ⟨false, [.int .i32], 0, [], 4, .int .i32, false⟩
theorem T21_ok : TIok Tryz.prog 21 T21 := tiok_mk (i := Tryz.t21) Tryz.underlying21 Tryz.type21 rfl rfl rfl rfl rfl rfl (by kernel_rfl) (by decide) (by decide) (by decide) rfl (fun h => by cases h)
theorem T21_sz : T21.sz = 1 := rfl
theorem T21_pty : T21.pty = .int .i32 := rfl
noncomputable def T22 : TI := ⟨false, [.list (.int .u8)], 5, [], 24, .slice 5, false⟩
theorem T22_ok : TIok Tryz.prog 22 T22 := tiok_mk (i := Tryz.t22) Tryz.underlying22 Tryz.type22 rfl rfl rfl rfl rfl rfl (by kernel_rfl) (by decide) (by decide) (by decide) rfl (fun h => by cases h)
theorem T22_sz : T22.sz = 1 := rfl
theorem T22_pty : T22.pty = .list (.int .u8) := rfl
noncomputable def T24 : TI := ⟨false, [.list (.str)], 9, [], 24, .slice 9, false⟩
theorem T24_ok : TIok Tryz.prog 24 T24 := tiok_mk (i := Tryz.t24) Tryz.underlying24 Tryz.type24 rfl rfl rfl rfl rfl rfl (by kernel_rfl) (by decide) (by decide) (by decide) rfl (fun h => by cases h)
theorem T24_sz : T24.sz = 1 := rfl
theorem T24_pty : T24.pty = .list (.str) := rfl
noncomputable def T26 : TI := ⟨false, [.list (.agg [.int .i64, .str])], 78, [], 24, .slice 78, false⟩
theorem T26_ok : TIok Tryz.prog 26 T26 := tiok_mk (i := Tryz.t26) Tryz.underlying26 Tryz.type26 rfl rfl rfl rfl rfl rfl (by kernel_rfl) (by decide) (by decide) (by decide) rfl (fun h => by cases h)
theorem T26_sz : T26.sz = 1 := rfl
theorem T26_pty : T26.pty = .list (.agg [.int .i64, .str]) := rfl
noncomputable def T27 : TI := ⟨true, [.int .i64, .int .i64, .bool, .int .i64, .int .i64, .list (.agg [.int .i64, .str])], 0, [(0, 3), (1, 3), (2, 4), (3, 3), (4, 3), (5, 26)], 64, .struct (match Tryz.t27.desc with | .struct fs => fs | _ => #[]), false⟩
theorem T27_ok : TIok Tryz.prog 27 T27 := tiok_mk (i := Tryz.t27) Tryz.underlying27 Tryz.type27 rfl rfl rfl rfl rfl rfl (by kernel_rfl) (by decide) (by decide) (by decide) rfl (fun h => by cases h)
theorem T27_sz : T27.sz = 6 := rfl
theorem T27_pty : T27.pty = .agg [.int .i64, .int .i64, .bool, .int .i64, .int .i64, .list (.agg [.int .i64, .str])] := rfl
noncomputable def T28 : TI := ⟨true, [.int .i64, .int .i64, .bool, .int .i64, .int .i64, .list (.agg [.int .i64, .str])], 0, [(0, 3), (1, 3), (2, 4), (3, 3), (4, 3), (5, 26)], 64, .struct (match Tryz.t27.desc with | .struct fs => fs | _ => #[]), false⟩
theorem T28_ok : TIok Tryz.prog 28 T28 := tiok_mk (i := Tryz.t28) Tryz.underlying28 Tryz.type28 rfl rfl rfl rfl rfl rfl (by kernel_rfl) (by decide) (by decide) (by decide) rfl (fun h => by cases h)
theorem T28_sz : T28.sz = 6 := rfl
theorem T28_pty : T28.pty = .agg [.int .i64, .int .i64, .bool, .int .i64, .int .i64, .list (.agg [.int .i64, .str])] := rfl
noncomputable def T34 : TI := ⟨true, [.int .i64, .int .i64, .int .i64, .list (.str)], 0, [(0, 3), (1, 3), (2, 3), (3, 24)], 48, .struct (match Tryz.t34.desc with | .struct fs => fs | _ => #[]), false⟩
theorem T34_ok : TIok Tryz.prog 34 T34 := tiok_mk (i := Tryz.t34) Tryz.underlying34 Tryz.type34 rfl rfl rfl rfl rfl rfl (by kernel_rfl) (by decide) (by decide) (by decide) rfl (fun h => by cases h)
theorem T34_sz : T34.sz = 4 := rfl
theorem T34_pty : T34.pty = .agg [.int .i64, .int .i64, .int .i64, .list (.str)] := rfl
noncomputable def T35 : TI := ⟨true, [.int .i64, .int .i64, .int .i64, .list (.str)], 0, [(0, 3), (1, 3), (2, 3), (3, 24)], 48, .struct (match Tryz.t34.desc with | .struct fs => fs | _ => #[]), false⟩
theorem T35_ok : TIok Tryz.prog 35 T35 := tiok_mk (i := Tryz.t35) Tryz.underlying35 Tryz.type35 rfl rfl rfl rfl rfl rfl (by kernel_rfl) (by decide) (by decide) (by decide) rfl (fun h => by cases h)
theorem T35_sz : T35.sz = 4 := rfl
theorem T35_pty : T35.pty = .agg [.int .i64, .int .i64, .int .i64, .list (.str)] := rfl
noncomputable def T43 : TI := ⟨false, [.list (.agg [.int .i64, .int .i64, .int .i64, .int .i64, .int .i64, .bool, .list (.agg [.int .i64, .str]), .int .i64, .int .i64, .int .i64, .list (.int .i64), .list (.int .i64), .list (.int .i64)])], 140, [], 24, .slice 140, false⟩
theorem T43_ok : TIok Tryz.prog 43 T43 := tiok_mk (i := Tryz.t43) Tryz.underlying43 Tryz.type43 rfl rfl rfl rfl rfl rfl (by kernel_rfl) (by decide) (by decide) (by decide) rfl (fun h => by cases h)
theorem T43_sz : T43.sz = 1 := rfl
theorem T43_pty : T43.pty = .list (.agg [.int .i64, .int .i64, .int .i64, .int .i64, .int .i64, .bool, .list (.agg [.int .i64, .str]), .int .i64, .int .i64, .int .i64, .list (.int .i64), .list (.int .i64), .list (.int .i64)]) := rfl
noncomputable def T44 : TI := ⟨false, [.list (.agg [.str, .int .i64])], 144, [], 24, .slice 144, false⟩
theorem T44_ok : TIok Tryz.prog 44 T44 := tiok_mk (i := Tryz.t44) Tryz.underlying44 Tryz.type44 rfl rfl rfl rfl rfl rfl (by kernel_rfl) (by decide) (by decide) (by decide) rfl (fun h => by cases h)
theorem T44_sz : T44.sz = 1 := rfl
theorem T44_pty : T44.pty = .list (.agg [.str, .int .i64]) := rfl
noncomputable def T45 : TI := ⟨false, [.list (.agg [.int .i64, .int .i64, .int .i64, .int .i64, .int .i64, .int .i64, .int .i64, .bool, .list (.agg [.int .i64, .str])])], 152, [], 24, .slice 152, false⟩
theorem T45_ok : TIok Tryz.prog 45 T45 := tiok_mk (i := Tryz.t45) Tryz.underlying45 Tryz.type45 rfl rfl rfl rfl rfl rfl (by kernel_rfl) (by decide) (by decide) (by decide) rfl (fun h => by cases h)
theorem T45_sz : T45.sz = 1 := rfl
theorem T45_pty : T45.pty = .list (.agg [.int .i64, .int .i64, .int .i64, .int .i64, .int .i64, .int .i64, .int .i64, .bool, .list (.agg [.int .i64, .str])]) := rfl
noncomputable def T46 : TI := ⟨true, [.list (.agg [.int .i64, .int .i64, .int .i64, .int .i64, .int .i64, .bool, .list (.agg [.int .i64, .str]), .int .i64, .int .i64, .int .i64, .list (.int .i64), .list (.int .i64), .list (.int .i64)]), .list (.agg [.str, .int .i64]), .list (.agg [.int .i64, .int .i64, .int .i64, .int .i64, .int .i64, .int .i64, .int .i64, .bool, .list (.agg [.int .i64, .str])]), .list (.str)], 0, [(0, 43), (1, 44), (2, 45), (3, 24)], 96, .struct (match Tryz.t46.desc with | .struct fs => fs | _ => #[]), false⟩
theorem T46_ok : TIok Tryz.prog 46 T46 := tiok_mk (i := Tryz.t46) Tryz.underlying46 Tryz.type46 rfl rfl rfl rfl rfl rfl (by kernel_rfl) (by decide) (by decide) (by decide) rfl (fun h => by cases h)
theorem T46_sz : T46.sz = 4 := rfl
theorem T46_pty : T46.pty = .agg [.list (.agg [.int .i64, .int .i64, .int .i64, .int .i64, .int .i64, .bool, .list (.agg [.int .i64, .str]), .int .i64, .int .i64, .int .i64, .list (.int .i64), .list (.int .i64), .list (.int .i64)]), .list (.agg [.str, .int .i64]), .list (.agg [.int .i64, .int .i64, .int .i64, .int .i64, .int .i64, .int .i64, .int .i64, .bool, .list (.agg [.int .i64, .str])]), .list (.str)] := rfl
noncomputable def T47 : TI := ⟨true, [.list (.agg [.int .i64, .int .i64, .int .i64, .int .i64, .int .i64, .bool, .list (.agg [.int .i64, .str]), .int .i64, .int .i64, .int .i64, .list (.int .i64), .list (.int .i64), .list (.int .i64)]), .list (.agg [.str, .int .i64]), .list (.agg [.int .i64, .int .i64, .int .i64, .int .i64, .int .i64, .int .i64, .int .i64, .bool, .list (.agg [.int .i64, .str])]), .list (.str)], 0, [(0, 43), (1, 44), (2, 45), (3, 24)], 96, .struct (match Tryz.t46.desc with | .struct fs => fs | _ => #[]), false⟩
theorem T47_ok : TIok Tryz.prog 47 T47 := tiok_mk (i := Tryz.t47) Tryz.underlying47 Tryz.type47 rfl rfl rfl rfl rfl rfl (by kernel_rfl) (by decide) (by decide) (by decide) rfl (fun h => by cases h)
theorem T47_sz : T47.sz = 4 := rfl
theorem T47_pty : T47.pty = .agg [.list (.agg [.int .i64, .int .i64, .int .i64, .int .i64, .int .i64, .bool, .list (.agg [.int .i64, .str]), .int .i64, .int .i64, .int .i64, .list (.int .i64), .list (.int .i64), .list (.int .i64)]), .list (.agg [.str, .int .i64]), .list (.agg [.int .i64, .int .i64, .int .i64, .int .i64, .int .i64, .int .i64, .int .i64, .bool, .list (.agg [.int .i64, .str])]), .list (.str)] := rfl
noncomputable def T48 : TI := ⟨false, [.list (.agg [.int .i64, .str, .str, .int .i64, .int .i64, .int .i64, .list (.str)])], 91, [], 24, .slice 91, false⟩
theorem T48_ok : TIok Tryz.prog 48 T48 := tiok_mk (i := Tryz.t48) Tryz.underlying48 Tryz.type48 rfl rfl rfl rfl rfl rfl (by kernel_rfl) (by decide) (by decide) (by decide) rfl (fun h => by cases h)
theorem T48_sz : T48.sz = 1 := rfl
theorem T48_pty : T48.pty = .list (.agg [.int .i64, .str, .str, .int .i64, .int .i64, .int .i64, .list (.str)]) := rfl
noncomputable def T49 : TI := ⟨true, [.int .i64, .int .i64, .list (.agg [.int .i64, .int .i64, .int .i64, .int .i64, .int .i64, .bool, .list (.agg [.int .i64, .str]), .int .i64, .int .i64, .int .i64, .list (.int .i64), .list (.int .i64), .list (.int .i64)]), .list (.agg [.str, .int .i64]), .list (.agg [.int .i64, .int .i64, .int .i64, .int .i64, .int .i64, .int .i64, .int .i64, .bool, .list (.agg [.int .i64, .str])]), .list (.str), .list (.agg [.int .i64, .str, .str, .int .i64, .int .i64, .int .i64, .list (.str)])], 0, [(0, 3), (1, 3), (2, 47), (6, 48)], 136, .struct (match Tryz.t49.desc with | .struct fs => fs | _ => #[]), false⟩
theorem T49_ok : TIok Tryz.prog 49 T49 := tiok_mk (i := Tryz.t49) Tryz.underlying49 Tryz.type49 rfl rfl rfl rfl rfl rfl (by kernel_rfl) (by decide) (by decide) (by decide) rfl (fun h => by cases h)
theorem T49_sz : T49.sz = 7 := rfl
theorem T49_pty : T49.pty = .agg [.int .i64, .int .i64, .list (.agg [.int .i64, .int .i64, .int .i64, .int .i64, .int .i64, .bool, .list (.agg [.int .i64, .str]), .int .i64, .int .i64, .int .i64, .list (.int .i64), .list (.int .i64), .list (.int .i64)]), .list (.agg [.str, .int .i64]), .list (.agg [.int .i64, .int .i64, .int .i64, .int .i64, .int .i64, .int .i64, .int .i64, .bool, .list (.agg [.int .i64, .str])]), .list (.str), .list (.agg [.int .i64, .str, .str, .int .i64, .int .i64, .int .i64, .list (.str)])] := rfl
noncomputable def T50 : TI := ⟨true, [.int .i64, .int .i64, .list (.agg [.int .i64, .int .i64, .int .i64, .int .i64, .int .i64, .bool, .list (.agg [.int .i64, .str]), .int .i64, .int .i64, .int .i64, .list (.int .i64), .list (.int .i64), .list (.int .i64)]), .list (.agg [.str, .int .i64]), .list (.agg [.int .i64, .int .i64, .int .i64, .int .i64, .int .i64, .int .i64, .int .i64, .bool, .list (.agg [.int .i64, .str])]), .list (.str), .list (.agg [.int .i64, .str, .str, .int .i64, .int .i64, .int .i64, .list (.str)])], 0, [(0, 3), (1, 3), (2, 47), (6, 48)], 136, .struct (match Tryz.t49.desc with | .struct fs => fs | _ => #[]), false⟩
theorem T50_ok : TIok Tryz.prog 50 T50 := tiok_mk (i := Tryz.t50) Tryz.underlying50 Tryz.type50 rfl rfl rfl rfl rfl rfl (by kernel_rfl) (by decide) (by decide) (by decide) rfl (fun h => by cases h)
theorem T50_sz : T50.sz = 7 := rfl
theorem T50_pty : T50.pty = .agg [.int .i64, .int .i64, .list (.agg [.int .i64, .int .i64, .int .i64, .int .i64, .int .i64, .bool, .list (.agg [.int .i64, .str]), .int .i64, .int .i64, .int .i64, .list (.int .i64), .list (.int .i64), .list (.int .i64)]), .list (.agg [.str, .int .i64]), .list (.agg [.int .i64, .int .i64, .int .i64, .int .i64, .int .i64, .int .i64, .int .i64, .bool, .list (.agg [.int .i64, .str])]), .list (.str), .list (.agg [.int .i64, .str, .str, .int .i64, .int .i64, .int .i64, .list (.str)])] := rfl
noncomputable def T56 : TI := ⟨false, [.list (.agg [.int .i64, .int .i64, .int .i64, .int .i64, .int .i64, .bool, .list (.agg [.int .i64, .str]), .int .i64, .int .i64, .int .i64, .list (.int .i64), .list (.int .i64), .list (.int .i64)])], 199, [], 24, .slice 199, false⟩
theorem T56_ok : TIok Tryz.prog 56 T56 := tiok_mk (i := Tryz.t56) Tryz.underlying56 Tryz.type56 rfl rfl rfl rfl rfl rfl (by kernel_rfl) (by decide) (by decide) (by decide) rfl (fun h => by cases h)
theorem T56_sz : T56.sz = 1 := rfl
theorem T56_pty : T56.pty = .list (.agg [.int .i64, .int .i64, .int .i64, .int .i64, .int .i64, .bool, .list (.agg [.int .i64, .str]), .int .i64, .int .i64, .int .i64, .list (.int .i64), .list (.int .i64), .list (.int .i64)]) := rfl
noncomputable def T57 : TI := ⟨false, [.list (.agg [.str, .int .i64])], 201, [], 24, .slice 201, false⟩
theorem T57_ok : TIok Tryz.prog 57 T57 := tiok_mk (i := Tryz.t57) Tryz.underlying57 Tryz.type57 rfl rfl rfl rfl rfl rfl (by kernel_rfl) (by decide) (by decide) (by decide) rfl (fun h => by cases h)
theorem T57_sz : T57.sz = 1 := rfl
theorem T57_pty : T57.pty = .list (.agg [.str, .int .i64]) := rfl
noncomputable def T58 : TI := ⟨false, [.list (.agg [.int .i64, .int .i64, .int .i64, .int .i64, .int .i64, .int .i64, .int .i64, .bool, .list (.agg [.int .i64, .str])])], 204, [], 24, .slice 204, false⟩
theorem T58_ok : TIok Tryz.prog 58 T58 := tiok_mk (i := Tryz.t58) Tryz.underlying58 Tryz.type58 rfl rfl rfl rfl rfl rfl (by kernel_rfl) (by decide) (by decide) (by decide) rfl (fun h => by cases h)
theorem T58_sz : T58.sz = 1 := rfl
theorem T58_pty : T58.pty = .list (.agg [.int .i64, .int .i64, .int .i64, .int .i64, .int .i64, .int .i64, .int .i64, .bool, .list (.agg [.int .i64, .str])]) := rfl
noncomputable def T59 : TI := ⟨true, [.list (.agg [.int .i64, .int .i64, .int .i64, .int .i64, .int .i64, .bool, .list (.agg [.int .i64, .str]), .int .i64, .int .i64, .int .i64, .list (.int .i64), .list (.int .i64), .list (.int .i64)]), .list (.agg [.str, .int .i64]), .list (.agg [.int .i64, .int .i64, .int .i64, .int .i64, .int .i64, .int .i64, .int .i64, .bool, .list (.agg [.int .i64, .str])]), .list (.str)], 0, [(0, 56), (1, 57), (2, 58), (3, 24)], 96, .struct (match Tryz.t59.desc with | .struct fs => fs | _ => #[]), false⟩
theorem T59_ok : TIok Tryz.prog 59 T59 := tiok_mk (i := Tryz.t59) Tryz.underlying59 Tryz.type59 rfl rfl rfl rfl rfl rfl (by kernel_rfl) (by decide) (by decide) (by decide) rfl (fun h => by cases h)
theorem T59_sz : T59.sz = 4 := rfl
theorem T59_pty : T59.pty = .agg [.list (.agg [.int .i64, .int .i64, .int .i64, .int .i64, .int .i64, .bool, .list (.agg [.int .i64, .str]), .int .i64, .int .i64, .int .i64, .list (.int .i64), .list (.int .i64), .list (.int .i64)]), .list (.agg [.str, .int .i64]), .list (.agg [.int .i64, .int .i64, .int .i64, .int .i64, .int .i64, .int .i64, .int .i64, .bool, .list (.agg [.int .i64, .str])]), .list (.str)] := rfl
noncomputable def T60 : TI := ⟨true, [.list (.agg [.int .i64, .int .i64, .int .i64, .int .i64, .int .i64, .bool, .list (.agg [.int .i64, .str]), .int .i64, .int .i64, .int .i64, .list (.int .i64), .list (.int .i64), .list (.int .i64)]), .list (.agg [.str, .int .i64]), .list (.agg [.int .i64, .int .i64, .int .i64, .int .i64, .int .i64, .int .i64, .int .i64, .bool, .list (.agg [.int .i64, .str])]), .list (.str)], 0, [(0, 56), (1, 57), (2, 58), (3, 24)], 96, .struct (match Tryz.t59.desc with | .struct fs => fs | _ => #[]), false⟩
theorem T60_ok : TIok Tryz.prog 60 T60 := tiok_mk (i := Tryz.t60) Tryz.underlying60 Tryz.type60 rfl rfl rfl rfl rfl rfl (by kernel_rfl) (by decide) (by decide) (by decide) rfl (fun h => by cases h)
theorem T60_sz : T60.sz = 4 := rfl
theorem T60_pty : T60.pty = .agg [.list (.agg [.int .i64, .int .i64, .int .i64, .int .i64, .int .i64, .bool, .list (.agg [.int .i64, .str]), .int .i64, .int .i64, .int .i64, .list (.int .i64), .list (.int .i64), .list (.int .i64)]), .list (.agg [.str, .int .i64]), .list (.agg [.int .i64, .int .i64, .int .i64, .int .i64, .int .i64, .int .i64, .int .i64, .bool, .list (.agg [.int .i64, .str])]), .list (.str)] := rfl
noncomputable def T61 : TI := ⟨false, [.list (.agg [.int .i64, .str, .str, .int .i64, .int .i64, .int .i64, .list (.str)])], 137, [], 24, .slice 137, false⟩
theorem T61_ok : TIok Tryz.prog 61 T61 := tiok_mk (i := Tryz.t61) Tryz.underlying61 Tryz.type61 rfl rfl rfl rfl rfl rfl (by kernel_rfl) (by decide) (by decide) (by decide) rfl (fun h => by cases h)
theorem T61_sz : T61.sz = 1 := rfl
theorem T61_pty : T61.pty = .list (.agg [.int .i64, .str, .str, .int .i64, .int .i64, .int .i64, .list (.str)]) := rfl
noncomputable def T62 : TI := ⟨true, [.int .i64, .int .i64, .list (.agg [.int .i64, .int .i64, .int .i64, .int .i64, .int .i64, .bool, .list (.agg [.int .i64, .str]), .int .i64, .int .i64, .int .i64, .list (.int .i64), .list (.int .i64), .list (.int .i64)]), .list (.agg [.str, .int .i64]), .list (.agg [.int .i64, .int .i64, .int .i64, .int .i64, .int .i64, .int .i64, .int .i64, .bool, .list (.agg [.int .i64, .str])]), .list (.str), .list (.agg [.int .i64, .str, .str, .int .i64, .int .i64, .int .i64, .list (.str)])], 0, [(0, 3), (1, 3), (2, 60), (6, 61)], 136, .struct (match Tryz.t62.desc with | .struct fs => fs | _ => #[]), false⟩
theorem T62_ok : TIok Tryz.prog 62 T62 := tiok_mk (i := Tryz.t62) Tryz.underlying62 Tryz.type62 rfl rfl rfl rfl rfl rfl (by kernel_rfl) (by decide) (by decide) (by decide) rfl (fun h => by cases h)
theorem T62_sz : T62.sz = 7 := rfl
theorem T62_pty : T62.pty = .agg [.int .i64, .int .i64, .list (.agg [.int .i64, .int .i64, .int .i64, .int .i64, .int .i64, .bool, .list (.agg [.int .i64, .str]), .int .i64, .int .i64, .int .i64, .list (.int .i64), .list (.int .i64), .list (.int .i64)]), .list (.agg [.str, .int .i64]), .list (.agg [.int .i64, .int .i64, .int .i64, .int .i64, .int .i64, .int .i64, .int .i64, .bool, .list (.agg [.int .i64, .str])]), .list (.str), .list (.agg [.int .i64, .str, .str, .int .i64, .int .i64, .int .i64, .list (.str)])] := rfl
noncomputable def T63 : TI := ⟨true, [.int .i64, .int .i64, .list (.agg [.int .i64, .int .i64, .int .i64, .int .i64, .int .i64, .bool, .list (.agg [.int .i64, .str]), .int .i64, .int .i64, .int .i64, .list (.int .i64), .list (.int .i64), .list (.int .i64)]), .list (.agg [.str, .int .i64]), .list (.agg [.int .i64, .int .i64, .int .i64, .int .i64, .int .i64, .int .i64, .int .i64, .bool, .list (.agg [.int .i64, .str])]), .list (.str), .list (.agg [.int .i64, .str, .str, .int .i64, .int .i64, .int .i64, .list (.str)])], 0, [(0, 3), (1, 3), (2, 60), (6, 61)], 136, .struct (match Tryz.t62.desc with | .struct fs => fs | _ => #[]), false⟩
theorem T63_ok : TIok Tryz.prog 63 T63 := tiok_mk (i := Tryz.t63) Tryz.underlying63 Tryz.type63 rfl rfl rfl rfl rfl rfl (by kernel_rfl) (by decide) (by decide) (by decide) rfl (fun h => by cases h)
theorem T63_sz : T63.sz = 7 := rfl
theorem T63_pty : T63.pty = .agg [.int .i64, .int .i64, .list (.agg [.int .i64, .int .i64, .int .i64, .int .i64, .int .i64, .bool, .list (.agg [.int .i64, .str]), .int .i64, .int .i64, .int .i64, .list (.int .i64), .list (.int .i64), .list (.int .i64)]), .list (.agg [.str, .int .i64]), .list (.agg [.int .i64, .int .i64, .int .i64, .int .i64, .int .i64, .int .i64, .int .i64, .bool, .list (.agg [.int .i64, .str])]), .list (.str), .list (.agg [.int .i64, .str, .str, .int .i64, .int .i64, .int .i64, .list (.str)])] := rfl
noncomputable def T68 : TI := ⟨false, [.opq], 0, [], 8, .pointer 95, false⟩
theorem T68_ok : TIok Tryz.prog 68 T68 := tiok_mk (i := Tryz.t68) Tryz.underlying68 Tryz.type68 rfl rfl rfl rfl rfl rfl (by kernel_rfl) (by decide) (by decide) (by decide) rfl (fun h => by cases h)
theorem T68_sz : T68.sz = 1 := rfl
theorem T68_pty : T68.pty = .opq := rfl
noncomputable def T77 : TI := ⟨true, [.int .i64, .str], 0, [(0, 3), (1, 9)], 24, .struct (match Tryz.t77.desc with | .struct fs => fs | _ => #[]), true⟩
theorem T77_ok : TIok Tryz.prog 77 T77 := tiok_mk (i := Tryz.t77) Tryz.underlying77 Tryz.type77 rfl rfl rfl rfl rfl rfl (by kernel_rfl) (by decide) (by decide) (by decide) rfl (fun _ => ⟨Tryz.stoodInHeld77, Tryz.eqGuardType77⟩)
theorem T77_sz : T77.sz = 2 := rfl
theorem T77_pty : T77.pty = .agg [.int .i64, .str] := rfl
noncomputable def T78 : TI := ⟨true, [.int .i64, .str], 0, [(0, 3), (1, 9)], 24, .struct (match Tryz.t77.desc with | .struct fs => fs | _ => #[]), true⟩
theorem T78_ok : TIok Tryz.prog 78 T78 := tiok_mk (i := Tryz.t78) Tryz.underlying78 Tryz.type78 rfl rfl rfl rfl rfl rfl (by kernel_rfl) (by decide) (by decide) (by decide) rfl (fun _ => ⟨Tryz.stoodInHeld78, Tryz.eqGuardType78⟩)
theorem T78_sz : T78.sz = 2 := rfl
theorem T78_pty : T78.pty = .agg [.int .i64, .str] := rfl
noncomputable def T90 : TI := ⟨true, [.int .i64, .str, .str, .int .i64, .int .i64, .int .i64, .list (.str)], 0, [(0, 3), (1, 9), (2, 9), (3, 35)], 88, .struct (match Tryz.t90.desc with | .struct fs => fs | _ => #[]), false⟩
theorem T90_ok : TIok Tryz.prog 90 T90 := tiok_mk (i := Tryz.t90) Tryz.underlying90 Tryz.type90 rfl rfl rfl rfl rfl rfl (by kernel_rfl) (by decide) (by decide) (by decide) rfl (fun h => by cases h)
theorem T90_sz : T90.sz = 7 := rfl
theorem T90_pty : T90.pty = .agg [.int .i64, .str, .str, .int .i64, .int .i64, .int .i64, .list (.str)] := rfl
noncomputable def T91 : TI := ⟨true, [.int .i64, .str, .str, .int .i64, .int .i64, .int .i64, .list (.str)], 0, [(0, 3), (1, 9), (2, 9), (3, 35)], 88, .struct (match Tryz.t90.desc with | .struct fs => fs | _ => #[]), false⟩
theorem T91_ok : TIok Tryz.prog 91 T91 := tiok_mk (i := Tryz.t91) Tryz.underlying91 Tryz.type91 rfl rfl rfl rfl rfl rfl (by kernel_rfl) (by decide) (by decide) (by decide) rfl (fun h => by cases h)
theorem T91_sz : T91.sz = 7 := rfl
theorem T91_pty : T91.pty = .agg [.int .i64, .str, .str, .int .i64, .int .i64, .int .i64, .list (.str)] := rfl
noncomputable def T94 : TI := ⟨true, [.list (.int .u8), .int .i64, .int .i64], 0, [(0, 22), (1, 3), (2, 3)], 40, .struct (match Tryz.t94.desc with | .struct fs => fs | _ => #[]), false⟩
theorem T94_ok : TIok Tryz.prog 94 T94 := tiok_mk (i := Tryz.t94) Tryz.underlying94 Tryz.type94 rfl rfl rfl rfl rfl rfl (by kernel_rfl) (by decide) (by decide) (by decide) rfl (fun h => by cases h)
theorem T94_sz : T94.sz = 3 := rfl
theorem T94_pty : T94.pty = .agg [.list (.int .u8), .int .i64, .int .i64] := rfl
noncomputable def T95 : TI := ⟨true, [.list (.int .u8), .int .i64, .int .i64], 0, [(0, 22), (1, 3), (2, 3)], 40, .struct (match Tryz.t94.desc with | .struct fs => fs | _ => #[]), false⟩
theorem T95_ok : TIok Tryz.prog 95 T95 := tiok_mk (i := Tryz.t95) Tryz.underlying95 Tryz.type95 rfl rfl rfl rfl rfl rfl (by kernel_rfl) (by decide) (by decide) (by decide) rfl (fun h => by cases h)
theorem T95_sz : T95.sz = 3 := rfl
theorem T95_pty : T95.pty = .agg [.list (.int .u8), .int .i64, .int .i64] := rfl
noncomputable def T96 : TI := ⟨false, [.list (.agg [.int .i64, .int .i64])], 174, [], 24, .slice 174, false⟩
theorem T96_ok : TIok Tryz.prog 96 T96 := tiok_mk (i := Tryz.t96) Tryz.underlying96 Tryz.type96 rfl rfl rfl rfl rfl rfl (by kernel_rfl) (by decide) (by decide) (by decide) rfl (fun h => by cases h)
theorem T96_sz : T96.sz = 1 := rfl
theorem T96_pty : T96.pty = .list (.agg [.int .i64, .int .i64]) := rfl
noncomputable def T97 : TI := ⟨true, [.int .i64, .int .i64, .int .i64, .int .i64, .int .i64, .int .i64, .int .i64, .int .i64, .int .i64, .str, .list (.agg [.int .i64, .int .i64]), .list (.str)], 0, [(0, 3), (1, 3), (2, 3), (3, 3), (4, 3), (5, 3), (6, 3), (7, 3), (8, 3), (9, 9), (10, 96), (11, 24)], 136, .struct (match Tryz.t97.desc with | .struct fs => fs | _ => #[]), false⟩
theorem T97_ok : TIok Tryz.prog 97 T97 := tiok_mk (i := Tryz.t97) Tryz.underlying97 Tryz.type97 rfl rfl rfl rfl rfl rfl (by kernel_rfl) (by decide) (by decide) (by decide) rfl (fun h => by cases h)
theorem T97_sz : T97.sz = 12 := rfl
theorem T97_pty : T97.pty = .agg [.int .i64, .int .i64, .int .i64, .int .i64, .int .i64, .int .i64, .int .i64, .int .i64, .int .i64, .str, .list (.agg [.int .i64, .int .i64]), .list (.str)] := rfl
noncomputable def T98 : TI := ⟨true, [.int .i64, .int .i64, .int .i64, .int .i64, .int .i64, .int .i64, .int .i64, .int .i64, .int .i64, .str, .list (.agg [.int .i64, .int .i64]), .list (.str)], 0, [(0, 3), (1, 3), (2, 3), (3, 3), (4, 3), (5, 3), (6, 3), (7, 3), (8, 3), (9, 9), (10, 96), (11, 24)], 136, .struct (match Tryz.t97.desc with | .struct fs => fs | _ => #[]), false⟩
theorem T98_ok : TIok Tryz.prog 98 T98 := tiok_mk (i := Tryz.t98) Tryz.underlying98 Tryz.type98 rfl rfl rfl rfl rfl rfl (by kernel_rfl) (by decide) (by decide) (by decide) rfl (fun h => by cases h)
theorem T98_sz : T98.sz = 12 := rfl
theorem T98_pty : T98.pty = .agg [.int .i64, .int .i64, .int .i64, .int .i64, .int .i64, .int .i64, .int .i64, .int .i64, .int .i64, .str, .list (.agg [.int .i64, .int .i64]), .list (.str)] := rfl
noncomputable def T100 : TI := ⟨false, [.list (.int .i64)], 3, [], 24, .slice 3, false⟩
theorem T100_ok : TIok Tryz.prog 100 T100 := tiok_mk (i := Tryz.t100) Tryz.underlying100 Tryz.type100 rfl rfl rfl rfl rfl rfl (by kernel_rfl) (by decide) (by decide) (by decide) rfl (fun h => by cases h)
theorem T100_sz : T100.sz = 1 := rfl
theorem T100_pty : T100.pty = .list (.int .i64) := rfl
noncomputable def T101 : TI := ⟨true, [.int .i64, .list (.int .i64), .bool, .str, .str], 0, [(0, 3), (1, 100), (2, 4), (3, 9), (4, 9)], 72, .struct (match Tryz.t101.desc with | .struct fs => fs | _ => #[]), false⟩
theorem T101_ok : TIok Tryz.prog 101 T101 := tiok_mk (i := Tryz.t101) Tryz.underlying101 Tryz.type101 rfl rfl rfl rfl rfl rfl (by kernel_rfl) (by decide) (by decide) (by decide) rfl (fun h => by cases h)
theorem T101_sz : T101.sz = 5 := rfl
theorem T101_pty : T101.pty = .agg [.int .i64, .list (.int .i64), .bool, .str, .str] := rfl
noncomputable def T102 : TI := ⟨true, [.int .i64, .list (.int .i64), .bool, .str, .str], 0, [(0, 3), (1, 100), (2, 4), (3, 9), (4, 9)], 72, .struct (match Tryz.t101.desc with | .struct fs => fs | _ => #[]), false⟩
theorem T102_ok : TIok Tryz.prog 102 T102 := tiok_mk (i := Tryz.t102) Tryz.underlying102 Tryz.type102 rfl rfl rfl rfl rfl rfl (by kernel_rfl) (by decide) (by decide) (by decide) rfl (fun h => by cases h)
theorem T102_sz : T102.sz = 5 := rfl
theorem T102_pty : T102.pty = .agg [.int .i64, .list (.int .i64), .bool, .str, .str] := rfl
noncomputable def T135 : TI := ⟨true, [.int .i64, .int .i64, .int .i64, .list (.str)], 0, [(0, 3), (1, 3), (2, 3), (3, 24)], 48, .struct (match Tryz.t34.desc with | .struct fs => fs | _ => #[]), false⟩
theorem T135_ok : TIok Tryz.prog 135 T135 := tiok_mk (i := Tryz.t135) Tryz.underlying135 Tryz.type135 rfl rfl rfl rfl rfl rfl (by kernel_rfl) (by decide) (by decide) (by decide) rfl (fun h => by cases h)
theorem T135_sz : T135.sz = 4 := rfl
theorem T135_pty : T135.pty = .agg [.int .i64, .int .i64, .int .i64, .list (.str)] := rfl
noncomputable def T136 : TI := ⟨true, [.int .i64, .str, .str, .int .i64, .int .i64, .int .i64, .list (.str)], 0, [(0, 3), (1, 9), (2, 9), (3, 135)], 88, .struct (match Tryz.t136.desc with | .struct fs => fs | _ => #[]), false⟩
theorem T136_ok : TIok Tryz.prog 136 T136 := tiok_mk (i := Tryz.t136) Tryz.underlying136 Tryz.type136 rfl rfl rfl rfl rfl rfl (by kernel_rfl) (by decide) (by decide) (by decide) rfl (fun h => by cases h)
theorem T136_sz : T136.sz = 7 := rfl
theorem T136_pty : T136.pty = .agg [.int .i64, .str, .str, .int .i64, .int .i64, .int .i64, .list (.str)] := rfl
noncomputable def T137 : TI := ⟨true, [.int .i64, .str, .str, .int .i64, .int .i64, .int .i64, .list (.str)], 0, [(0, 3), (1, 9), (2, 9), (3, 135)], 88, .struct (match Tryz.t136.desc with | .struct fs => fs | _ => #[]), false⟩
theorem T137_ok : TIok Tryz.prog 137 T137 := tiok_mk (i := Tryz.t137) Tryz.underlying137 Tryz.type137 rfl rfl rfl rfl rfl rfl (by kernel_rfl) (by decide) (by decide) (by decide) rfl (fun h => by cases h)
theorem T137_sz : T137.sz = 7 := rfl
theorem T137_pty : T137.pty = .agg [.int .i64, .str, .str, .int .i64, .int .i64, .int .i64, .list (.str)] := rfl
noncomputable def T138 : TI := ⟨false, [.list (.agg [.int .i64, .str])], 213, [], 24, .slice 213, false⟩
theorem T138_ok : TIok Tryz.prog 138 T138 := tiok_mk (i := Tryz.t138) Tryz.underlying138 Tryz.type138 rfl rfl rfl rfl rfl rfl (by kernel_rfl) (by decide) (by decide) (by decide) rfl (fun h => by cases h)
theorem T138_sz : T138.sz = 1 := rfl
theorem T138_pty : T138.pty = .list (.agg [.int .i64, .str]) := rfl
noncomputable def T139 : TI := ⟨true, [.int .i64, .int .i64, .int .i64, .int .i64, .int .i64, .bool, .list (.agg [.int .i64, .str]), .int .i64, .int .i64, .int .i64, .list (.int .i64), .list (.int .i64), .list (.int .i64)], 0, [(0, 3), (1, 3), (2, 3), (3, 3), (4, 3), (5, 4), (6, 138), (7, 3), (8, 3), (9, 3), (10, 100), (11, 100), (12, 100)], 168, .struct (match Tryz.t139.desc with | .struct fs => fs | _ => #[]), false⟩
theorem T139_ok : TIok Tryz.prog 139 T139 := tiok_mk (i := Tryz.t139) Tryz.underlying139 Tryz.type139 rfl rfl rfl rfl rfl rfl (by kernel_rfl) (by decide) (by decide) (by decide) rfl (fun h => by cases h)
theorem T139_sz : T139.sz = 13 := rfl
theorem T139_pty : T139.pty = .agg [.int .i64, .int .i64, .int .i64, .int .i64, .int .i64, .bool, .list (.agg [.int .i64, .str]), .int .i64, .int .i64, .int .i64, .list (.int .i64), .list (.int .i64), .list (.int .i64)] := rfl
noncomputable def T140 : TI := ⟨true, [.int .i64, .int .i64, .int .i64, .int .i64, .int .i64, .bool, .list (.agg [.int .i64, .str]), .int .i64, .int .i64, .int .i64, .list (.int .i64), .list (.int .i64), .list (.int .i64)], 0, [(0, 3), (1, 3), (2, 3), (3, 3), (4, 3), (5, 4), (6, 138), (7, 3), (8, 3), (9, 3), (10, 100), (11, 100), (12, 100)], 168, .struct (match Tryz.t139.desc with | .struct fs => fs | _ => #[]), false⟩
theorem T140_ok : TIok Tryz.prog 140 T140 := tiok_mk (i := Tryz.t140) Tryz.underlying140 Tryz.type140 rfl rfl rfl rfl rfl rfl (by kernel_rfl) (by decide) (by decide) (by decide) rfl (fun h => by cases h)
theorem T140_sz : T140.sz = 13 := rfl
theorem T140_pty : T140.pty = .agg [.int .i64, .int .i64, .int .i64, .int .i64, .int .i64, .bool, .list (.agg [.int .i64, .str]), .int .i64, .int .i64, .int .i64, .list (.int .i64), .list (.int .i64), .list (.int .i64)] := rfl
noncomputable def T143 : TI := ⟨true, [.str, .int .i64], 0, [(0, 9), (1, 3)], 24, .struct (match Tryz.t143.desc with | .struct fs => fs | _ => #[]), true⟩
theorem T143_ok : TIok Tryz.prog 143 T143 := tiok_mk (i := Tryz.t143) Tryz.underlying143 Tryz.type143 rfl rfl rfl rfl rfl rfl (by kernel_rfl) (by decide) (by decide) (by decide) rfl (fun _ => ⟨Tryz.stoodInHeld143, Tryz.eqGuardType143⟩)
theorem T143_sz : T143.sz = 2 := rfl
theorem T143_pty : T143.pty = .agg [.str, .int .i64] := rfl
noncomputable def T144 : TI := ⟨true, [.str, .int .i64], 0, [(0, 9), (1, 3)], 24, .struct (match Tryz.t143.desc with | .struct fs => fs | _ => #[]), true⟩
theorem T144_ok : TIok Tryz.prog 144 T144 := tiok_mk (i := Tryz.t144) Tryz.underlying144 Tryz.type144 rfl rfl rfl rfl rfl rfl (by kernel_rfl) (by decide) (by decide) (by decide) rfl (fun _ => ⟨Tryz.stoodInHeld144, Tryz.eqGuardType144⟩)
theorem T144_sz : T144.sz = 2 := rfl
theorem T144_pty : T144.pty = .agg [.str, .int .i64] := rfl
noncomputable def T145 : TI := ⟨true, [.int .i64, .int .i64, .list (.agg [.int .i64, .str])], 0, [(0, 3), (1, 3), (2, 138)], 40, .struct (match Tryz.t145.desc with | .struct fs => fs | _ => #[]), false⟩
theorem T145_ok : TIok Tryz.prog 145 T145 := tiok_mk (i := Tryz.t145) Tryz.underlying145 Tryz.type145 rfl rfl rfl rfl rfl rfl (by kernel_rfl) (by decide) (by decide) (by decide) rfl (fun h => by cases h)
theorem T145_sz : T145.sz = 3 := rfl
theorem T145_pty : T145.pty = .agg [.int .i64, .int .i64, .list (.agg [.int .i64, .str])] := rfl
noncomputable def T146 : TI := ⟨true, [.int .i64, .int .i64, .list (.agg [.int .i64, .str])], 0, [(0, 3), (1, 3), (2, 138)], 40, .struct (match Tryz.t145.desc with | .struct fs => fs | _ => #[]), false⟩
theorem T146_ok : TIok Tryz.prog 146 T146 := tiok_mk (i := Tryz.t146) Tryz.underlying146 Tryz.type146 rfl rfl rfl rfl rfl rfl (by kernel_rfl) (by decide) (by decide) (by decide) rfl (fun h => by cases h)
theorem T146_sz : T146.sz = 3 := rfl
theorem T146_pty : T146.pty = .agg [.int .i64, .int .i64, .list (.agg [.int .i64, .str])] := rfl
noncomputable def T151 : TI := ⟨true, [.int .i64, .int .i64, .int .i64, .int .i64, .int .i64, .int .i64, .int .i64, .bool, .list (.agg [.int .i64, .str])], 0, [(0, 3), (1, 3), (2, 3), (3, 3), (4, 3), (5, 3), (6, 3), (7, 4), (8, 138)], 88, .struct (match Tryz.t151.desc with | .struct fs => fs | _ => #[]), false⟩
theorem T151_ok : TIok Tryz.prog 151 T151 := tiok_mk (i := Tryz.t151) Tryz.underlying151 Tryz.type151 rfl rfl rfl rfl rfl rfl (by kernel_rfl) (by decide) (by decide) (by decide) rfl (fun h => by cases h)
theorem T151_sz : T151.sz = 9 := rfl
theorem T151_pty : T151.pty = .agg [.int .i64, .int .i64, .int .i64, .int .i64, .int .i64, .int .i64, .int .i64, .bool, .list (.agg [.int .i64, .str])] := rfl
noncomputable def T152 : TI := ⟨true, [.int .i64, .int .i64, .int .i64, .int .i64, .int .i64, .int .i64, .int .i64, .bool, .list (.agg [.int .i64, .str])], 0, [(0, 3), (1, 3), (2, 3), (3, 3), (4, 3), (5, 3), (6, 3), (7, 4), (8, 138)], 88, .struct (match Tryz.t151.desc with | .struct fs => fs | _ => #[]), false⟩
theorem T152_ok : TIok Tryz.prog 152 T152 := tiok_mk (i := Tryz.t152) Tryz.underlying152 Tryz.type152 rfl rfl rfl rfl rfl rfl (by kernel_rfl) (by decide) (by decide) (by decide) rfl (fun h => by cases h)
theorem T152_sz : T152.sz = 9 := rfl
theorem T152_pty : T152.pty = .agg [.int .i64, .int .i64, .int .i64, .int .i64, .int .i64, .int .i64, .int .i64, .bool, .list (.agg [.int .i64, .str])] := rfl
noncomputable def T161 : TI := ⟨false, [.list (.agg [.int .i64, .int .i64, .bool, .list (.int .i64), .str])], 170, [], 24, .slice 170, false⟩
theorem T161_ok : TIok Tryz.prog 161 T161 := tiok_mk (i := Tryz.t161) Tryz.underlying161 Tryz.type161 rfl rfl rfl rfl rfl rfl (by kernel_rfl) (by decide) (by decide) (by decide) rfl (fun h => by cases h)
theorem T161_sz : T161.sz = 1 := rfl
theorem T161_pty : T161.pty = .list (.agg [.int .i64, .int .i64, .bool, .list (.int .i64), .str]) := rfl
noncomputable def T164 : TI := ⟨false, [.opq], 0, [], 8, .pointer 167, false⟩
theorem T164_ok : TIok Tryz.prog 164 T164 := tiok_mk (i := Tryz.t164) Tryz.underlying164 Tryz.type164 rfl rfl rfl rfl rfl rfl (by kernel_rfl) (by decide) (by decide) (by decide) rfl (fun h => by cases h)
theorem T164_sz : T164.sz = 1 := rfl
theorem T164_pty : T164.pty = .opq := rfl
noncomputable def T166 : TI := ⟨true, [.int .i64, .int .i64, .int .i64, .int .i64, .int .i64, .int .i64, .int .i64, .int .i64, .int .i64, .str, .list (.agg [.int .i64, .int .i64]), .list (.str)], 0, [(0, 98)], 136, .struct (match Tryz.t166.desc with | .struct fs => fs | _ => #[]), false⟩
theorem T166_ok : TIok Tryz.prog 166 T166 := tiok_mk (i := Tryz.t166) Tryz.underlying166 Tryz.type166 rfl rfl rfl rfl rfl rfl (by kernel_rfl) (by decide) (by decide) (by decide) rfl (fun h => by cases h)
theorem T166_sz : T166.sz = 12 := rfl
theorem T166_pty : T166.pty = .agg [.int .i64, .int .i64, .int .i64, .int .i64, .int .i64, .int .i64, .int .i64, .int .i64, .int .i64, .str, .list (.agg [.int .i64, .int .i64]), .list (.str)] := rfl
noncomputable def T167 : TI := ⟨true, [.int .i64, .int .i64, .int .i64, .int .i64, .int .i64, .int .i64, .int .i64, .int .i64, .int .i64, .str, .list (.agg [.int .i64, .int .i64]), .list (.str)], 0, [(0, 98)], 136, .struct (match Tryz.t166.desc with | .struct fs => fs | _ => #[]), false⟩
theorem T167_ok : TIok Tryz.prog 167 T167 := tiok_mk (i := Tryz.t167) Tryz.underlying167 Tryz.type167 rfl rfl rfl rfl rfl rfl (by kernel_rfl) (by decide) (by decide) (by decide) rfl (fun h => by cases h)
theorem T167_sz : T167.sz = 12 := rfl
theorem T167_pty : T167.pty = .agg [.int .i64, .int .i64, .int .i64, .int .i64, .int .i64, .int .i64, .int .i64, .int .i64, .int .i64, .str, .list (.agg [.int .i64, .int .i64]), .list (.str)] := rfl
noncomputable def T169 : TI := ⟨true, [.int .i64, .int .i64, .bool, .list (.int .i64), .str], 0, [(0, 3), (1, 3), (2, 4), (3, 100), (4, 9)], 64, .struct (match Tryz.t169.desc with | .struct fs => fs | _ => #[]), false⟩
theorem T169_ok : TIok Tryz.prog 169 T169 := tiok_mk (i := Tryz.t169) Tryz.underlying169 Tryz.type169 rfl rfl rfl rfl rfl rfl (by kernel_rfl) (by decide) (by decide) (by decide) rfl (fun h => by cases h)
theorem T169_sz : T169.sz = 5 := rfl
theorem T169_pty : T169.pty = .agg [.int .i64, .int .i64, .bool, .list (.int .i64), .str] := rfl
noncomputable def T170 : TI := ⟨true, [.int .i64, .int .i64, .bool, .list (.int .i64), .str], 0, [(0, 3), (1, 3), (2, 4), (3, 100), (4, 9)], 64, .struct (match Tryz.t169.desc with | .struct fs => fs | _ => #[]), false⟩
theorem T170_ok : TIok Tryz.prog 170 T170 := tiok_mk (i := Tryz.t170) Tryz.underlying170 Tryz.type170 rfl rfl rfl rfl rfl rfl (by kernel_rfl) (by decide) (by decide) (by decide) rfl (fun h => by cases h)
theorem T170_sz : T170.sz = 5 := rfl
theorem T170_pty : T170.pty = .agg [.int .i64, .int .i64, .bool, .list (.int .i64), .str] := rfl
noncomputable def T173 : TI := ⟨true, [.int .i64, .int .i64], 0, [(0, 3), (1, 3)], 16, .struct (match Tryz.t173.desc with | .struct fs => fs | _ => #[]), true⟩
theorem T173_ok : TIok Tryz.prog 173 T173 := tiok_mk (i := Tryz.t173) Tryz.underlying173 Tryz.type173 rfl rfl rfl rfl rfl rfl (by kernel_rfl) (by decide) (by decide) (by decide) rfl (fun _ => ⟨Tryz.stoodInHeld173, Tryz.eqGuardType173⟩)
theorem T173_sz : T173.sz = 2 := rfl
theorem T173_pty : T173.pty = .agg [.int .i64, .int .i64] := rfl
noncomputable def T174 : TI := ⟨true, [.int .i64, .int .i64], 0, [(0, 3), (1, 3)], 16, .struct (match Tryz.t173.desc with | .struct fs => fs | _ => #[]), true⟩
theorem T174_ok : TIok Tryz.prog 174 T174 := tiok_mk (i := Tryz.t174) Tryz.underlying174 Tryz.type174 rfl rfl rfl rfl rfl rfl (by kernel_rfl) (by decide) (by decide) (by decide) rfl (fun _ => ⟨Tryz.stoodInHeld174, Tryz.eqGuardType174⟩)
theorem T174_sz : T174.sz = 2 := rfl
theorem T174_pty : T174.pty = .agg [.int .i64, .int .i64] := rfl
noncomputable def T179 : TI := ⟨false, [.int .u64], 0, [], 8, .int .u64, false⟩
theorem T179_ok : TIok Tryz.prog 179 T179 := tiok_mk (i := Tryz.t179) Tryz.underlying179 Tryz.type179 rfl rfl rfl rfl rfl rfl (by kernel_rfl) (by decide) (by decide) (by decide) rfl (fun h => by cases h)
theorem T179_sz : T179.sz = 1 := rfl
theorem T179_pty : T179.pty = .int .u64 := rfl
noncomputable def T186 : TI := ⟨false, [.opq], 0, [], 8, .pointer 182, false⟩
theorem T186_ok : TIok Tryz.prog 186 T186 := tiok_mk (i := Tryz.t186) Tryz.underlying186 Tryz.type186 rfl rfl rfl rfl rfl rfl (by kernel_rfl) (by decide) (by decide) (by decide) rfl (fun h => by cases h)
theorem T186_sz : T186.sz = 1 := rfl
theorem T186_pty : T186.pty = .opq := rfl
noncomputable def T187 : TI := ⟨false, [.opq], 0, [], 8, .pointer 5, false⟩
theorem T187_ok : TIok Tryz.prog 187 T187 := tiok_mk (i := Tryz.t187) Tryz.underlying187 Tryz.type187 rfl rfl rfl rfl rfl rfl (by kernel_rfl) (by decide) (by decide) (by decide) rfl (fun h => by cases h)
theorem T187_sz : T187.sz = 1 := rfl
theorem T187_pty : T187.pty = .opq := rfl
noncomputable def T197 : TI := ⟨false, [.list (.agg [.int .i64, .str])], 255, [], 24, .slice 255, false⟩
theorem T197_ok : TIok Tryz.prog 197 T197 := tiok_mk (i := Tryz.t197) Tryz.underlying197 Tryz.type197 rfl rfl rfl rfl rfl rfl (by kernel_rfl) (by decide) (by decide) (by decide) rfl (fun h => by cases h)
theorem T197_sz : T197.sz = 1 := rfl
theorem T197_pty : T197.pty = .list (.agg [.int .i64, .str]) := rfl
noncomputable def T198 : TI := ⟨true, [.int .i64, .int .i64, .int .i64, .int .i64, .int .i64, .bool, .list (.agg [.int .i64, .str]), .int .i64, .int .i64, .int .i64, .list (.int .i64), .list (.int .i64), .list (.int .i64)], 0, [(0, 3), (1, 3), (2, 3), (3, 3), (4, 3), (5, 4), (6, 197), (7, 3), (8, 3), (9, 3), (10, 100), (11, 100), (12, 100)], 168, .struct (match Tryz.t198.desc with | .struct fs => fs | _ => #[]), false⟩
theorem T198_ok : TIok Tryz.prog 198 T198 := tiok_mk (i := Tryz.t198) Tryz.underlying198 Tryz.type198 rfl rfl rfl rfl rfl rfl (by kernel_rfl) (by decide) (by decide) (by decide) rfl (fun h => by cases h)
theorem T198_sz : T198.sz = 13 := rfl
theorem T198_pty : T198.pty = .agg [.int .i64, .int .i64, .int .i64, .int .i64, .int .i64, .bool, .list (.agg [.int .i64, .str]), .int .i64, .int .i64, .int .i64, .list (.int .i64), .list (.int .i64), .list (.int .i64)] := rfl
noncomputable def T199 : TI := ⟨true, [.int .i64, .int .i64, .int .i64, .int .i64, .int .i64, .bool, .list (.agg [.int .i64, .str]), .int .i64, .int .i64, .int .i64, .list (.int .i64), .list (.int .i64), .list (.int .i64)], 0, [(0, 3), (1, 3), (2, 3), (3, 3), (4, 3), (5, 4), (6, 197), (7, 3), (8, 3), (9, 3), (10, 100), (11, 100), (12, 100)], 168, .struct (match Tryz.t198.desc with | .struct fs => fs | _ => #[]), false⟩
theorem T199_ok : TIok Tryz.prog 199 T199 := tiok_mk (i := Tryz.t199) Tryz.underlying199 Tryz.type199 rfl rfl rfl rfl rfl rfl (by kernel_rfl) (by decide) (by decide) (by decide) rfl (fun h => by cases h)
theorem T199_sz : T199.sz = 13 := rfl
theorem T199_pty : T199.pty = .agg [.int .i64, .int .i64, .int .i64, .int .i64, .int .i64, .bool, .list (.agg [.int .i64, .str]), .int .i64, .int .i64, .int .i64, .list (.int .i64), .list (.int .i64), .list (.int .i64)] := rfl
noncomputable def T201 : TI := ⟨true, [.str, .int .i64], 0, [(0, 9), (1, 3)], 24, .struct (match Tryz.t143.desc with | .struct fs => fs | _ => #[]), true⟩
theorem T201_ok : TIok Tryz.prog 201 T201 := tiok_mk (i := Tryz.t201) Tryz.underlying201 Tryz.type201 rfl rfl rfl rfl rfl rfl (by kernel_rfl) (by decide) (by decide) (by decide) rfl (fun _ => ⟨Tryz.stoodInHeld201, Tryz.eqGuardType201⟩)
theorem T201_sz : T201.sz = 2 := rfl
theorem T201_pty : T201.pty = .agg [.str, .int .i64] := rfl
noncomputable def T203 : TI := ⟨true, [.int .i64, .int .i64, .int .i64, .int .i64, .int .i64, .int .i64, .int .i64, .bool, .list (.agg [.int .i64, .str])], 0, [(0, 3), (1, 3), (2, 3), (3, 3), (4, 3), (5, 3), (6, 3), (7, 4), (8, 197)], 88, .struct (match Tryz.t203.desc with | .struct fs => fs | _ => #[]), false⟩
theorem T203_ok : TIok Tryz.prog 203 T203 := tiok_mk (i := Tryz.t203) Tryz.underlying203 Tryz.type203 rfl rfl rfl rfl rfl rfl (by kernel_rfl) (by decide) (by decide) (by decide) rfl (fun h => by cases h)
theorem T203_sz : T203.sz = 9 := rfl
theorem T203_pty : T203.pty = .agg [.int .i64, .int .i64, .int .i64, .int .i64, .int .i64, .int .i64, .int .i64, .bool, .list (.agg [.int .i64, .str])] := rfl
noncomputable def T204 : TI := ⟨true, [.int .i64, .int .i64, .int .i64, .int .i64, .int .i64, .int .i64, .int .i64, .bool, .list (.agg [.int .i64, .str])], 0, [(0, 3), (1, 3), (2, 3), (3, 3), (4, 3), (5, 3), (6, 3), (7, 4), (8, 197)], 88, .struct (match Tryz.t203.desc with | .struct fs => fs | _ => #[]), false⟩
theorem T204_ok : TIok Tryz.prog 204 T204 := tiok_mk (i := Tryz.t204) Tryz.underlying204 Tryz.type204 rfl rfl rfl rfl rfl rfl (by kernel_rfl) (by decide) (by decide) (by decide) rfl (fun h => by cases h)
theorem T204_sz : T204.sz = 9 := rfl
theorem T204_pty : T204.pty = .agg [.int .i64, .int .i64, .int .i64, .int .i64, .int .i64, .int .i64, .int .i64, .bool, .list (.agg [.int .i64, .str])] := rfl
noncomputable def T212 : TI := ⟨true, [.int .i64, .str], 0, [(0, 3), (1, 9)], 24, .struct (match Tryz.t212.desc with | .struct fs => fs | _ => #[]), true⟩
theorem T212_ok : TIok Tryz.prog 212 T212 := tiok_mk (i := Tryz.t212) Tryz.underlying212 Tryz.type212 rfl rfl rfl rfl rfl rfl (by kernel_rfl) (by decide) (by decide) (by decide) rfl (fun _ => ⟨Tryz.stoodInHeld212, Tryz.eqGuardType212⟩)
theorem T212_sz : T212.sz = 2 := rfl
theorem T212_pty : T212.pty = .agg [.int .i64, .str] := rfl
noncomputable def T213 : TI := ⟨true, [.int .i64, .str], 0, [(0, 3), (1, 9)], 24, .struct (match Tryz.t212.desc with | .struct fs => fs | _ => #[]), true⟩
theorem T213_ok : TIok Tryz.prog 213 T213 := tiok_mk (i := Tryz.t213) Tryz.underlying213 Tryz.type213 rfl rfl rfl rfl rfl rfl (by kernel_rfl) (by decide) (by decide) (by decide) rfl (fun _ => ⟨Tryz.stoodInHeld213, Tryz.eqGuardType213⟩)
theorem T213_sz : T213.sz = 2 := rfl
theorem T213_pty : T213.pty = .agg [.int .i64, .str] := rfl
noncomputable def T221 : TI := ⟨false, [.opq], 0, [], 8, .pointer 224, false⟩
theorem T221_ok : TIok Tryz.prog 221 T221 := tiok_mk (i := Tryz.t221) Tryz.underlying221 Tryz.type221 rfl rfl rfl rfl rfl rfl (by kernel_rfl) (by decide) (by decide) (by decide) rfl (fun h => by cases h)
theorem T221_sz : T221.sz = 1 := rfl
theorem T221_pty : T221.pty = .opq := rfl
noncomputable def T223 : TI := ⟨true, [.int .i64, .list (.int .i64), .bool, .str, .str, .list (.agg [.int .i64, .int .i64, .bool, .list (.int .i64), .str])], 0, [(0, 102), (5, 161)], 96, .struct (match Tryz.t223.desc with | .struct fs => fs | _ => #[]), false⟩
theorem T223_ok : TIok Tryz.prog 223 T223 := tiok_mk (i := Tryz.t223) Tryz.underlying223 Tryz.type223 rfl rfl rfl rfl rfl rfl (by kernel_rfl) (by decide) (by decide) (by decide) rfl (fun h => by cases h)
theorem T223_sz : T223.sz = 6 := rfl
theorem T223_pty : T223.pty = .agg [.int .i64, .list (.int .i64), .bool, .str, .str, .list (.agg [.int .i64, .int .i64, .bool, .list (.int .i64), .str])] := rfl
noncomputable def T224 : TI := ⟨true, [.int .i64, .list (.int .i64), .bool, .str, .str, .list (.agg [.int .i64, .int .i64, .bool, .list (.int .i64), .str])], 0, [(0, 102), (5, 161)], 96, .struct (match Tryz.t223.desc with | .struct fs => fs | _ => #[]), false⟩
theorem T224_ok : TIok Tryz.prog 224 T224 := tiok_mk (i := Tryz.t224) Tryz.underlying224 Tryz.type224 rfl rfl rfl rfl rfl rfl (by kernel_rfl) (by decide) (by decide) (by decide) rfl (fun h => by cases h)
theorem T224_sz : T224.sz = 6 := rfl
theorem T224_pty : T224.pty = .agg [.int .i64, .list (.int .i64), .bool, .str, .str, .list (.agg [.int .i64, .int .i64, .bool, .list (.int .i64), .str])] := rfl
noncomputable def T229 : TI := ⟨false, [.int .u32], 0, [], 4, .int .u32, false⟩
theorem T229_ok : TIok Tryz.prog 229 T229 := tiok_mk (i := Tryz.t229) Tryz.underlying229 Tryz.type229 rfl rfl rfl rfl rfl rfl (by kernel_rfl) (by decide) (by decide) (by decide) rfl (fun h => by cases h)
theorem T229_sz : T229.sz = 1 := rfl
theorem T229_pty : T229.pty = .int .u32 := rfl
noncomputable def T247 : TI := ⟨false, [.opq], 0, [], 8, .pointer 98, false⟩
theorem T247_ok : TIok Tryz.prog 247 T247 := tiok_mk (i := Tryz.t247) Tryz.underlying247 Tryz.type247 rfl rfl rfl rfl rfl rfl (by kernel_rfl) (by decide) (by decide) (by decide) rfl (fun h => by cases h)
theorem T247_sz : T247.sz = 1 := rfl
theorem T247_pty : T247.pty = .opq := rfl
noncomputable def T252 : TI := ⟨false, [.opq], 0, [], 8, .pointer 140, false⟩
theorem T252_ok : TIok Tryz.prog 252 T252 := tiok_mk (i := Tryz.t252) Tryz.underlying252 Tryz.type252 rfl rfl rfl rfl rfl rfl (by kernel_rfl) (by decide) (by decide) (by decide) rfl (fun h => by cases h)
theorem T252_sz : T252.sz = 1 := rfl
theorem T252_pty : T252.pty = .opq := rfl
noncomputable def T255 : TI := ⟨true, [.int .i64, .str], 0, [(0, 3), (1, 9)], 24, .struct (match Tryz.t212.desc with | .struct fs => fs | _ => #[]), true⟩
theorem T255_ok : TIok Tryz.prog 255 T255 := tiok_mk (i := Tryz.t255) Tryz.underlying255 Tryz.type255 rfl rfl rfl rfl rfl rfl (by kernel_rfl) (by decide) (by decide) (by decide) rfl (fun _ => ⟨Tryz.stoodInHeld255, Tryz.eqGuardType255⟩)
theorem T255_sz : T255.sz = 2 := rfl
theorem T255_pty : T255.pty = .agg [.int .i64, .str] := rfl
noncomputable def T263 : TI := ⟨false, [.list (.int .u32)], 229, [], 24, .slice 229, false⟩
theorem T263_ok : TIok Tryz.prog 263 T263 := tiok_mk (i := Tryz.t263) Tryz.underlying263 Tryz.type263 rfl rfl rfl rfl rfl rfl (by kernel_rfl) (by decide) (by decide) (by decide) rfl (fun h => by cases h)
theorem T263_sz : T263.sz = 1 := rfl
theorem T263_pty : T263.pty = .list (.int .u32) := rfl
noncomputable def T269 : TI := ⟨true, [.int .u8, .int .u8], 0, [(0, 5), (1, 5)], 2, .struct (match Tryz.t269.desc with | .struct fs => fs | _ => #[]), true⟩
theorem T269_ok : TIok Tryz.prog 269 T269 := tiok_mk (i := Tryz.t269) Tryz.underlying269 Tryz.type269 rfl rfl rfl rfl rfl rfl (by kernel_rfl) (by decide) (by decide) (by decide) rfl (fun _ => ⟨Tryz.stoodInHeld269, Tryz.eqGuardType269⟩)
theorem T269_sz : T269.sz = 2 := rfl
theorem T269_pty : T269.pty = .agg [.int .u8, .int .u8] := rfl
noncomputable def T270 : TI := ⟨true, [.int .u8, .int .u8], 0, [(0, 5), (1, 5)], 2, .struct (match Tryz.t269.desc with | .struct fs => fs | _ => #[]), true⟩
theorem T270_ok : TIok Tryz.prog 270 T270 := tiok_mk (i := Tryz.t270) Tryz.underlying270 Tryz.type270 rfl rfl rfl rfl rfl rfl (by kernel_rfl) (by decide) (by decide) (by decide) rfl (fun _ => ⟨Tryz.stoodInHeld270, Tryz.eqGuardType270⟩)
theorem T270_sz : T270.sz = 2 := rfl
theorem T270_pty : T270.pty = .agg [.int .u8, .int .u8] := rfl
noncomputable def T271 : TI := ⟨true, [.int .u8, .int .u8, .int .u8, .int .u8, .int .u8, .int .u8, .int .u8, .int .u8, .int .u8, .int .u8, .int .u8, .int .u8, .int .u8, .int .u8, .int .u8, .int .u8, .int .u8, .int .u8, .int .u8, .int .u8, .int .u8, .int .u8, .int .u8, .int .u8, .int .u8, .int .u8, .int .u8, .int .u8, .int .u8, .int .u8, .int .u8, .int .u8], 0, [], 32, .array 16 270, false⟩
theorem T271_ok : TIok Tryz.prog 271 T271 := tiok_mk (i := Tryz.t271) Tryz.underlying271 Tryz.type271 rfl rfl rfl rfl rfl rfl (by kernel_rfl) (by decide) (by decide) (by decide) rfl (fun h => by cases h)
theorem T271_sz : T271.sz = 32 := rfl
theorem T271_pty : T271.pty = .agg [.int .u8, .int .u8, .int .u8, .int .u8, .int .u8, .int .u8, .int .u8, .int .u8, .int .u8, .int .u8, .int .u8, .int .u8, .int .u8, .int .u8, .int .u8, .int .u8, .int .u8, .int .u8, .int .u8, .int .u8, .int .u8, .int .u8, .int .u8, .int .u8, .int .u8, .int .u8, .int .u8, .int .u8, .int .u8, .int .u8, .int .u8, .int .u8] := rfl
noncomputable def T275 : TI := ⟨true, [.int .u32, .int .u32, .int .u32, .int .u32, .int .u32, .int .u32, .int .u32, .int .u32], 0, [], 32, .array 8 229, false⟩
theorem T275_ok : TIok Tryz.prog 275 T275 := tiok_mk (i := Tryz.t275) Tryz.underlying275 Tryz.type275 rfl rfl rfl rfl rfl rfl (by kernel_rfl) (by decide) (by decide) (by decide) rfl (fun h => by cases h)
theorem T275_sz : T275.sz = 8 := rfl
theorem T275_pty : T275.pty = .agg [.int .u32, .int .u32, .int .u32, .int .u32, .int .u32, .int .u32, .int .u32, .int .u32] := rfl
noncomputable def T279 : TI := ⟨false, [.opq], 0, [], 8, .pointer 275, false⟩
theorem T279_ok : TIok Tryz.prog 279 T279 := tiok_mk (i := Tryz.t279) Tryz.underlying279 Tryz.type279 rfl rfl rfl rfl rfl rfl (by kernel_rfl) (by decide) (by decide) (by decide) rfl (fun h => by cases h)
theorem T279_sz : T279.sz = 1 := rfl
theorem T279_pty : T279.pty = .opq := rfl
noncomputable def T283 : TI := ⟨false, [.int .u64], 0, [], 8, .int .u64, false⟩
theorem T283_ok : TIok Tryz.prog 283 T283 := tiok_mk (i := Tryz.t283) Tryz.underlying283 Tryz.type283 rfl rfl rfl rfl rfl rfl (by kernel_rfl) (by decide) (by decide) (by decide) rfl (fun h => by cases h)
theorem T283_sz : T283.sz = 1 := rfl
theorem T283_pty : T283.pty = .int .u64 := rfl
noncomputable def T286 : TI := ⟨true, [.int .u8, .int .u8, .int .u8, .int .u8, .int .u8, .int .u8, .int .u8, .int .u8, .int .u8, .int .u8, .int .u8, .int .u8, .int .u8, .int .u8, .int .u8, .int .u8, .int .u8, .int .u8, .int .u8, .int .u8, .int .u8, .int .u8, .int .u8, .int .u8], 0, [], 24, .array 24 5, false⟩
theorem T286_ok : TIok Tryz.prog 286 T286 := tiok_mk (i := Tryz.t286) Tryz.underlying286 Tryz.type286 rfl rfl rfl rfl rfl rfl (by kernel_rfl) (by decide) (by decide) (by decide) rfl (fun h => by cases h)
theorem T286_sz : T286.sz = 24 := rfl
theorem T286_pty : T286.pty = .agg [.int .u8, .int .u8, .int .u8, .int .u8, .int .u8, .int .u8, .int .u8, .int .u8, .int .u8, .int .u8, .int .u8, .int .u8, .int .u8, .int .u8, .int .u8, .int .u8, .int .u8, .int .u8, .int .u8, .int .u8, .int .u8, .int .u8, .int .u8, .int .u8] := rfl
noncomputable def T293 : TI := ⟨true, [.int .u32, .int .u32, .int .u32, .int .u32, .int .u32, .int .u32, .int .u32, .int .u32, .int .u32, .int .u32, .int .u32, .int .u32, .int .u32, .int .u32, .int .u32, .int .u32, .int .u32, .int .u32, .int .u32, .int .u32, .int .u32, .int .u32, .int .u32, .int .u32, .int .u32, .int .u32, .int .u32, .int .u32, .int .u32, .int .u32, .int .u32, .int .u32, .int .u32, .int .u32, .int .u32, .int .u32, .int .u32, .int .u32, .int .u32, .int .u32, .int .u32, .int .u32, .int .u32, .int .u32, .int .u32, .int .u32, .int .u32, .int .u32, .int .u32, .int .u32, .int .u32, .int .u32, .int .u32, .int .u32, .int .u32, .int .u32, .int .u32, .int .u32, .int .u32, .int .u32, .int .u32, .int .u32, .int .u32, .int .u32], 0, [], 256, .array 64 229, false⟩
theorem T293_ok : TIok Tryz.prog 293 T293 := tiok_mk (i := Tryz.t293) Tryz.underlying293 Tryz.type293 rfl rfl rfl rfl rfl rfl (by kernel_rfl) (by decide) (by decide) (by decide) rfl (fun h => by cases h)
theorem T293_sz : T293.sz = 64 := rfl
theorem T293_pty : T293.pty = .agg [.int .u32, .int .u32, .int .u32, .int .u32, .int .u32, .int .u32, .int .u32, .int .u32, .int .u32, .int .u32, .int .u32, .int .u32, .int .u32, .int .u32, .int .u32, .int .u32, .int .u32, .int .u32, .int .u32, .int .u32, .int .u32, .int .u32, .int .u32, .int .u32, .int .u32, .int .u32, .int .u32, .int .u32, .int .u32, .int .u32, .int .u32, .int .u32, .int .u32, .int .u32, .int .u32, .int .u32, .int .u32, .int .u32, .int .u32, .int .u32, .int .u32, .int .u32, .int .u32, .int .u32, .int .u32, .int .u32, .int .u32, .int .u32, .int .u32, .int .u32, .int .u32, .int .u32, .int .u32, .int .u32, .int .u32, .int .u32, .int .u32, .int .u32, .int .u32, .int .u32, .int .u32, .int .u32, .int .u32, .int .u32] := rfl
noncomputable def T296 : TI := ⟨true, [.int .u64, .int .u64, .int .u64, .int .u64, .int .u64, .int .u64, .int .u64, .int .u64, .int .u64, .int .u64, .int .u64, .int .u64, .int .u64, .int .u64, .int .u64, .int .u64, .int .u64, .int .u64, .int .u64, .int .u64], 0, [], 160, .array 20 283, false⟩
theorem T296_ok : TIok Tryz.prog 296 T296 := tiok_mk (i := Tryz.t296) Tryz.underlying296 Tryz.type296 rfl rfl rfl rfl rfl rfl (by kernel_rfl) (by decide) (by decide) (by decide) rfl (fun h => by cases h)
theorem T296_sz : T296.sz = 20 := rfl
theorem T296_pty : T296.pty = .agg [.int .u64, .int .u64, .int .u64, .int .u64, .int .u64, .int .u64, .int .u64, .int .u64, .int .u64, .int .u64, .int .u64, .int .u64, .int .u64, .int .u64, .int .u64, .int .u64, .int .u64, .int .u64, .int .u64, .int .u64] := rfl
noncomputable def T301 : TI := ⟨true, [.int .u8, .int .u8, .int .u8, .int .u8, .int .u8, .int .u8, .int .u8, .int .u8, .int .u8, .int .u8, .int .u8, .int .u8, .int .u8, .int .u8, .int .u8, .int .u8, .int .u8, .int .u8, .int .u8, .int .u8, .int .u8, .int .u8, .int .u8, .int .u8, .int .u8, .int .u8, .int .u8, .int .u8, .int .u8, .int .u8, .int .u8, .int .u8], 0, [], 32, .array 32 5, false⟩
theorem T301_ok : TIok Tryz.prog 301 T301 := tiok_mk (i := Tryz.t301) Tryz.underlying301 Tryz.type301 rfl rfl rfl rfl rfl rfl (by kernel_rfl) (by decide) (by decide) (by decide) rfl (fun h => by cases h)
theorem T301_sz : T301.sz = 32 := rfl
theorem T301_pty : T301.pty = .agg [.int .u8, .int .u8, .int .u8, .int .u8, .int .u8, .int .u8, .int .u8, .int .u8, .int .u8, .int .u8, .int .u8, .int .u8, .int .u8, .int .u8, .int .u8, .int .u8, .int .u8, .int .u8, .int .u8, .int .u8, .int .u8, .int .u8, .int .u8, .int .u8, .int .u8, .int .u8, .int .u8, .int .u8, .int .u8, .int .u8, .int .u8, .int .u8] := rfl
noncomputable def T302 : TI := ⟨true, [.int .u8, .int .u8, .int .u8, .int .u8, .int .u8, .int .u8, .int .u8, .int .u8, .int .u8, .int .u8, .int .u8, .int .u8, .int .u8, .int .u8, .int .u8, .int .u8, .int .u8, .int .u8, .int .u8, .int .u8, .int .u8, .int .u8, .int .u8, .int .u8, .int .u8, .int .u8, .int .u8, .int .u8, .int .u8, .int .u8, .int .u8, .int .u8, .int .u8, .int .u8, .int .u8, .int .u8, .int .u8, .int .u8, .int .u8, .int .u8, .int .u8, .int .u8, .int .u8, .int .u8, .int .u8, .int .u8, .int .u8, .int .u8, .int .u8, .int .u8, .int .u8, .int .u8, .int .u8, .int .u8, .int .u8, .int .u8, .int .u8, .int .u8, .int .u8, .int .u8, .int .u8, .int .u8, .int .u8, .int .u8], 0, [], 64, .array 64 5, false⟩
theorem T302_ok : TIok Tryz.prog 302 T302 := tiok_mk (i := Tryz.t302) Tryz.underlying302 Tryz.type302 rfl rfl rfl rfl rfl rfl (by kernel_rfl) (by decide) (by decide) (by decide) rfl (fun h => by cases h)
theorem T302_sz : T302.sz = 64 := rfl
theorem T302_pty : T302.pty = .agg [.int .u8, .int .u8, .int .u8, .int .u8, .int .u8, .int .u8, .int .u8, .int .u8, .int .u8, .int .u8, .int .u8, .int .u8, .int .u8, .int .u8, .int .u8, .int .u8, .int .u8, .int .u8, .int .u8, .int .u8, .int .u8, .int .u8, .int .u8, .int .u8, .int .u8, .int .u8, .int .u8, .int .u8, .int .u8, .int .u8, .int .u8, .int .u8, .int .u8, .int .u8, .int .u8, .int .u8, .int .u8, .int .u8, .int .u8, .int .u8, .int .u8, .int .u8, .int .u8, .int .u8, .int .u8, .int .u8, .int .u8, .int .u8, .int .u8, .int .u8, .int .u8, .int .u8, .int .u8, .int .u8, .int .u8, .int .u8, .int .u8, .int .u8, .int .u8, .int .u8, .int .u8, .int .u8, .int .u8, .int .u8] := rfl
noncomputable def T303 : TI := ⟨true, [.opq, .opq, .opq, .str], 0, [(0, 17), (1, 17), (2, 17), (3, 9)], 40, .struct (match Tryz.t303.desc with | .struct fs => fs | _ => #[]), false⟩
theorem T303_ok : TIok Tryz.prog 303 T303 := tiok_mk (i := Tryz.t303) Tryz.underlying303 Tryz.type303 rfl rfl rfl rfl rfl rfl (by kernel_rfl) (by decide) (by decide) (by decide) rfl (fun h => by cases h)
theorem T303_sz : T303.sz = 4 := rfl
theorem T303_pty : T303.pty = .agg [.opq, .opq, .opq, .str] := rfl
noncomputable def T304 : TI := ⟨true, [.opq, .opq, .opq, .str], 0, [(0, 17), (1, 17), (2, 17), (3, 9)], 40, .struct (match Tryz.t303.desc with | .struct fs => fs | _ => #[]), false⟩
theorem T304_ok : TIok Tryz.prog 304 T304 := tiok_mk (i := Tryz.t304) Tryz.underlying304 Tryz.type304 rfl rfl rfl rfl rfl rfl (by kernel_rfl) (by decide) (by decide) (by decide) rfl (fun h => by cases h)
theorem T304_sz : T304.sz = 4 := rfl
theorem T304_pty : T304.pty = .agg [.opq, .opq, .opq, .str] := rfl
noncomputable def T308 : TI := ⟨false, [.int .u8], 0, [], 1, .int .u8, false⟩
theorem T308_ok : TIok Tryz.prog 308 T308 := tiok_mk (i := Tryz.t308) Tryz.underlying308 Tryz.type308 rfl rfl rfl rfl rfl rfl (by kernel_rfl) (by decide) (by decide) (by decide) rfl (fun h => by cases h)
theorem T308_sz : T308.sz = 1 := rfl
theorem T308_pty : T308.pty = .int .u8 := rfl
noncomputable def T309 : TI := ⟨false, [.int .u8], 0, [], 1, .int .u8, false⟩
theorem T309_ok : TIok Tryz.prog 309 T309 := tiok_mk (i := Tryz.t309) Tryz.underlying309 Tryz.type309 rfl rfl rfl rfl rfl rfl (by kernel_rfl) (by decide) (by decide) (by decide) rfl (fun h => by cases h)
theorem T309_sz : T309.sz = 1 := rfl
theorem T309_pty : T309.pty = .int .u8 := rfl
noncomputable def T311 : TI := ⟨false, [.int .i32], 0, [], 4, .int .i32, false⟩
theorem T311_ok : TIok Tryz.prog 311 T311 := tiok_mk (i := Tryz.t311) Tryz.underlying311 Tryz.type311 rfl rfl rfl rfl rfl rfl (by kernel_rfl) (by decide) (by decide) (by decide) rfl (fun h => by cases h)
theorem T311_sz : T311.sz = 1 := rfl
theorem T311_pty : T311.pty = .int .i32 := rfl
noncomputable def T312 : TI := ⟨false, [.int .i32], 0, [], 4, .int .i32, false⟩
theorem T312_ok : TIok Tryz.prog 312 T312 := tiok_mk (i := Tryz.t312) Tryz.underlying312 Tryz.type312 rfl rfl rfl rfl rfl rfl (by kernel_rfl) (by decide) (by decide) (by decide) rfl (fun h => by cases h)
theorem T312_sz : T312.sz = 1 := rfl
theorem T312_pty : T312.pty = .int .i32 := rfl
noncomputable def tyTab : List (Nat × TI) := [(2, T2), (3, T3), (4, T4), (5, T5), (6, T6), (7, T7), (8, T8), (9, T9), (10, T10), (11, T11), (12, T12), (13, T13), (14, T14), (15, T15), (16, T16), (17, T17), (18, T18), (19, T19), (21, T21), (22, T22), (24, T24), (26, T26), (27, T27), (28, T28), (34, T34), (35, T35), (43, T43), (44, T44), (45, T45), (46, T46), (47, T47), (48, T48), (49, T49), (50, T50), (56, T56), (57, T57), (58, T58), (59, T59), (60, T60), (61, T61), (62, T62), (63, T63), (68, T68), (77, T77), (78, T78), (90, T90), (91, T91), (94, T94), (95, T95), (96, T96), (97, T97), (98, T98), (100, T100), (101, T101), (102, T102), (135, T135), (136, T136), (137, T137), (138, T138), (139, T139), (140, T140), (143, T143), (144, T144), (145, T145), (146, T146), (151, T151), (152, T152), (161, T161), (164, T164), (166, T166), (167, T167), (169, T169), (170, T170), (173, T173), (174, T174), (179, T179), (186, T186), (187, T187), (197, T197), (198, T198), (199, T199), (201, T201), (203, T203), (204, T204), (212, T212), (213, T213), (221, T221), (223, T223), (224, T224), (229, T229), (247, T247), (252, T252), (255, T255), (263, T263), (269, T269), (270, T270), (271, T271), (275, T275), (279, T279), (283, T283), (286, T286), (293, T293), (296, T296), (301, T301), (302, T302), (303, T303), (304, T304), (308, T308), (309, T309), (311, T311), (312, T312)]
theorem ty2 : lk tyTab 2 = some T2 := rfl
theorem ty3 : lk tyTab 3 = some T3 := rfl
theorem ty4 : lk tyTab 4 = some T4 := rfl
theorem ty5 : lk tyTab 5 = some T5 := rfl
theorem ty6 : lk tyTab 6 = some T6 := rfl
theorem ty7 : lk tyTab 7 = some T7 := rfl
theorem ty8 : lk tyTab 8 = some T8 := rfl
theorem ty9 : lk tyTab 9 = some T9 := rfl
theorem ty10 : lk tyTab 10 = some T10 := rfl
theorem ty11 : lk tyTab 11 = some T11 := rfl
theorem ty12 : lk tyTab 12 = some T12 := rfl
theorem ty13 : lk tyTab 13 = some T13 := rfl
theorem ty14 : lk tyTab 14 = some T14 := rfl
theorem ty15 : lk tyTab 15 = some T15 := rfl
theorem ty16 : lk tyTab 16 = some T16 := rfl
theorem ty17 : lk tyTab 17 = some T17 := rfl
theorem ty18 : lk tyTab 18 = some T18 := rfl
theorem ty19 : lk tyTab 19 = some T19 := rfl
theorem ty21 : lk tyTab 21 = some T21 := rfl
theorem ty22 : lk tyTab 22 = some T22 := rfl
theorem ty24 : lk tyTab 24 = some T24 := rfl
theorem ty26 : lk tyTab 26 = some T26 := rfl
theorem ty27 : lk tyTab 27 = some T27 := rfl
theorem ty28 : lk tyTab 28 = some T28 := rfl
theorem ty34 : lk tyTab 34 = some T34 := rfl
theorem ty35 : lk tyTab 35 = some T35 := rfl
theorem ty43 : lk tyTab 43 = some T43 := rfl
theorem ty44 : lk tyTab 44 = some T44 := rfl
theorem ty45 : lk tyTab 45 = some T45 := rfl
theorem ty46 : lk tyTab 46 = some T46 := rfl
theorem ty47 : lk tyTab 47 = some T47 := rfl
theorem ty48 : lk tyTab 48 = some T48 := rfl
theorem ty49 : lk tyTab 49 = some T49 := rfl
theorem ty50 : lk tyTab 50 = some T50 := rfl
theorem ty56 : lk tyTab 56 = some T56 := rfl
theorem ty57 : lk tyTab 57 = some T57 := rfl
theorem ty58 : lk tyTab 58 = some T58 := rfl
theorem ty59 : lk tyTab 59 = some T59 := rfl
theorem ty60 : lk tyTab 60 = some T60 := rfl
theorem ty61 : lk tyTab 61 = some T61 := rfl
theorem ty62 : lk tyTab 62 = some T62 := rfl
theorem ty63 : lk tyTab 63 = some T63 := rfl
theorem ty68 : lk tyTab 68 = some T68 := rfl
theorem ty77 : lk tyTab 77 = some T77 := rfl
theorem ty78 : lk tyTab 78 = some T78 := rfl
theorem ty90 : lk tyTab 90 = some T90 := rfl
theorem ty91 : lk tyTab 91 = some T91 := rfl
theorem ty94 : lk tyTab 94 = some T94 := rfl
theorem ty95 : lk tyTab 95 = some T95 := rfl
theorem ty96 : lk tyTab 96 = some T96 := rfl
theorem ty97 : lk tyTab 97 = some T97 := rfl
theorem ty98 : lk tyTab 98 = some T98 := rfl
theorem ty100 : lk tyTab 100 = some T100 := rfl
theorem ty101 : lk tyTab 101 = some T101 := rfl
theorem ty102 : lk tyTab 102 = some T102 := rfl
theorem ty135 : lk tyTab 135 = some T135 := rfl
theorem ty136 : lk tyTab 136 = some T136 := rfl
theorem ty137 : lk tyTab 137 = some T137 := rfl
theorem ty138 : lk tyTab 138 = some T138 := rfl
theorem ty139 : lk tyTab 139 = some T139 := rfl
theorem ty140 : lk tyTab 140 = some T140 := rfl
theorem ty143 : lk tyTab 143 = some T143 := rfl
theorem ty144 : lk tyTab 144 = some T144 := rfl
theorem ty145 : lk tyTab 145 = some T145 := rfl
theorem ty146 : lk tyTab 146 = some T146 := rfl
theorem ty151 : lk tyTab 151 = some T151 := rfl
theorem ty152 : lk tyTab 152 = some T152 := rfl
theorem ty161 : lk tyTab 161 = some T161 := rfl
theorem ty164 : lk tyTab 164 = some T164 := rfl
theorem ty166 : lk tyTab 166 = some T166 := rfl
theorem ty167 : lk tyTab 167 = some T167 := rfl
theorem ty169 : lk tyTab 169 = some T169 := rfl
theorem ty170 : lk tyTab 170 = some T170 := rfl
theorem ty173 : lk tyTab 173 = some T173 := rfl
theorem ty174 : lk tyTab 174 = some T174 := rfl
theorem ty179 : lk tyTab 179 = some T179 := rfl
theorem ty186 : lk tyTab 186 = some T186 := rfl
theorem ty187 : lk tyTab 187 = some T187 := rfl
theorem ty197 : lk tyTab 197 = some T197 := rfl
theorem ty198 : lk tyTab 198 = some T198 := rfl
theorem ty199 : lk tyTab 199 = some T199 := rfl
theorem ty201 : lk tyTab 201 = some T201 := rfl
theorem ty203 : lk tyTab 203 = some T203 := rfl
theorem ty204 : lk tyTab 204 = some T204 := rfl
theorem ty212 : lk tyTab 212 = some T212 := rfl
theorem ty213 : lk tyTab 213 = some T213 := rfl
theorem ty221 : lk tyTab 221 = some T221 := rfl
theorem ty223 : lk tyTab 223 = some T223 := rfl
theorem ty224 : lk tyTab 224 = some T224 := rfl
theorem ty229 : lk tyTab 229 = some T229 := rfl
theorem ty247 : lk tyTab 247 = some T247 := rfl
theorem ty252 : lk tyTab 252 = some T252 := rfl
theorem ty255 : lk tyTab 255 = some T255 := rfl
theorem ty263 : lk tyTab 263 = some T263 := rfl
theorem ty269 : lk tyTab 269 = some T269 := rfl
theorem ty270 : lk tyTab 270 = some T270 := rfl
theorem ty271 : lk tyTab 271 = some T271 := rfl
theorem ty275 : lk tyTab 275 = some T275 := rfl
theorem ty279 : lk tyTab 279 = some T279 := rfl
theorem ty283 : lk tyTab 283 = some T283 := rfl
theorem ty286 : lk tyTab 286 = some T286 := rfl
theorem ty293 : lk tyTab 293 = some T293 := rfl
theorem ty296 : lk tyTab 296 = some T296 := rfl
theorem ty301 : lk tyTab 301 = some T301 := rfl
theorem ty302 : lk tyTab 302 = some T302 := rfl
theorem ty303 : lk tyTab 303 = some T303 := rfl
theorem ty304 : lk tyTab 304 = some T304 := rfl
theorem ty308 : lk tyTab 308 = some T308 := rfl
theorem ty309 : lk tyTab 309 = some T309 := rfl
theorem ty311 : lk tyTab 311 = some T311 := rfl
theorem ty312 : lk tyTab 312 = some T312 := rfl
theorem tyTab_ok (fns : List ((Nat × List Nat) × FSpec)) : EnvTy Tryz.prog ⟨tyTab, fns⟩ := by
  have key : ∀ l : List (Nat × TI), (∀ p ∈ l, TIok Tryz.prog p.1 p.2) → ∀ t ti, lk l t = some ti → TIok Tryz.prog t ti := by
    intro l
    induction l with
    | nil => intro _ t ti h; cases h
    | cons p l ih =>
      intro hl t ti h
      obtain ⟨i, x⟩ := p
      simp only [lk] at h
      split at h
      · rename_i e; subst e; cases h; exact hl (i, ti) (by simp)
      · exact ih (fun p hp => hl p (by simp [hp])) t ti h
  refine key tyTab ?_
  simp only [tyTab, List.mem_cons, List.not_mem_nil, or_false, forall_eq_or_imp, forall_eq]
  exact ⟨T2_ok, T3_ok, T4_ok, T5_ok, T6_ok, T7_ok, T8_ok, T9_ok, T10_ok, T11_ok, T12_ok, T13_ok, T14_ok, T15_ok, T16_ok, T17_ok, T18_ok, T19_ok, T21_ok, T22_ok, T24_ok, T26_ok, T27_ok, T28_ok, T34_ok, T35_ok, T43_ok, T44_ok, T45_ok, T46_ok, T47_ok, T48_ok, T49_ok, T50_ok, T56_ok, T57_ok, T58_ok, T59_ok, T60_ok, T61_ok, T62_ok, T63_ok, T68_ok, T77_ok, T78_ok, T90_ok, T91_ok, T94_ok, T95_ok, T96_ok, T97_ok, T98_ok, T100_ok, T101_ok, T102_ok, T135_ok, T136_ok, T137_ok, T138_ok, T139_ok, T140_ok, T143_ok, T144_ok, T145_ok, T146_ok, T151_ok, T152_ok, T161_ok, T164_ok, T166_ok, T167_ok, T169_ok, T170_ok, T173_ok, T174_ok, T179_ok, T186_ok, T187_ok, T197_ok, T198_ok, T199_ok, T201_ok, T203_ok, T204_ok, T212_ok, T213_ok, T221_ok, T223_ok, T224_ok, T229_ok, T247_ok, T252_ok, T255_ok, T263_ok, T269_ok, T270_ok, T271_ok, T275_ok, T279_ok, T283_ok, T286_ok, T293_ok, T296_ok, T301_ok, T302_ok, T303_ok, T304_ok, T308_ok, T309_ok, T311_ok, T312_ok⟩
theorem mixed : Tryz.prog.follows .mixedOrders = true := by kernel_rfl
theorem gt3 : lk GT 3 = some (.int .u32, G3) := rfl
theorem G3_len : G3.length = 8 := rfl
attribute [simp] gt3 G3_len
theorem gt4 : lk GT 4 = some (.int .u32, G4) := rfl
theorem G4_len : G4.length = 64 := rfl
attribute [simp] gt4 G4_len
theorem gt5 : lk GT 5 = some (.int .u64, G5) := rfl
theorem G5_len : G5.length = 20 := rfl
attribute [simp] gt5 G5_len
attribute [simp] nth_fold nth_zero nth_succ pv_I pv_B pv_S pv_L pv_A pv_at lv_int lv_bool lv_str lv_list lv_agg PTy.leaves PTy.wd inR TI.sz TI.pty lk set1 memB anyB kill strike stillH unpath still prom proms dpB dpAll ndB isNil shOk takeIn takeOk St.slot ofConst1 ofConsts ofConst St.ev SV.cells SV.ofCells SV.leafB leafAll fixL zeroSV zeroSVs zeroLf zeroLfs zeroPV resL resLs resB resBs resT resTs resEs introL noP elP introV introVs packV binI eqSVs shpV binS imp evs closes findFn slsOf slsAll argLs argsLs pathOf rdHs1 rdHsL rdHs bsHs rdsHs rdOk lendOk backL keepS backs ownersOf allRd soleMt firstP callRd callPt callOw callOwn callRes idxs oprs fillSV partsOk convRes viewE viewA pathE pathA sliceRes evO etaL storeEl loadEl flatL flatLs flatB leafD leafDs dataB ownO sameO isStruct aggOk leafAt srcOf joinB joinOk appRes copyTo copyRes builtinRes loadHy eqCs lvsOf opRes0 svInts repT leafB arrRes opRes nilRes guardOf csz ksz unwd dstOk putS vcK vwCall ldLs isLs splG skipR stepD vcD stays growP rdCall convP slcB rn entV entVs entR entO entH hlts domH entA entL ent itVal hsV hsVs itSlots itBoxes dropL hsL hsA onlyR gcH gcA itKeep itReach itLay itSt mr mrs itRho itOk introB introBs introR introX introS introT introTs nL lkAll numb resKp resMs retOk mtTy bxCs mtSls mtHs finFr finOf SV.lt SV.lts IntKind.min IntKind.max IntKind.signed IntKind.bits LIM
attribute [simp] ty2 T2_sz T2_pty T2 ty3 T3_sz T3_pty T3 ty4 T4_sz T4_pty T4 ty5 T5_sz T5_pty T5 ty6 T6_sz T6_pty T6 ty7 T7_sz T7_pty T7 ty8 T8_sz T8_pty T8 ty9 T9_sz T9_pty T9 ty10 T10_sz T10_pty T10 ty11 T11_sz T11_pty T11 ty12 T12_sz T12_pty T12 ty13 T13_sz T13_pty T13 ty14 T14_sz T14_pty T14 ty15 T15_sz T15_pty T15 ty16 T16_sz T16_pty T16 ty17 T17_sz T17_pty T17 ty18 T18_sz T18_pty T18 ty19 T19_sz T19_pty T19 ty21 T21_sz T21_pty T21 ty22 T22_sz T22_pty T22 ty24 T24_sz T24_pty T24 ty26 T26_sz T26_pty T26 ty27 T27_sz T27_pty T27 ty28 T28_sz T28_pty T28 ty34 T34_sz T34_pty T34 ty35 T35_sz T35_pty T35 ty43 T43_sz T43_pty T43 ty44 T44_sz T44_pty T44 ty45 T45_sz T45_pty T45 ty46 T46_sz T46_pty T46 ty47 T47_sz T47_pty T47 ty48 T48_sz T48_pty T48 ty49 T49_sz T49_pty T49 ty50 T50_sz T50_pty T50 ty56 T56_sz T56_pty T56 ty57 T57_sz T57_pty T57 ty58 T58_sz T58_pty T58 ty59 T59_sz T59_pty T59 ty60 T60_sz T60_pty T60 ty61 T61_sz T61_pty T61 ty62 T62_sz T62_pty T62 ty63 T63_sz T63_pty T63 ty68 T68_sz T68_pty T68 ty77 T77_sz T77_pty T77 ty78 T78_sz T78_pty T78 ty90 T90_sz T90_pty T90 ty91 T91_sz T91_pty T91 ty94 T94_sz T94_pty T94 ty95 T95_sz T95_pty T95 ty96 T96_sz T96_pty T96 ty97 T97_sz T97_pty T97 ty98 T98_sz T98_pty T98 ty100 T100_sz T100_pty T100 ty101 T101_sz T101_pty T101 ty102 T102_sz T102_pty T102 ty135 T135_sz T135_pty T135 ty136 T136_sz T136_pty T136 ty137 T137_sz T137_pty T137 ty138 T138_sz T138_pty T138 ty139 T139_sz T139_pty T139 ty140 T140_sz T140_pty T140 ty143 T143_sz T143_pty T143 ty144 T144_sz T144_pty T144 ty145 T145_sz T145_pty T145 ty146 T146_sz T146_pty T146 ty151 T151_sz T151_pty T151 ty152 T152_sz T152_pty T152 ty161 T161_sz T161_pty T161 ty164 T164_sz T164_pty T164 ty166 T166_sz T166_pty T166 ty167 T167_sz T167_pty T167 ty169 T169_sz T169_pty T169 ty170 T170_sz T170_pty T170 ty173 T173_sz T173_pty T173 ty174 T174_sz T174_pty T174 ty179 T179_sz T179_pty T179 ty186 T186_sz T186_pty T186 ty187 T187_sz T187_pty T187 ty197 T197_sz T197_pty T197 ty198 T198_sz T198_pty T198 ty199 T199_sz T199_pty T199 ty201 T201_sz T201_pty T201 ty203 T203_sz T203_pty T203 ty204 T204_sz T204_pty T204 ty212 T212_sz T212_pty T212 ty213 T213_sz T213_pty T213 ty221 T221_sz T221_pty T221 ty223 T223_sz T223_pty T223 ty224 T224_sz T224_pty T224 ty229 T229_sz T229_pty T229 ty247 T247_sz T247_pty T247 ty252 T252_sz T252_pty T252 ty255 T255_sz T255_pty T255 ty263 T263_sz T263_pty T263 ty269 T269_sz T269_pty T269 ty270 T270_sz T270_pty T270 ty271 T271_sz T271_pty T271 ty275 T275_sz T275_pty T275 ty279 T279_sz T279_pty T279 ty283 T283_sz T283_pty T283 ty286 T286_sz T286_pty T286 ty293 T293_sz T293_pty T293 ty296 T296_sz T296_pty T296 ty301 T301_sz T301_pty T301 ty302 T302_sz T302_pty T302 ty303 T303_sz T303_pty T303 ty304 T304_sz T304_pty T304 ty308 T308_sz T308_pty T308 ty309 T309_sz T309_pty T309 ty311 T311_sz T311_pty T311 ty312 T312_sz T312_pty T312
end Go.Proofs.YtkofjkjcbljkdaaGreatDoor
end

section
namespace Go.Proofs.YtkofjkjcbljkdaaGreatDoor
variable [LaidG]
set_option maxRecDepth 100000
set_option linter.unusedSimpArgs false
def inB (n lo hi : Int) : Bool := decide (n ≥ lo) && decide (n ≤ hi)
def c_within : FSpec := ⟨[(.rd, .int .i64), (.rd, .int .i64), (.rd, .int .i64)], [.bool], true, fun _ => True, fun ps => [.bool (inB (nth ps 0).I (nth ps 1).I (nth ps 2).I)], fun _ => []⟩
theorem k_within : FnOk Tryz.prog 33 c_within := by
  refine fn_mk [0, 1, 2, 6] [.tmp 6] (env_nil (tyTab_ok [])) mixed Tryz.func33 rfl (by decide) rfl (by decide) rfl ?_
  intro ps hT hpre W hW
  simp only [c_within, TyA, Ty, Tys] at hT hpre
  obtain ⟨_, _, rfl, ⟨a, rfl, ha⟩, _, _, rfl, ⟨b, rfl, hb⟩, _, _, rfl, ⟨c, rfl, hc⟩, rfl⟩ := hT
  refine hW.vc [] _ _ ?_
  simp [-List.getD_eq_getElem?_getD, c_within, inB]
  try rfl
def c_l01In : FSpec := c_within
theorem k_l01In : FnOk Tryz.prog 35 c_l01In := by
  refine fn_mk [0, 1, 2, 6] [.tmp 6] (env_nil (tyTab_ok [])) mixed Tryz.func35 rfl (by decide) rfl (by decide) rfl ?_
  intro ps hT hpre W hW
  simp only [c_l01In, TyA, Ty, Tys] at hT hpre
  simp only [c_within, TyA, Ty] at hT
  obtain ⟨_, _, rfl, ⟨a, rfl, ha⟩, _, _, rfl, ⟨b, rfl, hb⟩, _, _, rfl, ⟨c, rfl, hc⟩, rfl⟩ := hT
  refine hW.vc [] _ _ ?_
  simp [-List.getD_eq_getElem?_getD, c_l01In, c_within, c_within, inB]
  try rfl
def sizeB (w h : Int) : Bool := inB w 2 24 && inB h 2 10
def c_isSize : FSpec := ⟨[(.rd, .int .i64), (.rd, .int .i64)], [.bool], true, fun _ => True, fun ps => [.bool (sizeB (nth ps 0).I (nth ps 1).I)], fun _ => []⟩
theorem k_isSize : FnOk Tryz.prog 30 c_isSize := by
  refine fn_mk [0, 1, 4] [.tmp 4] (env_cons (cs := []) k_within (env_nil (tyTab_ok []))) mixed Tryz.func30 rfl (by decide) rfl (by decide) rfl ?_
  intro ps hT hpre W hW
  simp only [c_isSize, TyA, Ty, Tys] at hT hpre
  obtain ⟨_, _, rfl, ⟨a, rfl, ha⟩, _, _, rfl, ⟨b, rfl, hb⟩, rfl⟩ := hT
  refine hW.vc [] _ _ ?_
  simp [-List.getD_eq_getElem?_getD, c_isSize, c_within, sizeB]
def c_l04Size : FSpec := c_isSize
theorem k_l04Size : FnOk Tryz.prog 36 c_l04Size := by
  refine fn_mk [0, 1, 4] [.tmp 4] (env_cons (cs := []) k_l01In (env_nil (tyTab_ok []))) mixed Tryz.func36 rfl (by decide) rfl (by decide) rfl ?_
  intro ps hT hpre W hW
  simp only [c_l04Size, TyA, Ty, Tys] at hT hpre
  simp only [c_isSize, TyA, Ty] at hT
  obtain ⟨_, _, rfl, ⟨a, rfl, ha⟩, _, _, rfl, ⟨b, rfl, hb⟩, rfl⟩ := hT
  refine hW.vc [] _ _ ?_
  simp [-List.getD_eq_getElem?_getD, c_l04Size, c_l01In, c_isSize, c_within, c_within, c_isSize, sizeB]
end Go.Proofs.YtkofjkjcbljkdaaGreatDoor
end

section
namespace Go.Proofs.YtkofjkjcbljkdaaGreatDoor
variable [LaidG]
set_option maxRecDepth 100000
set_option linter.unusedSimpArgs false
def szGo (l : Int) : List PV → Int
  | [] => l
  | e :: es => if l - e.S.length < 0 then -1 else szGo (l - e.S.length) es
def szStr (es : List PV) (l : Int) : Int := if l - es.length < 0 then -1 else szGo (l - es.length) es
def c_szStringS : FSpec := ⟨[(.rd, .list .str), (.rd, .int .i64)], [.int .i64], true, fun ps => 0 ≤ (nth ps 1).I, fun ps => [.int .i64 (szStr (nth ps 0).L (nth ps 1).I)], fun _ => []⟩
theorem k_szStringS : FnOk Tryz.prog 97 c_szStringS := by
  refine fn_mk [0, 1, 4, 5] [.tmp 4] (env_nil (tyTab_ok [])) mixed Tryz.func97 rfl (by decide) rfl (by decide) rfl ?_
  intro ps hT hpre W hW
  simp only [c_szStringS, TyA, Ty, Tys] at hT hpre
  obtain ⟨_, _, rfl, ⟨es, rfl, he, hes⟩, _, _, rfl, ⟨l, rfl, hl⟩, rfl⟩ := hT
  simp only [nth_zero, nth_succ, pv_I] at hpre
  refine hW.vc [] _ _ ?_
  simp [-List.getD_eq_getElem?_getD, c_szStringS]
  intro h1
  rw [inR64] at hl
  rw [wrap64 (by omega)]
  refine ⟨fun h => by simp [szStr, h], fun h => ?_⟩
  refine hW.loopS _ _ _ [.sl 1 .dp (.int .i64), .sl 5 .dp (.int .i64)] (fun ys => ∃ (x : Int) (i : Nat), ys = [.int .i64 x, .int .i64 i] ∧ 0 ≤ x ∧ x ≤ l ∧ i ≤ es.length ∧ szStr es l = szGo x (es.drop i)) (fun ys => es.length - (nth ys 1).I.toNat) ?_ ?_
  · simp [-List.getD_eq_getElem?_getD, c_szStringS]
    exact ⟨_, 0, ⟨rfl, rfl⟩, h, by omega, by simp, by simp [szStr, Int.not_lt.2 h]⟩
  · rintro ys ⟨x, i, rfl, h2, h3, h4, h5⟩
    refine hW.vc [] _ _ ?_
    simp [-List.getD_eq_getElem?_getD, c_szStringS]
    refine fun _ => ⟨fun h6 => ⟨h6, fun _ h7 => ?_⟩, fun h6 => ?_⟩
    · rw [drop_nth h6] at h5
      rw [wrap64 (by omega), wrap64 (by omega)]
      simp only [szGo] at h5
      refine ⟨fun h8 => by rw [h5, if_pos h8], fun h8 => ⟨⟨_, i + 1, ⟨rfl, by omega⟩, h8, by omega, by omega, ?_⟩, by omega⟩⟩
      rw [h5, if_neg (by omega)]
    · rw [List.drop_eq_nil_of_le h6] at h5
      exact h5.symm
theorem set_take {out es : List PV} {i : Nat} {x : PV} (h1 : out.take i = es.take i) (h2 : out.length = es.length) (h3 : i < es.length) (h4 : x = nth es i) : (out.set i x).take (i + 1) = es.take (i + 1) := by
  rw [take_nth h3, ← h1, take_nth (by simp; omega), List.take_set_of_le (Nat.le_refl _), nth_eq (by simp; omega), List.getElem_set_self, h4]
def c_toStringS : FSpec := ⟨[(.rd, .list .str)], [.list .str], true, fun ps => (nth ps 0).L.length ≤ 1048576, fun ps => [.list (nth ps 0).L], fun _ => []⟩
theorem k_toStringS : FnOk Tryz.prog 110 c_toStringS := by
  refine fn_mk [0, 2, 3, 4] [.tmp 2] (env_nil (tyTab_ok [])) mixed Tryz.func110 rfl (by decide) rfl (by decide) rfl ?_
  intro ps hT hpre W hW
  simp only [c_toStringS, TyA, Ty, Tys] at hT hpre
  obtain ⟨_, _, rfl, ⟨es, rfl, he, hes⟩, rfl⟩ := hT
  simp only [nth_zero, pv_L] at hpre
  refine hW.vc [] _ _ ?_
  simp [-List.getD_eq_getElem?_getD, c_toStringS]
  refine fun h1 => ⟨by omega, hW.loopS _ _ _ [.sl 3 .dp (.list .str), .sl 4 .dp (.int .i64)] (fun ys => ∃ (out : List PV) (i : Nat), ys = [.list out, .int .i64 i] ∧ i ≤ es.length ∧ out.length = es.length ∧ out.take i = es.take i) (fun ys => es.length - (nth ys 1).I.toNat) ?_ ?_⟩
  · simp [-List.getD_eq_getElem?_getD, c_toStringS]
    exact ⟨_, 0, ⟨rfl, rfl⟩, by simp, by simp, by simp⟩
  · rintro ys ⟨out, i, rfl, h2, h3, h4⟩
    refine hW.vc [] _ _ ?_
    simp [-List.getD_eq_getElem?_getD, c_toStringS]
    refine fun _ => ⟨fun h5 => ⟨h5, fun h6 => ⟨by omega, ?_⟩⟩, fun h5 => ?_⟩
    · obtain ⟨x, hx, _⟩ := hes _ (nth_mem h5)
      rw [wrap64 (by omega)]
      refine ⟨⟨_, i + 1, ⟨rfl, by omega⟩, by omega, by simp [h3], set_take h4 h3 h5 (by rw [hx, pv_S])⟩, by omega⟩
    · rw [List.take_of_length_le (by omega), List.take_of_length_le (by omega)] at h4
      exact h4
def eqL (f : PV → PV → Bool) : List PV → List PV → Bool
  | [], [] => true
  | a :: l, b :: m => f a b && eqL f l m
  | _, _ => false
theorem eqL_len {f : PV → PV → Bool} : ∀ {a b : List PV}, a.length ≠ b.length → eqL f a b = false
  | [], [], h => absurd rfl h
  | [], _ :: _, _ => rfl
  | _ :: _, [], _ => rfl
  | x :: a, y :: b, h => by simp only [eqL, eqL_len (a := a) (b := b) (by simpa using h), Bool.and_false]
def c_eqStringS : FSpec := ⟨[(.rd, .list .str), (.rd, .list .str)], [.bool], true, fun _ => True, fun ps => [.bool (eqL (fun x y => x.S == y.S) (nth ps 0).L (nth ps 1).L)], fun _ => []⟩
theorem k_eqStringS : FnOk Tryz.prog 83 c_eqStringS := by
  refine fn_mk [0, 1, 4, 5] [.tmp 4] (env_nil (tyTab_ok [])) mixed Tryz.func83 rfl (by decide) rfl (by decide) rfl ?_
  intro ps hT hpre W hW
  simp only [c_eqStringS, TyA, Ty, Tys] at hT hpre
  obtain ⟨_, _, rfl, ⟨es, rfl, he, hes⟩, _, _, rfl, ⟨es2, rfl, he2, hes2⟩, rfl⟩ := hT
  refine hW.vc [(6, [], .take 0 <| .take 1 <| .take 2 <| .take 3 <| .take 4 <| .take 5 <| .take 6 <| .take 7 <| .take 8 <| .done)] _ _ ?_
  simp [-List.getD_eq_getElem?_getD, c_eqStringS]
  refine fun h1 h2 => ⟨fun h3 => eqL_len (by omega), fun h3 => ?_⟩
  refine hW.loopS _ _ _ [.sl 5 .dp (.int .i64)] (fun ys => ∃ i : Nat, ys = [.int .i64 i] ∧ i ≤ es.length ∧ eqL (fun x y => x.S == y.S) es es2 = eqL (fun x y => x.S == y.S) (es.drop i) (es2.drop i)) (fun ys => es.length - (nth ys 0).I.toNat) ?_ ?_
  · simp [-List.getD_eq_getElem?_getD, c_eqStringS]
    exact ⟨0, rfl, by simp, by simp⟩
  · rintro ys ⟨i, rfl, h4, h5⟩
    refine hW.vc [(6, [], .take 0 <| .take 1 <| .take 2 <| .take 3 <| .take 4 <| .take 5 <| .take 6 <| .take 7 <| .take 8 <| .done)] _ _ ?_
    simp [-List.getD_eq_getElem?_getD, c_eqStringS]
    refine fun _ => ⟨fun h6 => ⟨by decide +kernel, h6, fun _ => ⟨by omega, fun _ => ?_⟩⟩, fun h6 => ?_⟩
    · rw [drop_nth h6, drop_nth (by omega : i < es2.length), eqL] at h5
      rw [wrap64 (by omega)]
      refine ⟨fun h7 => by rw [h5]; simp [h7], fun h7 => ⟨⟨i + 1, by omega, by omega, by rw [h5]; simp [h7]⟩, by omega⟩⟩
    · rw [h5, List.drop_eq_nil_of_le h6, List.drop_eq_nil_of_le (by omega)]; rfl
end Go.Proofs.YtkofjkjcbljkdaaGreatDoor
end

section
namespace Go.Proofs.YtkofjkjcbljkdaaGreatDoor
variable [LaidG]
set_option maxRecDepth 100000
set_option linter.unusedSimpArgs false
theorem wrapU8 {n : Int} (h : 0 ≤ n ∧ n ≤ 255) : IntKind.u8.wrap n = n := by
  simp [IntKind.wrap, IntKind.signed, IntKind.bits]; omega
end Go.Proofs.YtkofjkjcbljkdaaGreatDoor
end

section
namespace Go.Proofs.YtkofjkjcbljkdaaGreatDoor
variable [LaidG]
set_option maxRecDepth 100000
set_option linter.unusedSimpArgs false
def numB (l : List UInt8) : Int := l.foldl (fun n b => n * 256 + b.toNat) 0
theorem numB_snoc (l : List UInt8) (b : UInt8) : numB (l ++ [b]) = numB l * 256 + b.toNat := by simp [numB]
theorem numB_take {l : List UInt8} {i : Nat} (h : i < l.length) : numB (l.take (i + 1)) = numB (l.take i) * 256 + (l.getD i 0).toNat := by
  rw [List.take_succ_eq_append_getElem h, numB_snoc]; simp [h]
theorem numB_bound : ∀ (n : Nat) (l : List UInt8), l.length = n → 0 ≤ numB l ∧ numB l < 256 ^ n
  | 0, l, h => by have := List.eq_nil_of_length_eq_zero h; subst this; simp [numB]
  | n + 1, l, h => by
    have h0 : l ≠ [] := by intro e; subst e; simp at h
    have h1 := List.dropLast_concat_getLast h0
    have h2 := numB_bound n l.dropLast (by simp [h])
    have h3 := (l.getLast h0).toNat_lt
    rw [← h1, numB_snoc, Int.pow_succ]
    omega
theorem numB_le {l : List UInt8} (h : l.length ≤ 7) (i : Nat) : 0 ≤ numB (l.take i) ∧ numB (l.take i) < 72057594037927936 := by
  have h1 := numB_bound (l.take i).length (l.take i) rfl
  refine ⟨h1.1, Int.lt_of_lt_of_le h1.2 ?_⟩
  have h2 : (l.take i).length ≤ 7 := by simp; omega
  have h3 : (256 : Int) ^ (l.take i).length ≤ 256 ^ 7 := by
    have := Nat.pow_le_pow_right (n := 256) (by decide) h2
    exact_mod_cast this
  exact Int.le_trans h3 (by decide)
theorem numB_le6 {l : List UInt8} (h : l.length ≤ 7) {i : Nat} (hi : i < l.length) : 0 ≤ numB (l.take i) ∧ numB (l.take i) < 281474976710656 := by
  have h1 := numB_bound (l.take i).length (l.take i) rfl
  refine ⟨h1.1, Int.lt_of_lt_of_le h1.2 ?_⟩
  have h2 : (l.take i).length ≤ 6 := by simp; omega
  have h3 : (256 : Int) ^ (l.take i).length ≤ 256 ^ 6 := by
    have := Nat.pow_le_pow_right (n := 256) (by decide) h2
    exact_mod_cast this
  exact Int.le_trans h3 (by decide)
theorem or_byte {m : Int} {b : UInt8} (h0 : 0 ≤ m) (h1 : m < 281474976710656) : orI .i64 (m * 256) b.toNat = m * 256 + b.toNat := by
  obtain ⟨k, rfl⟩ := Int.eq_ofNat_of_zero_le h0
  have hb := b.toNat_lt
  unfold orI
  have hw : IntKind.i64.bits = 64 := rfl
  rw [hw]
  have e1 : (BitVec.ofInt 64 ((k : Int) * 256)).toNat = k * 256 := by
    rw [show (k : Int) * 256 = ((k * 256 : Nat) : Int) by simp, BitVec.ofInt_natCast, BitVec.toNat_ofNat]
    exact Nat.mod_eq_of_lt (by omega)
  have e2 : (BitVec.ofInt 64 (b.toNat : Int)).toNat = b.toNat := by
    rw [BitVec.ofInt_natCast, BitVec.toNat_ofNat]
    exact Nat.mod_eq_of_lt (by omega)
  rw [BitVec.toNat_or, e1, e2]
  have e3 : k * 256 ||| b.toNat = k * 256 + b.toNat := by
    have := Nat.shiftLeft_add_eq_or_of_lt (i := 8) (b := b.toNat) (by omega) k
    rw [Nat.shiftLeft_eq] at this
    exact this.symm
  rw [e3]
  rw [wrap64 (by omega)]
  simp
theorem conv_byte (b : UInt8) : IntKind.i64.wrap (b.toNat : Int) = b.toNat := wrap64 (by have := b.toNat_lt; omega)
def c_l02Of : FSpec := ⟨[(.rd, .str)], [.int .i64], true, fun ps => (nth ps 0).S.length ≤ 7, fun ps => [.int .i64 (numB (nth ps 0).S)], fun _ => []⟩
theorem k_l02Of : FnOk Tryz.prog 74 c_l02Of := by
  refine fn_mk [0, 2, 3, 4] [.tmp 2] (env_nil (tyTab_ok [])) mixed Tryz.func74 rfl (by decide) rfl (by decide) rfl ?_
  intro ps hT hpre W hW
  simp only [c_l02Of, TyA, Ty, Tys] at hT hpre
  obtain ⟨_, _, rfl, ⟨l, rfl, hl⟩, rfl⟩ := hT
  simp only [nth_zero, pv_S] at hpre
  refine hW.vc [] _ _ ?_
  simp [-List.getD_eq_getElem?_getD, c_l02Of]
  refine hW.loopS _ _ _ [.sl 3 .dp (.int .i64), .sl 4 .dp (.int .i64)] (fun ys => ∃ i : Nat, ys = [.int .i64 (numB (l.take i)), .int .i64 i] ∧ i ≤ l.length) (fun ys => l.length - (nth ys 1).I.toNat) ?_ ?_
  · simp [-List.getD_eq_getElem?_getD, c_l02Of]
    exact ⟨0, ⟨by simp [numB], rfl⟩, by simp⟩
  · rintro ys ⟨i, rfl, h4⟩
    refine hW.vc [] _ _ ?_
    simp [-List.getD_eq_getElem?_getD, c_l02Of]
    refine fun _ => ⟨fun h6 => ⟨h6, ?_⟩, fun h6 => by rw [List.take_of_length_le h6]⟩
    have h7 := numB_le hpre i
    have h8 := numB_le6 hpre h6
    have h9 := (l.getD i 0).toNat_lt
    rw [conv_byte, wrap64 (n := numB (l.take i) * 256) (by omega), wrap64 (by omega), wrap64 (by omega)]
    exact ⟨⟨i + 1, ⟨(numB_take h6).symm, by omega⟩, by omega⟩, by omega⟩
def c_bigNumber : FSpec := c_l02Of
theorem k_bigNumber : FnOk Tryz.prog 71 c_bigNumber := by
  refine fn_mk [0, 2, 3, 4, 6, 7] [.tmp 2] (env_nil (tyTab_ok [])) mixed Tryz.func71 rfl (by decide) rfl (by decide) rfl ?_
  intro ps hT hpre W hW
  simp only [c_bigNumber, TyA, Ty, Tys] at hT hpre
  simp only [c_l02Of, TyA, Ty] at hT hpre
  obtain ⟨_, _, rfl, ⟨l, rfl, hl⟩, rfl⟩ := hT
  simp only [nth_zero, pv_S] at hpre
  refine hW.vc [] _ _ ?_
  simp [-List.getD_eq_getElem?_getD, c_bigNumber, c_l02Of, c_l02Of]
  intro h0
  refine hW.loopS _ _ _ [.sl 3 .dp (.int .i64), .sl 7 .dp (.int .i64)] (fun ys => ∃ i : Nat, ys = [.int .i64 (numB (l.take i)), .int .i64 i] ∧ i ≤ l.length) (fun ys => l.length - (nth ys 1).I.toNat) ?_ ?_
  · simp [-List.getD_eq_getElem?_getD, c_bigNumber, c_l02Of]
    exact ⟨0, ⟨by simp [numB], rfl⟩, by simp⟩
  · rintro ys ⟨i, rfl, h4⟩
    refine hW.vc [] _ _ ?_
    simp [-List.getD_eq_getElem?_getD, c_bigNumber, c_l02Of, c_l02Of]
    refine ⟨fun h6 => ⟨h6, ?_⟩, fun h6 => by rw [List.take_of_length_le h6]⟩
    have h7 := numB_le hpre i
    have h8 := numB_le6 hpre h6
    have h9 := (l.getD i 0).toNat_lt
    rw [conv_byte, show shlI IntKind.i64 (numB (List.take i l)) 8 = IntKind.i64.wrap (numB (l.take i) * 256) from rfl, wrap64 (n := numB (l.take i) * 256) (by omega), wrap64 (by omega), or_byte h8.1 h8.2]
    exact ⟨⟨i + 1, ⟨(numB_take h6).symm, by omega⟩, by omega⟩, by omega⟩
def runeOk (n : Int) : Bool := inB n 0 1114111 && !inB n 55296 57343
def isRuneB (n : Int) : Bool := inB n 32 1114111 && (n != 127) && !inB n 55296 57343
def cellB (r k : Int) : Bool := runeOk r && decide (r ≥ 32) && (r != 127) && inB k 0 127
def c_l03RuneOK : FSpec := ⟨[(.rd, .int .i64)], [.bool], true, fun _ => True, fun ps => [.bool (runeOk (nth ps 0).I)], fun _ => []⟩
theorem k_l03RuneOK : FnOk Tryz.prog 172 c_l03RuneOK := by
  refine fn_mk [0, 2] [.tmp 2] (env_cons (cs := []) k_l01In (env_nil (tyTab_ok []))) mixed Tryz.func172 rfl (by decide) rfl (by decide) rfl ?_
  intro ps hT hpre W hW
  simp only [c_l03RuneOK, TyA, Ty, Tys] at hT hpre
  obtain ⟨_, _, rfl, ⟨a, rfl, ha⟩, rfl⟩ := hT
  refine hW.vc [] _ _ ?_
  simp [-List.getD_eq_getElem?_getD, c_l03RuneOK, c_l01In, c_within, c_within]
  rfl
def c_isRune : FSpec := ⟨[(.rd, .int .i64)], [.bool], true, fun _ => True, fun ps => [.bool (isRuneB (nth ps 0).I)], fun _ => []⟩
theorem k_isRune : FnOk Tryz.prog 122 c_isRune := by
  refine fn_mk [0, 2] [.tmp 2] (env_cons (cs := []) k_within (env_nil (tyTab_ok []))) mixed Tryz.func122 rfl (by decide) rfl (by decide) rfl ?_
  intro ps hT hpre W hW
  simp only [c_isRune, TyA, Ty, Tys] at hT hpre
  obtain ⟨_, _, rfl, ⟨a, rfl, ha⟩, rfl⟩ := hT
  refine hW.vc [] _ _ ?_
  simp [-List.getD_eq_getElem?_getD, c_isRune, c_within]
  simp only [isRuneB]; congr 2
def c_l04Cell : FSpec := ⟨[(.rd, .agg [.int .i64, .int .i64])], [.bool], true, fun _ => True, fun ps => [.bool (cellB (nth (nth ps 0).A 0).I (nth (nth ps 0).A 1).I)], fun _ => []⟩
theorem k_l04Cell : FnOk Tryz.prog 123 c_l04Cell := by
  refine fn_mk [0, 1, 2] [.tmp 2] (env_cons (cs := []) k_l01In (env_cons (cs := []) k_l03RuneOK (env_nil (tyTab_ok [])))) mixed Tryz.func123 rfl (by decide) rfl (by decide) rfl ?_
  intro ps hT hpre W hW
  simp only [c_l04Cell, TyA, Ty, Tys] at hT hpre
  obtain ⟨_, _, rfl, ⟨_, rfl, _, _, rfl, ⟨a, rfl, ha⟩, _, _, rfl, ⟨b, rfl, hb⟩, rfl⟩, rfl⟩ := hT
  refine hW.vc [] _ _ ?_
  simp [-List.getD_eq_getElem?_getD, c_l04Cell, c_l03RuneOK, c_l01In, c_within, c_within]
  simp only [cellB]; congr 2
def rowGo : List UInt8 → Bool
  | [] => true
  | a :: b :: c :: d :: l => isRuneB (numB [a, b, c]) && decide (d.toNat ≤ 127) && rowGo l
  | _ => false
def rowB (l : List UInt8) (w : Int) : Bool := decide ((l.length : Int) = 4 * w) && rowGo l
theorem rowGo_step {r : List UInt8} (h : 4 ≤ r.length) : rowGo r = (isRuneB (numB (r.take 3)) && decide ((r.getD 3 0).toNat ≤ 127) && rowGo (r.drop 4)) := by
  match r, h with
  | a :: b :: c :: d :: l, _ => rfl
theorem cell_eq (n : Int) (d : UInt8) : cellB n d.toNat = (isRuneB n && decide (d.toNat ≤ 127)) := by
  rw [Bool.eq_iff_iff]
  simp [cellB, isRuneB, runeOk, inB]
  omega
theorem row_off {l : List UInt8} {n : Nat} (i : Nat) : (l.drop n).getD i 0 = l.getD (n + i) 0 := by
  simp only [List.getD_eq_getElem?_getD, List.getElem?_drop]
def c_isRow : FSpec := ⟨[(.rd, .str), (.rd, .int .i64)], [.bool], true, fun ps => 0 ≤ (nth ps 1).I ∧ (nth ps 1).I ≤ 1000, fun ps => [.bool (rowB (nth ps 0).S (nth ps 1).I)], fun _ => []⟩
theorem k_isRow : FnOk Tryz.prog 67 c_isRow := by
  refine fn_mk [0, 1, 4] [.tmp 4] (env_cons (cs := []) k_isRune (env_cons (cs := []) k_bigNumber (env_nil (tyTab_ok [])))) mixed Tryz.func67 rfl (by decide) rfl (by decide) rfl ?_
  intro ps hT hpre W hW
  simp only [c_isRow, TyA, Ty, Tys] at hT hpre
  obtain ⟨_, _, rfl, ⟨l, rfl, hl⟩, _, _, rfl, ⟨w, rfl, hw⟩, rfl⟩ := hT
  simp only [nth_zero, nth_succ, pv_S, pv_I] at hpre
  refine hW.vc [] _ _ ?_
  simp [-List.getD_eq_getElem?_getD, c_isRow, c_bigNumber, c_isRune, c_l02Of]
  intro h1
  rw [wrap64 (by omega)]
  refine ⟨fun h => by simp [rowB, h], fun h => ?_⟩
  refine hW.loopS _ _ _ [.sl 0 .dp .str] (fun ys => ∃ r, ys = [.str r] ∧ (∃ k, r.length = 4 * k) ∧ r.length ≤ l.length ∧ rowB l w = rowGo r) (fun ys => (nth ys 0).S.length) ?_ ?_
  · simp [-List.getD_eq_getElem?_getD, c_isRow, c_bigNumber, c_isRune, c_l02Of]
    exact ⟨⟨w.toNat, by omega⟩, by simp [rowB, h]⟩
  · rintro ys ⟨r, rfl, ⟨k, hk⟩, h2, h3⟩
    refine hW.vc [] _ _ ?_
    simp [-List.getD_eq_getElem?_getD, c_isRow, c_bigNumber, c_isRune, c_l02Of]
    refine ⟨fun h4 => ?_, fun h4 => by rw [h3, h4]; rfl⟩
    have h5 : r.length ≠ 0 := fun e => h4 (List.eq_nil_of_length_eq_zero e)
    have h6 : 4 ≤ r.length := by omega
    rw [rowGo_step h6] at h3
    refine ⟨by omega, by omega, fun h7 => ⟨h7, by omega⟩, fun h7 => ?_, fun h7 h8 => ⟨by omega, ⟨⟨k - 1, by omega⟩, by omega, ?_⟩, by omega⟩⟩
    · rw [h3]
      rcases h7 with h7 | h7
      · simp [h7]
      · have : ¬ (r.getD 3 0).toNat ≤ 127 := by omega
        simp only [this, decide_false, Bool.and_false, Bool.false_and]
    · have : (r.getD 3 0).toNat ≤ 127 := by omega
      rw [h3, h7, List.take_of_length_le (by simp)]
      simp only [this, decide_true, Bool.and_true, Bool.true_and]
def c_l11Row : FSpec := ⟨[(.rd, .int .i64), (.rd, .str)], [.bool], true, fun ps => 0 ≤ (nth ps 0).I ∧ (nth ps 0).I ≤ 1000, fun ps => [.bool (rowB (nth ps 1).S (nth ps 0).I)], fun _ => []⟩
theorem k_l11Row : FnOk Tryz.prog 68 c_l11Row := by
  refine fn_mk [0, 1, 4, 5] [.tmp 4] (env_cons (cs := []) k_l04Cell (env_cons (cs := []) k_l02Of (env_nil (tyTab_ok [])))) mixed Tryz.func68 rfl (by decide) rfl (by decide) rfl ?_
  intro ps hT hpre W hW
  simp only [c_l11Row, TyA, Ty, Tys] at hT hpre
  obtain ⟨_, _, rfl, ⟨w, rfl, hw⟩, _, _, rfl, ⟨l, rfl, hl⟩, rfl⟩ := hT
  simp only [nth_zero, nth_succ, pv_S, pv_I] at hpre
  refine hW.vc [(6, [], .take 0 <| .take 1 <| .take 2 <| .take 3 <| .take 4 <| .take 5 <| .take 6 <| .take 8 <| .take 9 <| .take 10 <| .take 11 <| .take 12 <| .take 13 <| .alt 7 (.take 14 <| .alt 15 (.take 16 <| .done) .stop) .stop)] _ _ ?_
  simp [-List.getD_eq_getElem?_getD, c_l11Row, c_l02Of, c_l04Cell]
  intro h1
  rw [wrap64 (by omega)]
  refine ⟨fun h => by simp [rowB, h], fun h => ?_⟩
  refine hW.loopS _ _ _ [.sl 5 .dp (.int .i64)] (fun ys => ∃ x : Nat, ys = [.int .i64 x] ∧ (x : Int) ≤ w ∧ rowB l w = rowGo (l.drop (4 * x))) (fun ys => (w - (nth ys 0).I).toNat) ?_ ?_
  · simp [-List.getD_eq_getElem?_getD, c_l11Row, c_l02Of, c_l04Cell]
    exact ⟨0, rfl, by omega, by simp [rowB, h]⟩
  · rintro ys ⟨x, rfl, h2, h3⟩
    refine hW.vc [(6, [], .take 0 <| .take 1 <| .take 2 <| .take 3 <| .take 4 <| .take 5 <| .take 6 <| .take 8 <| .take 9 <| .take 10 <| .take 11 <| .take 12 <| .take 13 <| .alt 7 (.take 14 <| .alt 15 (.take 16 <| .done) .stop) .stop)] _ _ ?_
    simp [-List.getD_eq_getElem?_getD, c_l11Row, c_l02Of, c_l04Cell]
    refine ⟨fun h4 => ⟨by decide +kernel, ?_⟩, fun h4 => ?_⟩
    · rw [wrap64 (n := 4 * (x : Int)) (by omega), wrap64 (n := 4 * (x : Int) + 3) (by omega), conv_byte, cell_eq]
      have e1 : (4 * (x : Int)).toNat = 4 * x := by omega
      have e2 : (4 * (x : Int) + 3).toNat = 4 * x + 3 := by omega
      have e3 : 4 * x + 3 - 4 * x = 3 := by omega
      rw [e1, e2, e3]
      have h5 : 4 ≤ (l.drop (4 * x)).length := by simp; omega
      rw [rowGo_step h5, row_off, List.drop_drop] at h3
      rw [wrap64 (by omega)]
      refine ⟨⟨by omega, by omega, by omega⟩, ⟨by omega, by omega⟩, by omega, fun h6 => by rw [h3, h6]; rfl, fun h6 => ⟨⟨x + 1, by omega, by omega, ?_⟩, by omega⟩⟩
      rw [h3, h6, Bool.true_and, Nat.mul_add]
    · rw [h3, List.drop_eq_nil_of_le (by omega)]; rfl
end Go.Proofs.YtkofjkjcbljkdaaGreatDoor
end

section
namespace Go.Proofs.YtkofjkjcbljkdaaGreatDoor
variable [LaidG]
set_option maxRecDepth 100000
set_option linter.unusedSimpArgs false
def rowsB (es : List PV) (w h : Int) : Bool := decide ((es.length : Int) = h) && es.all fun e => rowB e.S w
def idxGo (p : PV → Bool) (i : Nat) : List PV → Int
  | [] => -1
  | e :: es => if p e then (i : Int) else idxGo p (i + 1) es
theorem idxGo_any (p : PV → Bool) : ∀ (es : List PV) (i : Nat), decide (0 ≤ idxGo p i es) = es.any p
  | [], i => by simp [idxGo]
  | e :: es, i => by
    simp only [idxGo, List.any_cons]
    by_cases h : p e = true
    · simp [h]
    · simp [h, idxGo_any p es (i + 1)]
def wOk (w : Int) : Prop := 0 ≤ w ∧ w ≤ 1000
def c_areRows1 : FSpec := ⟨[(.rd, .str), (.rd, .box [.int .i64])], [.bool], true, fun ps => wOk (nth (nth ps 1).A 0).I, fun ps => [.bool (!rowB (nth ps 0).S (nth (nth ps 1).A 0).I)], fun _ => []⟩
theorem k_areRows1 : FnOk Tryz.prog 66 c_areRows1 := by
  refine fn_mk [0, 1, 3] [.tmp 3] (env_cons (cs := []) k_isRow (env_nil (tyTab_ok []))) mixed Tryz.func66 rfl (by decide) rfl (by decide) rfl ?_
  intro ps hT hpre W hW
  simp only [c_areRows1, TyA, Ty, Tys] at hT hpre
  obtain ⟨_, _, rfl, ⟨l, rfl, hl⟩, _, _, rfl, ⟨_, rfl, _, _, rfl, ⟨w, rfl, hw⟩, rfl⟩, rfl⟩ := hT
  simp only [nth_zero, nth_succ, pv_S, pv_I, pv_A] at hpre
  refine hW.vc [] _ _ ?_
  simp [-List.getD_eq_getElem?_getD, c_areRows1, c_isRow]
  exact hpre
def c_IndexFunc_areRows1 : FSpec := ⟨[(.rd, .list .str), (.rd, .fn 66 [.box [.int .i64]])], [.int .i64], true, fun ps => wOk (nth (nth (nth ps 1).A 0).A 0).I, fun ps => [.int .i64 (idxGo (fun e => !rowB e.S (nth (nth (nth ps 1).A 0).A 0).I) 0 (nth ps 0).L)], fun _ => []⟩
theorem k_IndexFunc_areRows1 : FnOk Tryz.prog 121 c_IndexFunc_areRows1 := by
  refine fn_mk [0, 1, 4, 5, 7, 8] [.tmp 4] (env_cons (cs := []) k_areRows1 (env_nil (tyTab_ok []))) mixed Tryz.func121 rfl (by decide) rfl (by decide) rfl ?_
  intro ps hT hpre W hW
  simp only [c_IndexFunc_areRows1, TyA, Ty, Tys] at hT hpre
  obtain ⟨_, _, rfl, ⟨es, rfl, he, hes⟩, _, _, rfl, ⟨_, rfl, _, _, rfl, ⟨_, rfl, _, _, rfl, ⟨w, rfl, hw⟩, rfl⟩, rfl⟩, rfl⟩ := hT
  simp only [nth_zero, nth_succ, pv_S, pv_I, pv_A] at hpre
  refine hW.vc [] _ _ ?_
  simp [-List.getD_eq_getElem?_getD, c_IndexFunc_areRows1, c_areRows1]
  intro h1
  refine hW.loopS _ _ _ [.sl 8 .dp (.int .i64)] (fun ys => ∃ i : Nat, ys = [.int .i64 i] ∧ i ≤ es.length ∧ idxGo (fun e => !rowB e.S w) 0 es = idxGo (fun e => !rowB e.S w) i (es.drop i)) (fun ys => es.length - (nth ys 0).I.toNat) ?_ ?_
  · simp [-List.getD_eq_getElem?_getD, c_IndexFunc_areRows1, c_areRows1]
    exact ⟨0, rfl, by simp, by simp⟩
  · rintro ys ⟨i, rfl, h2, h3⟩
    refine hW.vc [] _ _ ?_
    simp [-List.getD_eq_getElem?_getD, c_IndexFunc_areRows1, c_areRows1]
    refine ⟨fun h4 => ⟨h4, fun _ => ⟨hpre, fun h5 => ?_, fun h5 => ?_⟩⟩, fun h4 => ?_⟩
    · rw [h3, drop_nth h4]; simp [idxGo, h5]
    · rw [wrap64 (by omega)]
      refine ⟨⟨i + 1, by omega, by omega, ?_⟩, by omega⟩
      rw [h3, drop_nth h4]; simp [idxGo, h5]
    · rw [h3, List.drop_eq_nil_of_le h4]; rfl
def c_ContainsFunc_areRows1 : FSpec := ⟨[(.rd, .list .str), (.rd, .fn 66 [.box [.int .i64]])], [.bool], true, fun ps => wOk (nth (nth (nth ps 1).A 0).A 0).I, fun ps => [.bool ((nth ps 0).L.any (fun e => !rowB e.S (nth (nth (nth ps 1).A 0).A 0).I))], fun _ => []⟩
theorem k_ContainsFunc_areRows1 : FnOk Tryz.prog 65 c_ContainsFunc_areRows1 := by
  refine fn_mk [0, 1, 4] [.tmp 4] (env_cons (cs := [66]) k_IndexFunc_areRows1 (env_nil (tyTab_ok []))) mixed Tryz.func65 rfl (by decide) rfl (by decide) rfl ?_
  intro ps hT hpre W hW
  simp only [c_ContainsFunc_areRows1, TyA, Ty, Tys] at hT hpre
  obtain ⟨_, _, rfl, ⟨es, rfl, he, hes⟩, _, _, rfl, ⟨_, rfl, _, _, rfl, ⟨_, rfl, _, _, rfl, ⟨w, rfl, hw⟩, rfl⟩, rfl⟩, rfl⟩ := hT
  simp only [nth_zero, nth_succ, pv_S, pv_I, pv_A] at hpre
  refine hW.vc [] _ _ ?_
  simp [-List.getD_eq_getElem?_getD, c_ContainsFunc_areRows1, c_IndexFunc_areRows1]
  exact ⟨hpre, idxGo_any _ _ _⟩
def c_areRows : FSpec := ⟨[(.rd, .list .str), (.rd, .int .i64), (.rd, .int .i64)], [.bool], true, fun ps => wOk (nth ps 1).I, fun ps => [.bool (rowsB (nth ps 0).L (nth ps 1).I (nth ps 2).I)], fun _ => []⟩
theorem k_areRows : FnOk Tryz.prog 31 c_areRows := by
  refine fn_mk [0, 1, 2, 4, 6] [.tmp 6] (env_cons (cs := [66]) k_ContainsFunc_areRows1 (env_nil (tyTab_ok []))) mixed Tryz.func31 rfl (by decide) rfl (by decide) rfl ?_
  intro ps hT hpre W hW
  simp only [c_areRows, TyA, Ty, Tys] at hT hpre
  obtain ⟨_, _, rfl, ⟨es, rfl, he, hes⟩, _, _, rfl, ⟨w, rfl, hw⟩, _, _, rfl, ⟨h, rfl, hh⟩, rfl⟩ := hT
  simp only [nth_zero, nth_succ, pv_S, pv_I, pv_A] at hpre
  refine hW.vc [] _ _ ?_
  simp [-List.getD_eq_getElem?_getD, c_areRows, c_ContainsFunc_areRows1]
  refine fun _ => ⟨fun _ => hpre, ?_⟩
  simp only [rowsB, List.not_any_eq_all_not, Bool.not_not]
theorem rowsB_len {es : List PV} {w h : Int} (hl : (es.length : Int) ≠ h) : rowsB es w h = false := by simp [rowsB, hl]
def c_l11Rows : FSpec := ⟨[(.rd, .int .i64), (.rd, .int .i64), (.rd, .list .str)], [.bool], true, fun ps => wOk (nth ps 0).I, fun ps => [.bool (rowsB (nth ps 2).L (nth ps 0).I (nth ps 1).I)], fun _ => []⟩
theorem k_l11Rows : FnOk Tryz.prog 37 c_l11Rows := by
  refine fn_mk [0, 1, 2, 6, 7] [.tmp 6] (env_cons (cs := []) k_l11Row (env_nil (tyTab_ok []))) mixed Tryz.func37 rfl (by decide) rfl (by decide) rfl ?_
  intro ps hT hpre W hW
  simp only [c_l11Rows, TyA, Ty, Tys] at hT hpre
  obtain ⟨_, _, rfl, ⟨w, rfl, hw⟩, _, _, rfl, ⟨h, rfl, hh⟩, _, _, rfl, ⟨es, rfl, he, hes⟩, rfl⟩ := hT
  simp only [nth_zero, nth_succ, pv_S, pv_I, pv_A] at hpre
  refine hW.vc [] _ _ ?_
  simp [-List.getD_eq_getElem?_getD, c_l11Rows, c_l11Row]
  refine fun h1 => ⟨fun h2 => rowsB_len h2, fun h2 => ?_⟩
  refine hW.loopS _ _ _ [.sl 7 .dp (.int .i64)] (fun ys => ∃ i : Nat, ys = [.int .i64 i] ∧ i ≤ es.length ∧ rowsB es w h = (es.drop i).all fun e => rowB e.S w) (fun ys => es.length - (nth ys 0).I.toNat) ?_ ?_
  · simp [-List.getD_eq_getElem?_getD, c_l11Rows, c_l11Row]
    exact ⟨0, rfl, by simp, by simp [rowsB, h2]⟩
  · rintro ys ⟨i, rfl, h3, h4⟩
    refine hW.vc [] _ _ ?_
    simp [-List.getD_eq_getElem?_getD, c_l11Rows, c_l11Row]
    refine ⟨fun h5 => ⟨by omega, fun _ => ⟨hpre, fun h6 => ?_, fun h6 => ?_⟩⟩, fun h5 => ?_⟩
    · rw [h4, drop_nth (by omega)]; simp [h6]
    · rw [wrap64 (by omega)]
      refine ⟨⟨i + 1, by omega, by omega, ?_⟩, by omega⟩
      rw [h4, drop_nth (by omega)]; simp [h6]
    · rw [h4, List.drop_eq_nil_of_le (by omega)]; rfl
def mirB (m : List PV) : Bool := if (nth m 0).I = -1 then decide ((nth m 1).I = 0) && decide ((nth m 2).I = 0) && decide ((nth m 3).L.length = 0) else inB (nth m 0).I 0 60 && sizeB (nth m 1).I (nth m 2).I && rowsB (nth m 3).L (nth m 1).I (nth m 2).I
theorem size_wOk {w h : Int} (hs : sizeB w h = true) : wOk w := by
  simp [sizeB, inB] at hs; unfold wOk; omega
theorem mir_fin {n w h : Int} {es : List PV} : (n = -1 → (w = 0 → h = 0 → es.length ≤ 140737488355328) → (decide (w = 0) && decide (h = 0) && (es.length : Int) == 0) = mirB [PV.int .i64 n, PV.int .i64 w, PV.int .i64 h, PV.list es]) ∧
    (¬n = -1 → (inB n 0 60 = true → sizeB w h = true → wOk w) ∧ (inB n 0 60 && sizeB w h && rowsB es w h) = mirB [PV.int .i64 n, PV.int .i64 w, PV.int .i64 h, PV.list es]) := by
  refine ⟨fun h1 _ => ?_, fun h1 => ⟨fun _ h2 => size_wOk h2, ?_⟩⟩
  · simp only [mirB, nth_zero, nth_succ, pv_I, pv_L, h1, if_true]
    congr 1
    rw [Bool.eq_iff_iff]; simp
  · simp [mirB, nth_zero, nth_succ, pv_I, pv_L, h1]
def c_isNumber : FSpec := ⟨[(.rd, .int .i64)], [.bool], true, fun _ => True, fun ps => [.bool (inB (nth ps 0).I 0 60)], fun _ => []⟩
theorem k_isNumber : FnOk Tryz.prog 29 c_isNumber := by
  refine fn_mk [0, 2] [.tmp 2] (env_cons (cs := []) k_within (env_nil (tyTab_ok []))) mixed Tryz.func29 rfl (by decide) rfl (by decide) rfl ?_
  intro ps hT hpre W hW
  simp only [c_isNumber, TyA, Ty, Tys] at hT hpre
  obtain ⟨_, _, rfl, ⟨a, rfl, ha⟩, rfl⟩ := hT
  refine hW.vc [] _ _ ?_
  simp [-List.getD_eq_getElem?_getD, c_isNumber, c_within]
def c_isMirror : FSpec := ⟨[(.rd, .agg [.int .i64, .int .i64, .int .i64, .list .str])], [.bool], true, fun _ => True, fun ps => [.bool (mirB (nth ps 0).A)], fun _ => []⟩
theorem k_isMirror : FnOk Tryz.prog 39 c_isMirror := by
  refine fn_mk [0, 1, 2] [.tmp 2] (env_cons (cs := []) k_areRows (env_cons (cs := []) k_isSize (env_cons (cs := []) k_isNumber (env_nil (tyTab_ok []))))) mixed Tryz.func39 rfl (by decide) rfl (by decide) rfl ?_
  intro ps hT hpre W hW
  simp only [c_isMirror, TyA, Ty, Tys] at hT hpre
  obtain ⟨_, _, rfl, ⟨_, rfl, _, _, rfl, ⟨n, rfl, hn⟩, _, _, rfl, ⟨w, rfl, hw⟩, _, _, rfl, ⟨h, rfl, hh⟩, _, _, rfl, ⟨es, rfl, he, hes⟩, rfl⟩, rfl⟩ := hT
  refine hW.vc [] _ _ ?_
  simp [-List.getD_eq_getElem?_getD, c_isMirror, c_isNumber, c_isSize, c_areRows]
  exact mir_fin
def c_sMirrorOK : FSpec := c_isMirror
theorem k_sMirrorOK : FnOk Tryz.prog 42 c_sMirrorOK := by
  refine fn_mk [0, 1, 2] [.tmp 2] (env_cons (cs := []) k_l11Rows (env_cons (cs := []) k_l04Size (env_cons (cs := []) k_l01In (env_nil (tyTab_ok []))))) mixed Tryz.func42 rfl (by decide) rfl (by decide) rfl ?_
  intro ps hT hpre W hW
  simp only [c_sMirrorOK, TyA, Ty, Tys] at hT hpre
  simp only [c_isMirror, TyA, Ty, Tys] at hT
  obtain ⟨_, _, rfl, ⟨_, rfl, _, _, rfl, ⟨n, rfl, hn⟩, _, _, rfl, ⟨w, rfl, hw⟩, _, _, rfl, ⟨h, rfl, hh⟩, _, _, rfl, ⟨es, rfl, he, hes⟩, rfl⟩, rfl⟩ := hT
  refine hW.vc [] _ _ ?_
  simp [-List.getD_eq_getElem?_getD, c_sMirrorOK, c_l01In, c_l04Size, c_l11Rows, c_isMirror, c_within, c_isSize]
  exact mir_fin
end Go.Proofs.YtkofjkjcbljkdaaGreatDoor
end

