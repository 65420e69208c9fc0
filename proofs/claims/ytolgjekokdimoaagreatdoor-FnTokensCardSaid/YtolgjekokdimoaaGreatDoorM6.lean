/-
  Part 6 of the proof of FnTokens: a verification-condition generator over the program and the contracts of its functions, in the order of their use.
  Conditions: none.
-/
import Derived.Test.YtolgjekokdimoaaGreatDoorM5
import Derived.Test.YtolgjekokdimoaaGreatDoorChecked
import Derived.Lib.Builder
import Derived.Lib.AppendStr
import Derived.Lib.UnsafeStr
import Derived.WalkKit
import Derived.OwnWalk
import Derived.Laws.Externs
import Derived.Lib.RuneBytes
set_option linter.unusedVariables false
set_option linter.unusedSimpArgs false
set_option linter.unusedSectionVars false

section
namespace Go.Proofs.YtolgjekokdimoaaGreatDoor
variable [LaidG]
set_option linter.unusedVariables false

/-- The values in the result variables. -/
def lkAll (E : Env) (S : St) : List ResultVar → Option (List SV)
  | [] => some []
  | .tmp t :: ts => match lk S.Lp t, lkAll E S ts with | some x, some xs => some (x :: xs) | _, _ => none
  | .cell t ty :: ts => match lk S.Lp t, lkAll E S ts with
    | some (.ptr h 0), some xs => (match lk S.A h, lk E.ty ty with
      | some (.box _ _ cs), some ti => if ti.agg && cs.length == ti.sz then some (.agg cs :: xs) else none
      | _, _ => none)
    | _, _ => none

def numb : Nat → List SV → List (Nat × SV)
  | _, [] => []
  | i, x :: xs => (i, x) :: numb (i + 1) xs

/-- The leaves of a struct now; the lists are those of some handles. -/
def resKp : List PTy → Nat → List SV → Option (Prop × List PV)
  | [], _, [] => some (True, [])
  | .int k :: ts, i, .int k' m :: xs => match resKp ts i xs with | some (o, ps) => some (k' = k ∧ o, .int k m :: ps) | none => none
  | .bool :: ts, i, .bool b :: xs => match resKp ts i xs with | some (o, ps) => some (o, .bool b :: ps) | none => none
  | .str :: ts, i, .str l :: xs => match resKp ts i xs with | some (o, ps) => some (o, .str l :: ps) | none => none
  | .list _ :: ts, i, .sl j :: xs => match resKp ts (i + 1) xs with | some (o, ps) => some (j = i ∧ o, .list [] :: ps) | none => none
  | _, _, _ => none
/-- The values now in the arguments that may be changed. -/
def resMs (A : Hp) : List (Md × PTy) → List SV → Option (Prop × List PV)
  | (.mt, t) :: ts, x :: xs => match resB A t x, resMs A ts xs with | some (o, p), some (o', ps) => some (o ∧ o', p :: ps) | _, _ => none
  | (.rd, _) :: ts, _ :: xs => resMs A ts xs
  | (.ow, _) :: ts, _ :: xs => resMs A ts xs
  | (.bx, .box l) :: ts, .ptr h 0 :: xs => (match lk A h with
    | some (.box true _ cs) => (match resLs A l cs, resMs A ts xs with | some (o, p), some (o', ps) => some ((o ∧ cs.length = l.length) ∧ o', .agg p :: ps) | _, _ => none)
    | _ => none)
  | (.bx, .abx T) :: ts, .ptr h 0 :: xs => (match lk A h with
    | some (.abx true T' es) => (match resMs A ts xs with | some (o', ps) => some (T' = T ∧ o', .list es :: ps) | none => none)
    | _ => none)
  | (.bs, .box l) :: ts, .ptr h 0 :: xs => (match lk A h with
    | some (.box true _ cs) => (match resKp l (h - nL l) cs, resMs A ts xs with | some (o, p), some (o', ps) => some ((o ∧ cs.length = l.length) ∧ o', .agg p :: ps) | _, _ => none)
    | _ => none)
  | [], [] => some (True, [])
  | _, _ => none

def retOk : List PTy → Prop
  | [] => True
  | .agg _ :: ts => retOk ts
  | .int _ :: ts => retOk ts
  | .bool :: ts => retOk ts
  | .str :: ts => retOk ts
  | .list _ :: ts => retOk ts
  | _ :: _ => False

def mtTy : List (Md × PTy) → Prop
  | [] => True
  | (.mt, .agg _) :: ts => mtTy ts
  | (.mt, .list _) :: ts => mtTy ts
  | (.mt, _) :: _ => False
  | _ :: ts => mtTy ts

/-- The slices of the changed arguments. -/
def bxCs (A : Hp) : SV → List SV
  | .ptr h _ => (match lk A h with | some (.box _ _ cs) => cs | _ => [])
  | _ => []
def mtSls (A : Hp) : List (Md × PTy) → List SV → List Nat
  | (.mt, _) :: ts, x :: xs => slsOf x.cells ++ mtSls A ts xs
  | (.bx, _) :: ts, x :: xs => slsOf (bxCs A x) ++ mtSls A ts xs
  | _ :: ts, _ :: xs => mtSls A ts xs
  | _, _ => []
/-- with the pointers -/
def mtHs (A : Hp) : List (Md × PTy) → List SV → List Nat
  | (.mt, _) :: ts, x :: xs => slsOf x.cells ++ mtHs A ts xs
  | (.bx, _) :: ts, .ptr h _ :: xs => h :: (slsOf (bxCs A (.ptr h 0)) ++ mtHs A ts xs)
  | (.bs, _) :: ts, .ptr h _ :: xs => h :: mtHs A ts xs
  | _ :: ts, _ :: xs => mtHs A ts xs
  | _, _ => []

/-- New memory is given back. -/
def finFr (s : FSpec) (xs xs0 : List SV) (ps : List PV) (A : Hp) : Prop :=
  match resBs A s.ret xs, resMs A s.args xs0 with
  | some (o, rs), some (o', qs) => o ∧ rs = s.res ps ∧ o' ∧ qs = s.out ps ∧ dpAll A (slsAll xs ++ mtSls A s.args xs0) = true
  | _, _ => False

/-- The state at the end gives what the contract says. -/
def finOf (E : Env) (outs : List ResultVar) (s : FSpec) (xs0 : List SV) (ps : List PV) (S : St) : Prop :=
  match lkAll E S outs with
  | none => False
  | some xs => retOk s.ret ∧
      (if s.fresh then mtTy s.args ∧ ndB (slsAll xs ++ mtHs (proms S.A (slsAll xs ++ mtSls S.A s.args xs0)) s.args xs0) = true ∧ finFr s xs xs0 ps (proms S.A (slsAll xs ++ mtSls S.A s.args xs0))
      else allRd s.args = true ∧ (match resBs S.A s.ret xs with | some (o, rs) => o ∧ rs = s.res ps | none => False))

section
variable {P : Program} {E : Env} {N : Nat} {w0 : World} {X F : List Nat} {S : St} {β : Nat → GV} {ϕ : Nat → List Nat} {a : Act} {w w' : World} {o : Oper} {R : RR} {A : Hp} {B : Nat}

theorem resB_own {T : PTy} {x : SV} {ob : Prop} {p : PV} (h : resB A T x = some (ob, p)) (hob : ob) (hp : Holds B X F A β ϕ w) (hk : SV.ok β x) (ho : dpAll A (slsOf x.cells) = true) (hT : retOk [T]) :
    RetV w T p (SV.val β x) ((slsOf x.cells).map ϕ).flatten := by
  have lists : ∀ {us : List PTy} {ys : List SV} {o : Prop} {rs : List PV}, resLs A us ys = some (o, rs) → o → SV.oks β ys → dpAll A (slsOf ys) = true → LoD w us rs (SV.vals β ys) (fsOf ϕ ys) := by
    intro us ys o rs q1 q2 q3 q4
    refine resLs_own q1 q2 q3 fun h hh o T es p hA => ?_
    obtain ⟨T', es', p', e⟩ := dpB_iff.1 (dpAll_iff.1 q4 h hh)
    rw [hA] at e; cases e
    exact hp.sat _ _ hA
  have leaf : ∀ (h' : resL A T x = some (ob, p)), (x.cells = [x]) → ∃ fs, LoD w [T] [p] [SV.val β x] fs ∧ ((slsOf x.cells).map ϕ).flatten = fs.flatten := by
    intro h' hc
    rw [hc] at ho ⊢
    exact ⟨_, lists (us := [T]) (ys := [x]) (o := ob ∧ True) (rs := [p]) (by simp [resLs, h']) ⟨hob, trivial⟩ ⟨hk, trivial⟩ ho, by rw [fsOf_flat]⟩
  cases T with
  | agg ts =>
    cases x with
    | agg xs =>
      simp only [resB] at h
      split at h
      · rename_i o ps hps
        simp only [Option.some.injEq, Prod.mk.injEq] at h
        obtain ⟨rfl, rfl⟩ := h
        exact ⟨ps, _, _, rfl, rfl, lists hps hob hk ho, by rw [fsOf_flat]; rfl⟩
      · cases h
    | _ => simp [resB, resL] at h
  | box ts => exact hT.elim
  | abx t => exact hT.elim
  | fn g ts => exact hT.elim
  | opq => exact hT.elim
  | int k => cases x <;> first | (simp [resB, resL] at h; done) | exact leaf (by simpa [resB] using h) rfl
  | bool => cases x <;> first | (simp [resB, resL] at h; done) | exact leaf (by simpa [resB] using h) rfl
  | str => cases x <;> first | (simp [resB, resL] at h; done) | exact leaf (by simpa [resB] using h) rfl
  | list T => cases x <;> first | (simp [resB, resL] at h; done) | exact leaf (by simpa [resB] using h) rfl

theorem retOk_cons {t : PTy} {ts : List PTy} (h : retOk (t :: ts)) : retOk [t] ∧ retOk ts := by
  cases t <;> first | exact ⟨trivial, h⟩ | exact h.elim

theorem dpAll_append {l l' : List Nat} : dpAll A (l ++ l') = true ↔ dpAll A l = true ∧ dpAll A l' = true := by
  simp only [dpAll_iff, List.mem_append]
  exact ⟨fun h => ⟨fun i hi => h i (.inl hi), fun i hi => h i (.inr hi)⟩, fun h i hi => hi.elim (h.1 i) (h.2 i)⟩

theorem resBs_own : ∀ {ts : List PTy} {xs : List SV} {ob : Prop} {ps : List PV}, resBs A ts xs = some (ob, ps) → ob → Holds B X F A β ϕ w → SV.oks β xs → dpAll A (slsAll xs) = true → retOk ts →
    RetVs w ts ps (SV.vals β xs) ((slsAll xs).map ϕ).flatten
  | [], [], ob, ps, h, hob, hp, hk, ho, hT => by cases h; exact .nil
  | [], x :: xs, ob, ps, h, hob, hp, hk, ho, hT => by cases h
  | t :: ts, [], ob, ps, h, hob, hp, hk, ho, hT => by cases h
  | t :: ts, x :: xs, ob, ps, h, hob, hp, hk, ho, hT => by
    simp only [resBs] at h
    split at h
    · rename_i o1 p o2 qs h1 h2
      cases h
      obtain ⟨hT1, hT2⟩ := retOk_cons hT
      simp only [slsAll, dpAll_append] at ho
      simp only [slsAll, List.map_append, List.flatten_append, SV.vals]
      exact .cons (resB_own h1 hob.1 hp hk.1 ho.1 hT1) (resBs_own h2 hob.2 hp hk.2 ho.2 hT2)
    · cases h

theorem RetV.arg {t : PTy} {p : PV} {v : Value} {f : List Nat} (h : RetV w t p v f) (ht : (∃ ts, t = .agg ts) ∨ ∃ T, t = .list T) : ArgM w t p v f := by
  rcases ht with ⟨ts, rfl⟩ | ⟨T, rfl⟩
  · exact h
  · obtain ⟨fs, hL, rfl⟩ := h
    cases hL with
    | list hO hr => cases hr; exact ⟨_, rfl, by simpa using hO⟩

theorem resKp_kp : ∀ {l : List PTy} {i : Nat} {cs : List SV} {o : Prop} {ps : List PV} {cs0 : List Value}, resKp l i cs = some (o, ps) → o → KpOld β l i cs0 → cs0.length = l.length → SV.oks β cs → KpS l ps cs0 (SV.vals β cs)
  | [], i, cs, o, ps, cs0, h, ho, hk, hl, hok => by
    cases cs with
    | nil => cases h; cases cs0 <;> first | exact .nil | (simp at hl)
    | cons c cs => cases h
  | t :: ts, i, cs, o, ps, [], h, ho, hk, hl, hok => by simp at hl
  | t :: ts, i, [], o, ps, c0 :: cs0, h, ho, hk, hl, hok => by cases t <;> cases h
  | t :: ts, i, c :: cs, o, ps, c0 :: cs0, h, ho, hk, hl, hok => by
    have hl' : cs0.length = ts.length := by simpa using hl
    cases t with
    | int k =>
      cases c <;> simp only [resKp, reduceCtorEq] at h
      split at h
      · rename_i o1 ps1 h1
        simp only [Option.some.injEq, Prod.mk.injEq] at h
        obtain ⟨rfl, rfl⟩ := h
        obtain ⟨rfl, ho⟩ := ho
        exact .int hok.1 (resKp_kp h1 ho hk hl' hok.2)
      · cases h
    | bool =>
      cases c <;> simp only [resKp, reduceCtorEq] at h
      split at h
      · rename_i o1 ps1 h1
        simp only [Option.some.injEq, Prod.mk.injEq] at h
        obtain ⟨rfl, rfl⟩ := h
        exact .bool (resKp_kp h1 ho hk hl' hok.2)
      · cases h
    | str =>
      cases c <;> simp only [resKp, reduceCtorEq] at h
      split at h
      · rename_i o1 ps1 h1
        simp only [Option.some.injEq, Prod.mk.injEq] at h
        obtain ⟨rfl, rfl⟩ := h
        exact .str hok.1 (resKp_kp h1 ho hk hl' hok.2)
      · cases h
    | list T =>
      cases c <;> simp only [resKp, reduceCtorEq] at h
      split at h
      · rename_i o1 ps1 h1
        simp only [Option.some.injEq, Prod.mk.injEq] at h
        obtain ⟨rfl, rfl⟩ := h
        obtain ⟨rfl, ho⟩ := ho
        obtain ⟨rfl, hk⟩ := hk
        exact .list (resKp_kp h1 ho hk hl' hok.2)
      · cases h
    | _ => cases h

theorem resMs_own {w' : World} : ∀ {ts : List (Md × PTy)} {xs : List SV} {ob : Prop} {ps : List PV}, resMs A ts xs = some (ob, ps) → ob → Holds B X F A β ϕ w → SV.oks β xs → (∀ i o t cs, lk A i = some (.box o t cs) → SV.oks β cs) → dpAll A (mtSls A ts xs) = true → mtTy ts → OldX w' β ts xs →
    OutV w' w ts ps (SV.vals β xs) ((mtHs A ts xs).map ϕ).flatten ∧ ∀ h ∈ mtHs A ts xs, Lent A ϕ h
  | [], [], ob, ps, h, hob, hp, hk, hbx, ho, hT, hX => by cases h; exact ⟨.nil, by simp [mtHs]⟩
  | [], x :: xs, ob, ps, h, hob, hp, hk, hbx, ho, hT, hX => by cases h
  | (m, t) :: ts, [], ob, ps, h, hob, hp, hk, hbx, ho, hT, hX => by cases m <;> (try cases h) <;> cases t <;> cases h
  | (m, t) :: ts, x :: xs, ob, ps, h, hob, hp, hk, hbx, ho, hT, hX => by
    cases m with
    | rd =>
      obtain ⟨r1, r2⟩ := resMs_own (ts := ts) (xs := xs) h hob hp hk.2 hbx ho (by cases t <;> exact hT) hX
      exact ⟨.rd r1, r2⟩
    | ow =>
      obtain ⟨r1, r2⟩ := resMs_own (ts := ts) (xs := xs) h hob hp hk.2 hbx ho (by cases t <;> exact hT) hX
      exact ⟨.ow r1, r2⟩
    | bx =>
      have hT2 : mtTy ts := by cases t <;> exact hT
      cases t with
      | box l =>
        cases x with
        | ptr i off =>
          cases off with
          | zero =>
            simp only [resMs] at h
            split at h
            case h_2 => cases h
            rename_i tt cs hA
            split at h
            case h_2 => cases h
            rename_i o1 p o2 qs h1 h2
            simp only [Option.some.injEq, Prod.mk.injEq] at h
            obtain ⟨rfl, rfl⟩ := h
            simp only [mtSls, bxCs, hA, dpAll_append] at ho
            obtain ⟨r1, r2⟩ := resMs_own h2 hob.2 hp hk.2 hbx ho.2 hT2 hX.2
            obtain ⟨b, t', hb, hϕ, hblk⟩ := hp.sat _ _ hA
            obtain ⟨b2, t2, cs0, hb2, hblk2, hl0⟩ := hX.1
            have : b2 = b := by
              rw [hb] at hb2; simp only [Value.pointer.injEq, Option.some.injEq, Addr.mk.injEq] at hb2; exact hb2.1.symm
            subst this
            have hLo : LoD w l p (SV.vals β cs) (fsOf ϕ cs) := resLs_own h1 hob.1.1 (hbx _ _ _ _ hA) fun h hh o T es p' hA' => by
              obtain ⟨T', es', p2, e⟩ := dpB_iff.1 (dpAll_iff.1 ho.1 h hh)
              rw [e] at hA'; cases hA'
              exact hp.sat _ _ e
            constructor
            · have hx : OutX w' w (.box l) (.agg p) (SV.val β (.ptr i 0)) (b2 :: (fsOf ϕ cs).flatten) :=
                ⟨p, cs0, SV.vals β cs, fsOf ϕ cs, b2, t2, t', (β i).pre, (β i).post, rfl, by simp [SV.val, hb], hblk2, hl0, hblk, hLo, rfl⟩
              have := OutV.bx hx r1
              simp only [mtHs, bxCs, hA, List.map_append, List.map_cons, List.flatten_append, List.flatten_cons, hϕ, ← fsOf_flat, List.cons_append, List.append_assoc, List.nil_append, SV.vals] at this ⊢
              exact this
            · intro h hh
              simp only [mtHs, bxCs, hA, List.mem_cons, List.mem_append] at hh
              rcases hh with rfl | hh | hh
              · exact ⟨_, hA, by simp, rfl, by rw [hϕ]; simp, rfl⟩
              · exact lent_dp hp (dpAll_iff.1 ho.1 h hh)
              · exact r2 h hh
          | succ n => simp [resMs] at h
        | _ => simp [resMs] at h
      | abx T =>
        cases x with
        | ptr i off =>
          cases off with
          | zero =>
            simp only [resMs] at h
            split at h
            case h_2 => cases h
            rename_i T' es hA
            split at h
            case h_2 => cases h
            rename_i o2 qs h2
            simp only [Option.some.injEq, Prod.mk.injEq] at h
            obtain ⟨rfl, rfl⟩ := h
            simp only [mtSls, bxCs, hA, slsOf, List.nil_append] at ho
            obtain ⟨r1, r2⟩ := resMs_own h2 hob.2 hp hk.2 hbx ho hT2 hX.2
            have := hob.1
            subst this
            obtain ⟨g1, g2, b, t', c, hv, hϕ, hblk, hL⟩ := hp.sat _ _ hA
            constructor
            · have hx : OutX w' w (.abx T') (.list es) (SV.val β (.ptr i 0)) [b] := ⟨es, b, t', c, rfl, by simp [SV.val, hv], hblk, g1, g2, hL, rfl⟩
              have := OutV.bx hx r1
              simp only [mtHs, bxCs, hA, slsOf, List.map_cons, List.flatten_cons, hϕ, List.nil_append, SV.vals] at this ⊢
              exact this
            · intro h hh
              simp only [mtHs, bxCs, hA, slsOf, List.nil_append, List.mem_cons] at hh
              rcases hh with rfl | hh
              · exact ⟨_, hA, by simp, rfl, by rw [hϕ]; simp, rfl⟩
              · exact r2 h hh
          | succ n => simp [resMs] at h
        | _ => simp [resMs] at h
      | _ => cases x <;> simp [resMs] at h
    | bs =>
      have hT2 : mtTy ts := by cases t <;> exact hT
      cases t with
      | box l =>
        cases x with
        | ptr i off =>
          cases off with
          | zero =>
            simp only [resMs] at h
            split at h
            case h_2 => cases h
            rename_i tt cs hA
            split at h
            case h_2 => cases h
            rename_i o1 p o2 qs h1 h2
            simp only [Option.some.injEq, Prod.mk.injEq] at h
            obtain ⟨rfl, rfl⟩ := h
            obtain ⟨r1, r2⟩ := resMs_own h2 hob.2 hp hk.2 hbx ho hT2 hX.2
            obtain ⟨b, t', hb, hϕ, hblk⟩ := hp.sat _ _ hA
            obtain ⟨b2, t2, cs0, hb2, hblk2, hl0, _, hkp⟩ := hX.1
            have : b2 = b := by
              rw [hb] at hb2; simp only [Value.pointer.injEq, Option.some.injEq, Addr.mk.injEq] at hb2; exact hb2.1.symm
            subst this
            have hKp := resKp_kp h1 hob.1.1 hkp hl0 (hbx _ _ _ _ hA)
            constructor
            · have hx : OutS w' w (.box l) (.agg p) (SV.val β (.ptr i 0)) b2 :=
                ⟨p, cs0, SV.vals β cs, t2, t', (β i).pre, (β i).post, rfl, by simp [SV.val, hb], hblk2, hl0, hblk, hKp⟩
              have := OutV.bs hx r1
              simp only [mtHs, List.map_cons, List.flatten_cons, hϕ, List.cons_append, List.nil_append, SV.vals] at this ⊢
              exact this
            · intro h hh
              simp only [mtHs, List.mem_cons] at hh
              rcases hh with rfl | hh
              · exact ⟨_, hA, by simp, rfl, by rw [hϕ]; simp, rfl⟩
              · exact r2 h hh
          | succ n => simp [resMs] at h
        | _ => simp [resMs] at h
      | _ => cases x <;> simp [resMs] at h
    | mt =>
      simp only [resMs] at h
      split at h
      · rename_i o1 p o2 qs h1 h2
        cases h
        simp only [mtSls, dpAll_append] at ho
        have ht : (∃ ts, t = .agg ts) ∨ ∃ T, t = .list T := by cases t <;> first | exact hT.elim | exact .inl ⟨_, rfl⟩ | exact .inr ⟨_, rfl⟩
        have hT1 : retOk [t] := by rcases ht with ⟨ts, rfl⟩ | ⟨T, rfl⟩ <;> trivial
        have hT2 : mtTy ts := by cases t <;> first | exact hT.elim | exact hT
        obtain ⟨r1, r2⟩ := resMs_own h2 hob.2 hp hk.2 hbx ho.2 hT2 hX
        constructor
        · simp only [mtHs, List.map_append, List.flatten_append, SV.vals]
          exact .mt ((resB_own h1 hob.1 hp hk.1 ho.1 hT1).arg ht) r1
        · intro h hh
          simp only [mtHs, List.mem_append] at hh
          rcases hh with hh | hh
          · exact lent_dp hp (dpAll_iff.1 ho.1 h hh)
          · exact r2 h hh
      · cases h

/-- Results that may share memory. -/
theorem resB_ret {T : PTy} {x : SV} {ob : Prop} {p : PV} (h : resB A T x = some (ob, p)) (hob : ob) (hp : Holds B X F A β ϕ w) (hk : SV.ok β x) (hT : retOk [T]) :
    ∃ f, RetN w T p (SV.val β x) f ∧ ∀ b ∈ f, b ∈ F ∨ B ≤ b := by
  have lists : ∀ {us : List PTy} {ys : List SV} {o : Prop} {rs : List PV}, resLs A us ys = some (o, rs) → o → SV.oks β ys → ∃ f, Lv w us rs (SV.vals β ys) f ∧ ∀ b ∈ f, b ∈ F ∨ B ≤ b := by
    intro us ys o rs q1 q2 q3
    obtain ⟨f, q4, q5⟩ := resLs_sound q1 q2 hp q3
    refine ⟨f, q4, fun b hb => ?_⟩
    obtain ⟨i, hi, hl, e1, e2, e3⟩ := q5 b hb
    obtain ⟨hl', e4, e5⟩ := resLs_isA q1 i hi
    rw [e1] at e4; cases e4
    exact hp.all i hl e1 e5.isA b e3
  have leaf : ∀ (h' : resL A T x = some (ob, p)), ∃ f, Lv w [T] [p] [SV.val β x] f ∧ ∀ b ∈ f, b ∈ F ∨ B ≤ b := fun h' =>
    lists (us := [T]) (ys := [x]) (o := ob ∧ True) (rs := [p]) (by simp [resLs, h']) ⟨hob, trivial⟩ ⟨hk, trivial⟩
  cases T with
  | agg ts =>
    cases x with
    | agg xs =>
      simp only [resB] at h
      split at h
      · rename_i o ps hps
        simp only [Option.some.injEq, Prod.mk.injEq] at h
        obtain ⟨rfl, rfl⟩ := h
        obtain ⟨f, q1, q2⟩ := lists hps hob hk
        exact ⟨f, ⟨ps, _, rfl, rfl, q1⟩, q2⟩
      · cases h
    | _ => simp [resB, resL] at h
  | box ts => exact hT.elim
  | abx t => exact hT.elim
  | fn g ts => exact hT.elim
  | opq => exact hT.elim
  | int k => cases x <;> first | (simp [resB, resL] at h; done) | exact leaf (by simpa [resB] using h)
  | bool => cases x <;> first | (simp [resB, resL] at h; done) | exact leaf (by simpa [resB] using h)
  | str => cases x <;> first | (simp [resB, resL] at h; done) | exact leaf (by simpa [resB] using h)
  | list T => cases x <;> first | (simp [resB, resL] at h; done) | exact leaf (by simpa [resB] using h)

theorem resBs_ret : ∀ {ts : List PTy} {xs : List SV} {ob : Prop} {ps : List PV}, resBs A ts xs = some (ob, ps) → ob → Holds B X F A β ϕ w → SV.oks β xs → retOk ts →
    ∃ f, RetNs w ts ps (SV.vals β xs) f ∧ ∀ b ∈ f, b ∈ F ∨ B ≤ b
  | [], [], ob, ps, h, hob, hp, hk, hT => by cases h; exact ⟨[], .nil, by simp⟩
  | [], x :: xs, ob, ps, h, hob, hp, hk, hT => by cases h
  | t :: ts, [], ob, ps, h, hob, hp, hk, hT => by cases h
  | t :: ts, x :: xs, ob, ps, h, hob, hp, hk, hT => by
    simp only [resBs] at h
    split at h
    · rename_i o1 p o2 qs h1 h2
      cases h
      obtain ⟨hT1, hT2⟩ := retOk_cons hT
      obtain ⟨f, q1, q2⟩ := resB_ret h1 hob.1 hp hk.1 hT1
      obtain ⟨g, q3, q4⟩ := resBs_ret h2 hob.2 hp hk.2 hT2
      exact ⟨f ++ g, .cons q1 q3, fun b hb => (List.mem_append.1 hb).elim (q2 b) (q4 b)⟩
    · cases h

theorem lkAll_run (hE : EnvTy P E) (sat : Sat N w0 X F S β ϕ a w) (g : ResultVar → Sem Value) (hg : ∀ t, g (.tmp t) = pure (a.tmps.getD t undef)) (hc : ∀ t ty, g (.cell t ty) = asAddr (a.tmps.getD t undef) >>= fun x => loadVar ty x) :
    ∀ {outs : List ResultVar} {xs : List SV}, lkAll E S outs = some xs → (outs.mapM g).run P w = .ok (SV.vals β xs) w ∧ SV.oks β xs ∧ SV.lts S.n xs ∧ xs.length = outs.length
  | [], xs, h => by cases h; exact ⟨rfl, trivial, trivial, rfl⟩
  | .tmp t :: ts, xs, h => by
    simp only [lkAll] at h
    split at h
    · rename_i x ys hx hy
      cases h
      obtain ⟨h1, h2, h3, h4⟩ := lkAll_run hE sat g hg hc hy
      obtain ⟨q1, q2, q3⟩ := sat.lp t x hx
      refine ⟨?_, ⟨q3, h2⟩, ⟨q2, h3⟩, by simp [h4]⟩
      simp only [List.mapM_cons, Sem.run_bind, Sem.run_pure, Result.andThen_ok, h1, hg, SV.vals, Array.getD_eq_getD_getElem?, q1, Option.getD_some]
    · cases h
  | .cell t ty :: ts, xs, h => by
    simp only [lkAll] at h
    split at h
    · rename_i i ys hx hy
      split at h
      · rename_i ow bt cs ti hl hti
        split at h
        · rename_i hcond
          cases h
          simp only [Bool.and_eq_true, beq_iff_eq] at hcond
          obtain ⟨hA, hlen⟩ := hcond
          obtain ⟨h1, h2, h3, h4⟩ := lkAll_run hE sat g hg hc hy
          obtain ⟨q1, q2, b, oo, hb⟩ := sat.lp t _ hx
          obtain ⟨b', bt', hb', hϕ, hold⟩ := sat.hp.sat _ _ hl
          rw [hb] at hb'
          simp only [Value.pointer.injEq, Option.some.injEq, Addr.mk.injEq, and_true] at hb'
          obtain ⟨rfl, rfl⟩ := hb'
          simp only [SV.val, hb, Nat.add_zero] at q1
          obtain ⟨k1, k2⟩ := (sat.hb _ _ hl).2
          have hag := run_isAgg (hE _ _ hti)
          have hsz := run_size (hE _ _ hti)
          have hcl : (SV.vals β cs).length = cs.length := by simp [SV.vals_map]
          have hlc := run_loadCells_row (P := P) b ((β i).pre.length + 0) ti.sz _ bt' (0, 0) hold (by simp [hcl, hlen])
          rw [List.toList_toArray, mid_take _ _ _ (by rw [hcl]; omega)] at hlc
          have hall : ((SV.vals β cs).drop 0).take ti.sz = SV.vals β cs := by
            rw [List.drop_zero, List.take_of_length_le (by simp [SV.vals_map, hlen])]
          simp only [hall, Nat.add_zero] at hlc
          refine ⟨?_, ⟨k2, h2⟩, ⟨k1, h3⟩, by simp [h4]⟩
          simp only [List.mapM_cons, Sem.run_bind, Sem.run_pure, Result.andThen_ok, h1, hc, SV.vals, SV.val, Array.getD_eq_getD_getElem?, q1, Option.getD_some, asAddr, loadVar, hag, hsz, hA, if_true, hlc]
        · cases h
      · cases h
    · cases h

theorem results_run {fn : Func} {outs : List ResultVar} (h : fn.results = outs.toArray) (tmps : Array Value) (w : World) (g : ResultVar → Sem Value) (hg : ∀ t, g (.tmp t) = pure (tmps.getD t undef)) (hc : ∀ t ty, g (.cell t ty) = asAddr (tmps.getD t undef) >>= fun x => loadVar ty x)
    {vs : List Value} (hv : (outs.mapM g).run P w = .ok vs w) (hlen : vs.length = outs.length) : (results fn tmps).run P w = .ok (packR vs) w := by
  have hgg : ∀ g' : ResultVar → Sem Value, (∀ t, g' (.tmp t) = pure (tmps.getD t undef)) → (∀ t ty, g' (.cell t ty) = asAddr (tmps.getD t undef) >>= fun x => loadVar ty x) → outs.mapM g' = outs.mapM g := by
    intro g' h1 h2
    have : g' = g := by
      funext r
      cases r with
      | tmp t => rw [h1, hg]
      | cell a t => rw [h2, hc]
    rw [this]
  unfold results
  rw [h, List.mapM_toArray]
  simp only [Sem.run_bind, Sem.run_map, Result.andThen_ok]
  rw [hgg _ (fun _ => rfl) (fun _ _ => rfl), hv]
  simp only [Result.andThen_ok, Sem.run_pure]
  match vs with
  | [] => rfl
  | [x] => rfl
  | x :: y :: l => simp [packR]

theorem lk_numb : ∀ {xs : List SV} {i t : Nat} {v : SV}, lk (numb i xs) t = some v → i ≤ t ∧ xs[t - i]? = some v
  | [], i, t, v, h => by cases h
  | x :: xs, i, t, v, h => by
    simp only [numb, lk] at h
    split at h
    · rename_i e; subst e; cases h; simp
    · rename_i e
      obtain ⟨h1, h2⟩ := lk_numb h
      refine ⟨by omega, ?_⟩
      rw [show t - i = (t - (i + 1)) + 1 by omega]
      simpa using h2

theorem ArgsV.lens {ts : List (Md × PTy)} {ps : List PV} {vs : List Value} {f fl ms : List Nat} (h : ArgsV w ts ps vs f fl ms) : ts.length = vs.length := by
  induction h with
  | nil => rfl
  | rd _ _ ih => simp [ih]
  | mt _ _ ih => simp [ih]
  | ow _ _ ih => simp [ih]
  | bx _ _ ih => simp [ih]
  | bs _ _ ih => simp [ih]

theorem ArgsV.rdms {ts : List (Md × PTy)} {ps : List PV} {vs : List Value} {f fl ms : List Nat} (h : ArgsV w ts ps vs f fl ms) (hr : allRd ts = true) : ms = [] := by
  induction h with
  | nil => rfl
  | rd _ _ ih => exact ih hr
  | mt _ _ _ => simp [allRd] at hr
  | ow _ _ _ => simp [allRd] at hr
  | bx _ _ _ => simp [allRd] at hr
  | bs _ _ _ => simp [allRd] at hr

/-- A function keeps its contract if its code's conditions hold. -/
theorem meets_of_vc {fid : FuncId} {fn : Func} {c : Code} {s : FSpec} {keep : List Nat} {outs : List ResultVar} (G : (List KI → St → Prop) → Prop) (hG : ∀ C : Cx, C.Ok → C.P = P → C.N = fn.ntmps → C.keep = keep → G (WP C)) (hE : EnvOk P E) (hm : P.follows .mixedOrders = true) (hf : P.funcs[fid]? = some fn) (hb : fn.body = some c)
    (hr : fn.results = outs.toArray) (hp : s.args.length ≤ fn.ntmps) (hkeep : ∀ i, i < s.args.length → keep.contains i = true)
    (h : ∀ ps, TyA s.args ps → s.pre ps → ∀ W, Rules E fn.ntmps keep (introTs 0 s.args ps).2.2 (finOf E outs s (introTs 0 s.args ps).1 ps) W → G W →
      W [.code c] ⟨numb 0 (introTs 0 s.args ps).1, [], (introTs 0 s.args ps).2.1, (introTs 0 s.args ps).2.2⟩) : Meets P fid s := by
  intro w ps vs fs fl ms hA hnd hdis hpre hgl
  have h0 : Holds w.heap.size ms (fl ++ ms) [] (fun _ => ⟨Value.bool false, [], []⟩) (fun _ => []) w :=
    ⟨fun _ => rfl, fun _ _ h => (by cases h), fun _ _ h => (by cases h), fun _ _ h => (by cases h), fun _ _ h => (by cases h), fun _ _ _ _ h => (by cases h), fun _ _ h => (by cases h), fun _ _ h => (by cases h)⟩
  obtain ⟨β, ϕ, ⟨e1, e2, e3, e4, e5, e6, e7, e8, e9⟩, hold⟩ := introTs_sound s.args ps vs fs fl ms 0 [] _ _ hA h0 (fun i hl h => (by cases h)) rfl (fun b hb hm => hdis b hm hb) (fun b hb => by simp [hb]) (fun b hb => ⟨hb, by simp [hb]⟩) hnd (fun i hl h => (by cases h))
  have hlen := hA.lens
  have hlen2 : (introTs 0 s.args ps).1.length = vs.length := by rw [← e5, SV.vals_map]; simp
  let fin := finOf E outs s (introTs 0 s.args ps).1 ps
  let Rr : Ending → World → Prop := fun e w' => ∃ rvs, e = .returned (packR rvs) ∧ Done w s ps vs fl ms rvs w'
  let C : Cx := ⟨P, E, fn.ntmps, w, ms, fl ++ ms, keep, (introTs 0 s.args ps).2.2, β, bodyPost P fn Rr, fin⟩
  have hfin : ∀ S a w', At C S a w' → fin S → a.defers = [] ∧ ∃ v, (results fn a.tmps).run P w' = .ok v w' ∧ Rr (.returned v) w' := by
    intro S a w' hat hS
    obtain ⟨kp, hn, β1, ϕ1, sat, hsame⟩ := hat
    unfold fin finOf at hS
    split at hS
    · exact hS.elim
    · rename_i xs hxs
      obtain ⟨hret, hS⟩ := hS
      let g : ResultVar → Sem Value := fun r => match r with | .tmp t => pure (a.tmps.getD t undef) | .cell t ty => asAddr (a.tmps.getD t undef) >>= fun x => loadVar ty x
      obtain ⟨v1, v2, v3, v4⟩ := lkAll_run hE.ty sat g (fun _ => rfl) (fun _ _ => rfl) hxs
      refine ⟨sat.df, _, results_run hr a.tmps w' g (fun _ => rfl) (fun _ _ => rfl) v1 (by simp [SV.vals_map, v4]), _, rfl, sat.fr, ?_⟩
      have hsame1 : SV.vals β1 (introTs 0 s.args ps).1 = vs := by
        rw [SV.vals_congr (fun k hk => hsame k hk) _ e6]; exact e5
      have hok1 : SV.oks β1 (introTs 0 s.args ps).1 := SV.oks_congr (fun k hk => hsame k hk) _ e6 e7
      cases hfs : s.fresh with
      | true =>
        rw [hfs] at hS
        simp only [if_true] at hS
        obtain ⟨f0, f1, f2⟩ := hS
        obtain ⟨ϕ2, p1, p2, _⟩ := proms_sound (slsAll xs ++ mtSls S.A s.args (introTs 0 s.args ps).1) sat.hp sat.hb
        unfold finFr at f2
        split at f2
        · rename_i o rs o' qs hrs hqs
          obtain ⟨g1, g2, g3, g4, g5⟩ := f2
          obtain ⟨g6, g7⟩ := dpAll_append.1 g5
          have hR := resBs_own hrs g1 p1 v2 g6 hret
          obtain ⟨hO, hLt⟩ := resMs_own (w' := w) hqs g3 p1 hok1 (fun i o t cs hi => (p2 _ _ hi).2.2) g7 f0 (hold.congr hsame e6)
          rw [hsame1, g4] at hO
          rw [g2] at hR
          have hLents : ∀ h ∈ slsAll xs ++ mtHs (proms S.A (slsAll xs ++ mtSls S.A s.args (introTs 0 s.args ps).1)) s.args (introTs 0 s.args ps).1, Lent (proms S.A (slsAll xs ++ mtSls S.A s.args (introTs 0 s.args ps).1)) ϕ2 h := by
            intro h hh
            rcases List.mem_append.1 hh with hh | hh
            · exact lent_dp p1 (dpAll_iff.1 g6 h hh)
            · exact hLt h hh
          refine .inl ⟨rfl, _, _, hR, hO, ?_, ?_⟩
          · rw [← List.flatten_append, ← List.map_append]
            exact lents_nodup p1 hLents (ndB_iff.1 f1)
          · rw [← List.flatten_append, ← List.map_append]
            intro b hb
            obtain ⟨i, hi, hl, e1, e2⟩ := lents_own hLents b hb
            exact p1.own i _ e1 b e2
        · exact f2.elim
      | false =>
        rw [hfs] at hS
        simp only [Bool.false_eq_true, if_false] at hS
        obtain ⟨f1, f2⟩ := hS
        split at f2
        · rename_i o rs hrs
          obtain ⟨g1, g2⟩ := f2
          obtain ⟨f, q1, q2⟩ := resBs_ret hrs g1 sat.hp v2 hret
          rw [g2] at q1
          have hms := hA.rdms f1
          refine .inr ⟨rfl, f1, f, q1, fun b hb => ?_⟩
          have := q2 b hb
          have hF : C.F = fl ++ ms := rfl
          rw [hF, hms, List.append_nil] at this
          exact this
        · exact f2.elim
  have hC : C.Ok := ⟨hE, hm, fun S a w' hat hS => ⟨hfin S a w' hat hS, hfin S a w' hat hS⟩, fun c a d v w h => ⟨by have h1 := h.1; cases d <;> exact h1, h.2⟩⟩
  refine calls_of_wp hf hb ?_
  have hW := h ps hA.ty hpre (WP C) (rules_wp hC) (hG C hC rfl rfl rfl)
  refine hW _ w ⟨⟨?_, fun t x h => (by cases h)⟩, Nat.le_refl _, β, ϕ, ⟨rfl, ?_, ?_, fun t g v h => (by cases h), by simpa using e1, (by simpa using e2 : Bd _ _ _), Fr.refl _ _, hgl⟩, fun h _ => rfl⟩
  · intro t v ht
    obtain ⟨h1, h2⟩ := lk_numb ht
    obtain ⟨h3, _⟩ := List.getElem?_eq_some_iff.1 h2
    exact hkeep t (by simp only [Nat.sub_zero] at h3; omega)
  · show (vs.toArray ++ Array.replicate (fn.ntmps - vs.toArray.size) undef).size = fn.ntmps
    simp; omega
  · intro t v ht
    obtain ⟨_, h2⟩ := lk_numb ht
    simp only [Nat.sub_zero] at h2
    have hm1 := List.mem_of_getElem? h2
    refine ⟨?_, SV.lts_iff.1 e6 v hm1, SV.oks_iff.1 e7 v hm1⟩
    obtain ⟨h3, _⟩ := List.getElem?_eq_some_iff.1 h2
    show (vs.toArray ++ Array.replicate (fn.ntmps - vs.toArray.size) undef)[t]? = _
    rw [Array.getElem?_append_left (by simp; omega)]
    rw [← e5, SV.vals_map]
    simp [h2]

end
def fldsOf : TypeDesc → List (Nat × Nat)
  | .struct fs => fs.toList.map fun f => (f.offset, f.type)
  | _ => []

def aggOf : TypeDesc → Bool
  | .struct _ => true
  | .array _ _ => true
  | _ => false

def lfB : PTy → Bool
  | .agg _ => false
  | .fn _ _ => false
  | _ => true

theorem tiok_mk {P : Program} {t : TypeId} {ti : TI} {i : TypeInfo} {z : Value} (h1 : P.underlying t = some ti.d) (h2 : P.info? t = some i) (h3 : i.size = ti.sz) (h4 : i.bytes = ti.bytes) (h5 : i.zero = some z)
    (h6 : z.cells = (ti.leaves.map zeroV).toArray) (h7 : ti.agg = aggOf ti.d) (h8 : ti.flds = fldsOf ti.d) (h9 : (ti.flds.all fun f => (P.info? f.2).isSome) = true) (h10 : 0 < ti.sz) (h11 : 0 < ti.bytes) (h12 : ti.agg = false → ti.sz = 1)
    (h13 : ti.leaves.all lfB = true) (h14 : ti.eqb = true → P.stoodInHeld t = false ∧ P.eqGuardType P.depth t = false) : TIok P t ti := by
  refine ⟨h1, ⟨i, h2, h3, h4, z, h5, h6⟩, ?_, ?_, ?_, h10, h11, h12, fun t ht => ?_, fun t ht f l e => ?_, h14⟩
  · rw [h7]; cases ti.d <;> rfl
  · intro f off ft hf
    rw [h8] at hf
    cases hd : ti.d <;> rw [hd] at hf <;> simp only [fldsOf, List.getElem?_nil, reduceCtorEq] at hf
    rename_i fs
    simp only [List.getElem?_map, Option.map_eq_some_iff, Array.getElem?_toList, Prod.mk.injEq] at hf
    obtain ⟨fd, h, h1, h2⟩ := hf
    exact ⟨fs, fd, rfl, h, h1, h2⟩
  · intro fs hd f hf
    rw [h8, hd] at h9
    have := List.all_eq_true.1 h9 (f.offset, f.type) (by simp only [fldsOf, List.mem_map]; exact ⟨f, by simpa using hf, rfl⟩)
    exact Option.isSome_iff_exists.1 this
  · have := List.all_eq_true.1 h13 t ht
    cases t <;> first | rfl | (simp [lfB] at this)
  · have := List.all_eq_true.1 h13 t ht
    subst e
    simp [lfB] at this

/-- A function that may be called by its contract. -/
def FnOk (P : Program) (f : FuncId) (s : FSpec) : Prop := Meets P f s ∧ ∃ fn, P.funcs[f]? = some fn ∧ fn.body.isNone = false ∧ (fn.name == "runtime.NumGoroutine") = false

theorem env_nil {P : Program} {tab : List (Nat × TI)} (h : EnvTy P ⟨tab, []⟩) : EnvOk P ⟨tab, []⟩ := ⟨h, fun f cs s h => (by cases h)⟩

theorem env_cons {P : Program} {tab : List (Nat × TI)} {l : List ((Nat × List Nat) × FSpec)} {f : Nat} {cs : List Nat} {s : FSpec} (hf : FnOk P f s) (h : EnvOk P ⟨tab, l⟩) : EnvOk P ⟨tab, ((f, cs), s) :: l⟩ := by
  refine ⟨h.ty, fun g ds t hg => ?_⟩
  simp only [findFn] at hg
  split at hg
  · rename_i e
    cases hg
    obtain ⟨rfl, _⟩ := e
    exact hf
  · exact h.fn g ds t hg

theorem fn_mkG {P : Program} {E : Env} {fid : FuncId} {fn : Func} {c : Code} {s : FSpec} (keep : List Nat) (outs : List ResultVar) (G : (List KI → St → Prop) → Prop) (hG : ∀ C : Cx, C.Ok → C.P = P → C.N = fn.ntmps → C.keep = keep → G (WP C)) (hE : EnvOk P E) (hm : P.follows .mixedOrders = true) (hf : P.funcs[fid]? = some fn) (hb : fn.body = some c)
    (hn : (fn.name == "runtime.NumGoroutine") = false) (hr : fn.results = outs.toArray) (hp : s.args.length ≤ fn.ntmps) (hkeep : (List.range s.args.length).all (keep.contains ·) = true)
    (h : ∀ ps, TyA s.args ps → s.pre ps → ∀ W, Rules E fn.ntmps keep (introTs 0 s.args ps).2.2 (finOf E outs s (introTs 0 s.args ps).1 ps) W → G W →
      W [.code c] ⟨numb 0 (introTs 0 s.args ps).1, [], (introTs 0 s.args ps).2.1, (introTs 0 s.args ps).2.2⟩) : FnOk P fid s :=
  ⟨meets_of_vc G hG hE hm hf hb hr hp (fun i hi => List.all_eq_true.1 hkeep i (by simpa using hi)) h, fn, hf, by rw [hb]; rfl, hn⟩

theorem fn_mk {P : Program} {E : Env} {fid : FuncId} {fn : Func} {c : Code} {s : FSpec} (keep : List Nat) (outs : List ResultVar) (hE : EnvOk P E) (hm : P.follows .mixedOrders = true) (hf : P.funcs[fid]? = some fn) (hb : fn.body = some c)
    (hn : (fn.name == "runtime.NumGoroutine") = false) (hr : fn.results = outs.toArray) (hp : s.args.length ≤ fn.ntmps) (hkeep : (List.range s.args.length).all (keep.contains ·) = true)
    (h : ∀ ps, TyA s.args ps → s.pre ps → ∀ W, Rules E fn.ntmps keep (introTs 0 s.args ps).2.2 (finOf E outs s (introTs 0 s.args ps).1 ps) W →
      W [.code c] ⟨numb 0 (introTs 0 s.args ps).1, [], (introTs 0 s.args ps).2.1, (introTs 0 s.args ps).2.2⟩) : FnOk P fid s :=
  fn_mkG keep outs (fun _ => True) (fun _ _ _ _ _ => trivial) hE hm hf hb hn hr hp hkeep fun ps h1 h2 W hW _ => h ps h1 h2 W hW

end Go.Proofs.YtolgjekokdimoaaGreatDoor
end

section
namespace Go.Proofs.YtolgjekokdimoaaGreatDoor
variable [LaidG]

def nth (es : List PV) (i : Nat) : PV := es.getD i PV.d
theorem nth_fold (es : List PV) (i : Nat) : es.getD i PV.d = nth es i := rfl
theorem nth_zero (a : PV) (l : List PV) : nth (a :: l) 0 = a := rfl
theorem nth_succ (a : PV) (l : List PV) (n : Nat) : nth (a :: l) (n + 1) = nth l n := rfl
theorem pv_I (k : IntKind) (n : Int) : (PV.int k n).I = n := rfl
theorem pv_B (n : Bool) : (PV.bool n).B = n := rfl
theorem pv_S (n : List UInt8) : (PV.str n).S = n := rfl
theorem pv_L (n : List PV) : (PV.list n).L = n := rfl
theorem pv_A (n : List PV) : (PV.agg n).A = n := rfl
theorem pv_at (p : PV) (i : Nat) : p.at i = nth p.A i := rfl
theorem lv_int (k : IntKind) (n : Int) : (PV.int k n).leaves = [.int k n] := rfl
theorem lv_bool (n : Bool) : (PV.bool n).leaves = [.bool n] := rfl
theorem lv_str (n : List UInt8) : (PV.str n).leaves = [.str n] := rfl
theorem lv_list (n : List PV) : (PV.list n).leaves = [.list n] := rfl
theorem lv_agg (n : List PV) : (PV.agg n).leaves = n := rfl

theorem nth_eq {es : List PV} {i : Nat} (h : i < es.length) : nth es i = es[i] := by simp [nth, h]
theorem nth_mem {es : List PV} {i : Nat} (h : i < es.length) : nth es i ∈ es := by rw [nth_eq h]; exact List.getElem_mem h
theorem drop_nth {es : List PV} {i : Nat} (h : i < es.length) : es.drop i = nth es i :: es.drop (i + 1) := by
  rw [nth_eq h]; exact (List.drop_eq_getElem_cons h)
theorem take_nth {es : List PV} {i : Nat} (h : i < es.length) : es.take (i + 1) = es.take i ++ [nth es i] := by
  rw [nth_eq h]; exact List.take_succ_eq_append_getElem h
theorem nth_map {α : Type} (f : α → PV) (l : List α) (i : Nat) (h : i < l.length) : nth (l.map f) i = f l[i] := by simp [nth, h]

theorem wrap64 {n : Int} (h : -9223372036854775808 ≤ n ∧ n ≤ 9223372036854775807) : IntKind.i64.wrap n = n := by
  simp [IntKind.wrap, IntKind.signed, IntKind.bits]; omega

theorem wrapU64 {n : Int} (h : 0 ≤ n ∧ n ≤ 9223372036854775807) : IntKind.u64.wrap n = n := by
  simp [IntKind.wrap, IntKind.signed, IntKind.bits]; omega
theorem inR64 {n : Int} : inR .i64 n ↔ -9223372036854775808 ≤ n ∧ n ≤ 9223372036854775807 := by
  simp [inR, IntKind.min, IntKind.max, IntKind.signed, IntKind.bits]
theorem limN : LIM = 140737488355328 := rfl

end Go.Proofs.YtolgjekokdimoaaGreatDoor
end

section
namespace Go.Proofs.YtolgjekokdimoaaGreatDoor
variable [LaidG]
set_option maxRecDepth 100000

/-- int64 -/
noncomputable def T2 : TI := ⟨false, [.int .i64], 0, [], 8, .int .i64, false⟩
theorem T2_ok : TIok Tryz.prog 2 T2 := tiok_mk (i := Tryz.t2) Tryz.underlying2 Tryz.type2 rfl rfl rfl rfl rfl rfl (by kernel_rfl) (by decide) (by decide) (by decide) rfl (fun h => by cases h)
theorem T2_sz : T2.sz = 1 := rfl
theorem T2_pty : T2.pty = .int .i64 := rfl
/-- int -/
noncomputable def T3 : TI := ⟨false, [.int .i64], 0, [], 8, .int .i64, false⟩
theorem T3_ok : TIok Tryz.prog 3 T3 := tiok_mk (i := Tryz.t3) Tryz.underlying3 Tryz.type3 rfl rfl rfl rfl rfl rfl (by kernel_rfl) (by decide) (by decide) (by decide) rfl (fun h => by cases h)
theorem T3_sz : T3.sz = 1 := rfl
theorem T3_pty : T3.pty = .int .i64 := rfl
/-- bool -/
noncomputable def T4 : TI := ⟨false, [.bool], 0, [], 1, .bool, false⟩
theorem T4_ok : TIok Tryz.prog 4 T4 := tiok_mk (i := Tryz.t4) Tryz.underlying4 Tryz.type4 rfl rfl rfl rfl rfl rfl (by kernel_rfl) (by decide) (by decide) (by decide) rfl (fun h => by cases h)
theorem T4_sz : T4.sz = 1 := rfl
theorem T4_pty : T4.pty = .bool := rfl
/-- uint8 -/
noncomputable def T5 : TI := ⟨false, [.int .u8], 0, [], 1, .int .u8, false⟩
theorem T5_ok : TIok Tryz.prog 5 T5 := tiok_mk (i := Tryz.t5) Tryz.underlying5 Tryz.type5 rfl rfl rfl rfl rfl rfl (by kernel_rfl) (by decide) (by decide) (by decide) rfl (fun h => by cases h)
theorem T5_sz : T5.sz = 1 := rfl
theorem T5_pty : T5.pty = .int .u8 := rfl
/-- abi.BoundsErrorCode -/
noncomputable def T6 : TI := ⟨false, [.int .u8], 0, [], 1, .int .u8, false⟩
theorem T6_ok : TIok Tryz.prog 6 T6 := tiok_mk (i := Tryz.t6) Tryz.underlying6 Tryz.type6 rfl rfl rfl rfl rfl rfl (by kernel_rfl) (by decide) (by decide) (by decide) rfl (fun h => by cases h)
theorem T6_sz : T6.sz = 1 := rfl
theorem T6_pty : T6.pty = .int .u8 := rfl
/-- a struct -/
noncomputable def T7 : TI := ⟨true, [.int .i64, .int .i64, .bool, .int .u8], 0, [(0, 2), (1, 3), (2, 4), (3, 6)], 24, .struct (match Tryz.t7.desc with | .struct fs => fs | _ => #[]), true⟩
theorem T7_ok : TIok Tryz.prog 7 T7 := tiok_mk (i := Tryz.t7) Tryz.underlying7 Tryz.type7 rfl rfl rfl rfl rfl rfl (by kernel_rfl) (by decide) (by decide) (by decide) rfl (fun _ => ⟨Tryz.stoodInHeld7, Tryz.eqGuardType7⟩)
theorem T7_sz : T7.sz = 4 := rfl
theorem T7_pty : T7.pty = .agg [.int .i64, .int .i64, .bool, .int .u8] := rfl
/-- runtime.boundsError -/
noncomputable def T8 : TI := ⟨true, [.int .i64, .int .i64, .bool, .int .u8], 0, [(0, 2), (1, 3), (2, 4), (3, 6)], 24, .struct (match Tryz.t7.desc with | .struct fs => fs | _ => #[]), true⟩
theorem T8_ok : TIok Tryz.prog 8 T8 := tiok_mk (i := Tryz.t8) Tryz.underlying8 Tryz.type8 rfl rfl rfl rfl rfl rfl (by kernel_rfl) (by decide) (by decide) (by decide) rfl (fun _ => ⟨Tryz.stoodInHeld8, Tryz.eqGuardType8⟩)
theorem T8_sz : T8.sz = 4 := rfl
theorem T8_pty : T8.pty = .agg [.int .i64, .int .i64, .bool, .int .u8] := rfl
/-- string -/
noncomputable def T9 : TI := ⟨false, [.str], 0, [], 16, .string, false⟩
theorem T9_ok : TIok Tryz.prog 9 T9 := tiok_mk (i := Tryz.t9) Tryz.underlying9 Tryz.type9 rfl rfl rfl rfl rfl rfl (by kernel_rfl) (by decide) (by decide) (by decide) rfl (fun h => by cases h)
theorem T9_sz : T9.sz = 1 := rfl
theorem T9_pty : T9.pty = .str := rfl
/-- runtime.errorString -/
noncomputable def T10 : TI := ⟨false, [.str], 0, [], 16, .string, false⟩
theorem T10_ok : TIok Tryz.prog 10 T10 := tiok_mk (i := Tryz.t10) Tryz.underlying10 Tryz.type10 rfl rfl rfl rfl rfl rfl (by kernel_rfl) (by decide) (by decide) (by decide) rfl (fun h => by cases h)
theorem T10_sz : T10.sz = 1 := rfl
theorem T10_pty : T10.pty = .str := rfl
/-- runtime.plainError -/
noncomputable def T11 : TI := ⟨false, [.str], 0, [], 16, .string, false⟩
theorem T11_ok : TIok Tryz.prog 11 T11 := tiok_mk (i := Tryz.t11) Tryz.underlying11 Tryz.type11 rfl rfl rfl rfl rfl rfl (by kernel_rfl) (by decide) (by decide) (by decide) rfl (fun h => by cases h)
theorem T11_sz : T11.sz = 1 := rfl
theorem T11_pty : T11.pty = .str := rfl
/-- uintptr -/
noncomputable def T12 : TI := ⟨false, [.int .u64], 0, [], 8, .int .u64, false⟩
theorem T12_ok : TIok Tryz.prog 12 T12 := tiok_mk (i := Tryz.t12) Tryz.underlying12 Tryz.type12 rfl rfl rfl rfl rfl rfl (by kernel_rfl) (by decide) (by decide) (by decide) rfl (fun h => by cases h)
theorem T12_sz : T12.sz = 1 := rfl
theorem T12_pty : T12.pty = .int .u64 := rfl
/-- a struct -/
noncomputable def T13 : TI := ⟨true, [.str, .int .u64], 0, [(0, 9), (1, 12)], 24, .struct (match Tryz.t13.desc with | .struct fs => fs | _ => #[]), false⟩
theorem T13_ok : TIok Tryz.prog 13 T13 := tiok_mk (i := Tryz.t13) Tryz.underlying13 Tryz.type13 rfl rfl rfl rfl rfl rfl (by kernel_rfl) (by decide) (by decide) (by decide) rfl (fun h => by cases h)
theorem T13_sz : T13.sz = 2 := rfl
theorem T13_pty : T13.pty = .agg [.str, .int .u64] := rfl
/-- runtime.errorAddressString -/
noncomputable def T14 : TI := ⟨true, [.str, .int .u64], 0, [(0, 9), (1, 12)], 24, .struct (match Tryz.t13.desc with | .struct fs => fs | _ => #[]), false⟩
theorem T14_ok : TIok Tryz.prog 14 T14 := tiok_mk (i := Tryz.t14) Tryz.underlying14 Tryz.type14 rfl rfl rfl rfl rfl rfl (by kernel_rfl) (by decide) (by decide) (by decide) rfl (fun h => by cases h)
theorem T14_sz : T14.sz = 2 := rfl
theorem T14_pty : T14.pty = .agg [.str, .int .u64] := rfl
/-- *runtime.TypeAssertionError -/
noncomputable def T15 : TI := ⟨false, [.opq], 0, [], 8, .pointer 241, false⟩
theorem T15_ok : TIok Tryz.prog 15 T15 := tiok_mk (i := Tryz.t15) Tryz.underlying15 Tryz.type15 rfl rfl rfl rfl rfl rfl (by kernel_rfl) (by decide) (by decide) (by decide) rfl (fun h => by cases h)
theorem T15_sz : T15.sz = 1 := rfl
theorem T15_pty : T15.pty = .opq := rfl
/-- *runtime.PanicNilError -/
noncomputable def T16 : TI := ⟨false, [.opq], 0, [], 8, .pointer 244, false⟩
theorem T16_ok : TIok Tryz.prog 16 T16 := tiok_mk (i := Tryz.t16) Tryz.underlying16 Tryz.type16 rfl rfl rfl rfl rfl rfl (by kernel_rfl) (by decide) (by decide) (by decide) rfl (fun h => by cases h)
theorem T16_sz : T16.sz = 1 := rfl
theorem T16_pty : T16.pty = .opq := rfl
/-- *abi.Type -/
noncomputable def T17 : TI := ⟨false, [.opq], 0, [], 8, .pointer 251, false⟩
theorem T17_ok : TIok Tryz.prog 17 T17 := tiok_mk (i := Tryz.t17) Tryz.underlying17 Tryz.type17 rfl rfl rfl rfl rfl rfl (by kernel_rfl) (by decide) (by decide) (by decide) rfl (fun h => by cases h)
theorem T17_sz : T17.sz = 1 := rfl
theorem T17_pty : T17.pty = .opq := rfl
/-- a struct -/
noncomputable def T18 : TI := ⟨true, [.opq], 0, [(0, 17)], 8, .struct (match Tryz.t18.desc with | .struct fs => fs | _ => #[]), false⟩
theorem T18_ok : TIok Tryz.prog 18 T18 := tiok_mk (i := Tryz.t18) Tryz.underlying18 Tryz.type18 rfl rfl rfl rfl rfl rfl (by kernel_rfl) (by decide) (by decide) (by decide) rfl (fun h => by cases h)
theorem T18_sz : T18.sz = 1 := rfl
theorem T18_pty : T18.pty = .agg [.opq] := rfl
/-- maps.unhashableTypeError -/
noncomputable def T19 : TI := ⟨true, [.opq], 0, [(0, 17)], 8, .struct (match Tryz.t18.desc with | .struct fs => fs | _ => #[]), false⟩
theorem T19_ok : TIok Tryz.prog 19 T19 := tiok_mk (i := Tryz.t19) Tryz.underlying19 Tryz.type19 rfl rfl rfl rfl rfl rfl (by kernel_rfl) (by decide) (by decide) (by decide) rfl (fun h => by cases h)
theorem T19_sz : T19.sz = 1 := rfl
theorem T19_pty : T19.pty = .agg [.opq] := rfl
/-- int32 -/
noncomputable def T21 : TI := ⟨false, [.int .i32], 0, [], 4, .int .i32, false⟩
theorem T21_ok : TIok Tryz.prog 21 T21 := tiok_mk (i := Tryz.t21) Tryz.underlying21 Tryz.type21 rfl rfl rfl rfl rfl rfl (by kernel_rfl) (by decide) (by decide) (by decide) rfl (fun h => by cases h)
theorem T21_sz : T21.sz = 1 := rfl
theorem T21_pty : T21.pty = .int .i32 := rfl
/-- []string -/
noncomputable def T22 : TI := ⟨false, [.list (.str)], 9, [], 24, .slice 9, false⟩
theorem T22_ok : TIok Tryz.prog 22 T22 := tiok_mk (i := Tryz.t22) Tryz.underlying22 Tryz.type22 rfl rfl rfl rfl rfl rfl (by kernel_rfl) (by decide) (by decide) (by decide) rfl (fun h => by cases h)
theorem T22_sz : T22.sz = 1 := rfl
theorem T22_pty : T22.pty = .list (.str) := rfl
/-- a struct -/
noncomputable def T23 : TI := ⟨true, [.int .i64, .int .i64, .int .i64, .list (.str)], 0, [(0, 3), (1, 3), (2, 3), (3, 22)], 48, .struct (match Tryz.t23.desc with | .struct fs => fs | _ => #[]), false⟩
theorem T23_ok : TIok Tryz.prog 23 T23 := tiok_mk (i := Tryz.t23) Tryz.underlying23 Tryz.type23 rfl rfl rfl rfl rfl rfl (by kernel_rfl) (by decide) (by decide) (by decide) rfl (fun h => by cases h)
theorem T23_sz : T23.sz = 4 := rfl
theorem T23_pty : T23.pty = .agg [.int .i64, .int .i64, .int .i64, .list (.str)] := rfl
/-- laws.Mirror -/
noncomputable def T24 : TI := ⟨true, [.int .i64, .int .i64, .int .i64, .list (.str)], 0, [(0, 3), (1, 3), (2, 3), (3, 22)], 48, .struct (match Tryz.t23.desc with | .struct fs => fs | _ => #[]), false⟩
theorem T24_ok : TIok Tryz.prog 24 T24 := tiok_mk (i := Tryz.t24) Tryz.underlying24 Tryz.type24 rfl rfl rfl rfl rfl rfl (by kernel_rfl) (by decide) (by decide) (by decide) rfl (fun h => by cases h)
theorem T24_sz : T24.sz = 4 := rfl
theorem T24_pty : T24.pty = .agg [.int .i64, .int .i64, .int .i64, .list (.str)] := rfl
/-- a struct -/
noncomputable def T25 : TI := ⟨true, [.int .i64, .str, .str, .int .i64, .int .i64, .int .i64, .list (.str)], 0, [(0, 3), (1, 9), (2, 9), (3, 24)], 88, .struct (match Tryz.t25.desc with | .struct fs => fs | _ => #[]), false⟩
theorem T25_ok : TIok Tryz.prog 25 T25 := tiok_mk (i := Tryz.t25) Tryz.underlying25 Tryz.type25 rfl rfl rfl rfl rfl rfl (by kernel_rfl) (by decide) (by decide) (by decide) rfl (fun h => by cases h)
theorem T25_sz : T25.sz = 7 := rfl
theorem T25_pty : T25.pty = .agg [.int .i64, .str, .str, .int .i64, .int .i64, .int .i64, .list (.str)] := rfl
/-- laws.Client -/
noncomputable def T26 : TI := ⟨true, [.int .i64, .str, .str, .int .i64, .int .i64, .int .i64, .list (.str)], 0, [(0, 3), (1, 9), (2, 9), (3, 24)], 88, .struct (match Tryz.t25.desc with | .struct fs => fs | _ => #[]), false⟩
theorem T26_ok : TIok Tryz.prog 26 T26 := tiok_mk (i := Tryz.t26) Tryz.underlying26 Tryz.type26 rfl rfl rfl rfl rfl rfl (by kernel_rfl) (by decide) (by decide) (by decide) rfl (fun h => by cases h)
theorem T26_sz : T26.sz = 7 := rfl
theorem T26_pty : T26.pty = .agg [.int .i64, .str, .str, .int .i64, .int .i64, .int .i64, .list (.str)] := rfl
/-- []laws.Row -/
noncomputable def T27 : TI := ⟨false, [.list (.agg [.int .i64, .str])], 98, [], 24, .slice 98, false⟩
theorem T27_ok : TIok Tryz.prog 27 T27 := tiok_mk (i := Tryz.t27) Tryz.underlying27 Tryz.type27 rfl rfl rfl rfl rfl rfl (by kernel_rfl) (by decide) (by decide) (by decide) rfl (fun h => by cases h)
theorem T27_sz : T27.sz = 1 := rfl
theorem T27_pty : T27.pty = .list (.agg [.int .i64, .str]) := rfl
/-- a struct -/
noncomputable def T28 : TI := ⟨true, [.int .i64, .int .i64, .bool, .int .i64, .int .i64, .list (.agg [.int .i64, .str])], 0, [(0, 3), (1, 3), (2, 4), (3, 3), (4, 3), (5, 27)], 64, .struct (match Tryz.t28.desc with | .struct fs => fs | _ => #[]), false⟩
theorem T28_ok : TIok Tryz.prog 28 T28 := tiok_mk (i := Tryz.t28) Tryz.underlying28 Tryz.type28 rfl rfl rfl rfl rfl rfl (by kernel_rfl) (by decide) (by decide) (by decide) rfl (fun h => by cases h)
theorem T28_sz : T28.sz = 6 := rfl
theorem T28_pty : T28.pty = .agg [.int .i64, .int .i64, .bool, .int .i64, .int .i64, .list (.agg [.int .i64, .str])] := rfl
/-- laws.View -/
noncomputable def T29 : TI := ⟨true, [.int .i64, .int .i64, .bool, .int .i64, .int .i64, .list (.agg [.int .i64, .str])], 0, [(0, 3), (1, 3), (2, 4), (3, 3), (4, 3), (5, 27)], 64, .struct (match Tryz.t28.desc with | .struct fs => fs | _ => #[]), false⟩
theorem T29_ok : TIok Tryz.prog 29 T29 := tiok_mk (i := Tryz.t29) Tryz.underlying29 Tryz.type29 rfl rfl rfl rfl rfl rfl (by kernel_rfl) (by decide) (by decide) (by decide) rfl (fun h => by cases h)
theorem T29_sz : T29.sz = 6 := rfl
theorem T29_pty : T29.pty = .agg [.int .i64, .int .i64, .bool, .int .i64, .int .i64, .list (.agg [.int .i64, .str])] := rfl
/-- impl.Mirror -/
noncomputable def T32 : TI := ⟨true, [.int .i64, .int .i64, .int .i64, .list (.str)], 0, [(0, 3), (1, 3), (2, 3), (3, 22)], 48, .struct (match Tryz.t23.desc with | .struct fs => fs | _ => #[]), false⟩
theorem T32_ok : TIok Tryz.prog 32 T32 := tiok_mk (i := Tryz.t32) Tryz.underlying32 Tryz.type32 rfl rfl rfl rfl rfl rfl (by kernel_rfl) (by decide) (by decide) (by decide) rfl (fun h => by cases h)
theorem T32_sz : T32.sz = 4 := rfl
theorem T32_pty : T32.pty = .agg [.int .i64, .int .i64, .int .i64, .list (.str)] := rfl
/-- a struct -/
noncomputable def T33 : TI := ⟨true, [.int .i64, .str, .str, .int .i64, .int .i64, .int .i64, .list (.str)], 0, [(0, 3), (1, 9), (2, 9), (3, 32)], 88, .struct (match Tryz.t33.desc with | .struct fs => fs | _ => #[]), false⟩
theorem T33_ok : TIok Tryz.prog 33 T33 := tiok_mk (i := Tryz.t33) Tryz.underlying33 Tryz.type33 rfl rfl rfl rfl rfl rfl (by kernel_rfl) (by decide) (by decide) (by decide) rfl (fun h => by cases h)
theorem T33_sz : T33.sz = 7 := rfl
theorem T33_pty : T33.pty = .agg [.int .i64, .str, .str, .int .i64, .int .i64, .int .i64, .list (.str)] := rfl
/-- impl.Client -/
noncomputable def T34 : TI := ⟨true, [.int .i64, .str, .str, .int .i64, .int .i64, .int .i64, .list (.str)], 0, [(0, 3), (1, 9), (2, 9), (3, 32)], 88, .struct (match Tryz.t33.desc with | .struct fs => fs | _ => #[]), false⟩
theorem T34_ok : TIok Tryz.prog 34 T34 := tiok_mk (i := Tryz.t34) Tryz.underlying34 Tryz.type34 rfl rfl rfl rfl rfl rfl (by kernel_rfl) (by decide) (by decide) (by decide) rfl (fun h => by cases h)
theorem T34_sz : T34.sz = 7 := rfl
theorem T34_pty : T34.pty = .agg [.int .i64, .str, .str, .int .i64, .int .i64, .int .i64, .list (.str)] := rfl
/-- []impl.Row -/
noncomputable def T38 : TI := ⟨false, [.list (.agg [.int .i64, .str])], 94, [], 24, .slice 94, false⟩
theorem T38_ok : TIok Tryz.prog 38 T38 := tiok_mk (i := Tryz.t38) Tryz.underlying38 Tryz.type38 rfl rfl rfl rfl rfl rfl (by kernel_rfl) (by decide) (by decide) (by decide) rfl (fun h => by cases h)
theorem T38_sz : T38.sz = 1 := rfl
theorem T38_pty : T38.pty = .list (.agg [.int .i64, .str]) := rfl
/-- a struct -/
noncomputable def T39 : TI := ⟨true, [.int .i64, .int .i64, .bool, .int .i64, .int .i64, .list (.agg [.int .i64, .str])], 0, [(0, 3), (1, 3), (2, 4), (3, 3), (4, 3), (5, 38)], 64, .struct (match Tryz.t39.desc with | .struct fs => fs | _ => #[]), false⟩
theorem T39_ok : TIok Tryz.prog 39 T39 := tiok_mk (i := Tryz.t39) Tryz.underlying39 Tryz.type39 rfl rfl rfl rfl rfl rfl (by kernel_rfl) (by decide) (by decide) (by decide) rfl (fun h => by cases h)
theorem T39_sz : T39.sz = 6 := rfl
theorem T39_pty : T39.pty = .agg [.int .i64, .int .i64, .bool, .int .i64, .int .i64, .list (.agg [.int .i64, .str])] := rfl
/-- impl.View -/
noncomputable def T40 : TI := ⟨true, [.int .i64, .int .i64, .bool, .int .i64, .int .i64, .list (.agg [.int .i64, .str])], 0, [(0, 3), (1, 3), (2, 4), (3, 3), (4, 3), (5, 38)], 64, .struct (match Tryz.t39.desc with | .struct fs => fs | _ => #[]), false⟩
theorem T40_ok : TIok Tryz.prog 40 T40 := tiok_mk (i := Tryz.t40) Tryz.underlying40 Tryz.type40 rfl rfl rfl rfl rfl rfl (by kernel_rfl) (by decide) (by decide) (by decide) rfl (fun h => by cases h)
theorem T40_sz : T40.sz = 6 := rfl
theorem T40_pty : T40.pty = .agg [.int .i64, .int .i64, .bool, .int .i64, .int .i64, .list (.agg [.int .i64, .str])] := rfl
/-- []uint8 -/
noncomputable def T50 : TI := ⟨false, [.list (.int .u8)], 5, [], 24, .slice 5, false⟩
theorem T50_ok : TIok Tryz.prog 50 T50 := tiok_mk (i := Tryz.t50) Tryz.underlying50 Tryz.type50 rfl rfl rfl rfl rfl rfl (by kernel_rfl) (by decide) (by decide) (by decide) rfl (fun h => by cases h)
theorem T50_sz : T50.sz = 1 := rfl
theorem T50_pty : T50.pty = .list (.int .u8) := rfl
/-- *spec.l00Src -/
noncomputable def T78 : TI := ⟨false, [.opq], 0, [], 8, .pointer 113, false⟩
theorem T78_ok : TIok Tryz.prog 78 T78 := tiok_mk (i := Tryz.t78) Tryz.underlying78 Tryz.type78 rfl rfl rfl rfl rfl rfl (by kernel_rfl) (by decide) (by decide) (by decide) rfl (fun h => by cases h)
theorem T78_sz : T78.sz = 1 := rfl
theorem T78_pty : T78.pty = .opq := rfl
/-- a struct -/
noncomputable def T93 : TI := ⟨true, [.int .i64, .str], 0, [(0, 3), (1, 9)], 24, .struct (match Tryz.t93.desc with | .struct fs => fs | _ => #[]), true⟩
theorem T93_ok : TIok Tryz.prog 93 T93 := tiok_mk (i := Tryz.t93) Tryz.underlying93 Tryz.type93 rfl rfl rfl rfl rfl rfl (by kernel_rfl) (by decide) (by decide) (by decide) rfl (fun _ => ⟨Tryz.stoodInHeld93, Tryz.eqGuardType93⟩)
theorem T93_sz : T93.sz = 2 := rfl
theorem T93_pty : T93.pty = .agg [.int .i64, .str] := rfl
/-- impl.Row -/
noncomputable def T94 : TI := ⟨true, [.int .i64, .str], 0, [(0, 3), (1, 9)], 24, .struct (match Tryz.t93.desc with | .struct fs => fs | _ => #[]), true⟩
theorem T94_ok : TIok Tryz.prog 94 T94 := tiok_mk (i := Tryz.t94) Tryz.underlying94 Tryz.type94 rfl rfl rfl rfl rfl rfl (by kernel_rfl) (by decide) (by decide) (by decide) rfl (fun _ => ⟨Tryz.stoodInHeld94, Tryz.eqGuardType94⟩)
theorem T94_sz : T94.sz = 2 := rfl
theorem T94_pty : T94.pty = .agg [.int .i64, .str] := rfl
/-- laws.Row -/
noncomputable def T98 : TI := ⟨true, [.int .i64, .str], 0, [(0, 3), (1, 9)], 24, .struct (match Tryz.t93.desc with | .struct fs => fs | _ => #[]), true⟩
theorem T98_ok : TIok Tryz.prog 98 T98 := tiok_mk (i := Tryz.t98) Tryz.underlying98 Tryz.type98 rfl rfl rfl rfl rfl rfl (by kernel_rfl) (by decide) (by decide) (by decide) rfl (fun _ => ⟨Tryz.stoodInHeld98, Tryz.eqGuardType98⟩)
theorem T98_sz : T98.sz = 2 := rfl
theorem T98_pty : T98.pty = .agg [.int .i64, .str] := rfl
/-- []int -/
noncomputable def T103 : TI := ⟨false, [.list (.int .i64)], 3, [], 24, .slice 3, false⟩
theorem T103_ok : TIok Tryz.prog 103 T103 := tiok_mk (i := Tryz.t103) Tryz.underlying103 Tryz.type103 rfl rfl rfl rfl rfl rfl (by kernel_rfl) (by decide) (by decide) (by decide) rfl (fun h => by cases h)
theorem T103_sz : T103.sz = 1 := rfl
theorem T103_pty : T103.pty = .list (.int .i64) := rfl
/-- a struct -/
noncomputable def T112 : TI := ⟨true, [.list (.int .u8), .int .i64, .int .i64], 0, [(0, 50), (1, 3), (2, 3)], 40, .struct (match Tryz.t112.desc with | .struct fs => fs | _ => #[]), false⟩
theorem T112_ok : TIok Tryz.prog 112 T112 := tiok_mk (i := Tryz.t112) Tryz.underlying112 Tryz.type112 rfl rfl rfl rfl rfl rfl (by kernel_rfl) (by decide) (by decide) (by decide) rfl (fun h => by cases h)
theorem T112_sz : T112.sz = 3 := rfl
theorem T112_pty : T112.pty = .agg [.list (.int .u8), .int .i64, .int .i64] := rfl
/-- spec.l00Src -/
noncomputable def T113 : TI := ⟨true, [.list (.int .u8), .int .i64, .int .i64], 0, [(0, 50), (1, 3), (2, 3)], 40, .struct (match Tryz.t112.desc with | .struct fs => fs | _ => #[]), false⟩
theorem T113_ok : TIok Tryz.prog 113 T113 := tiok_mk (i := Tryz.t113) Tryz.underlying113 Tryz.type113 rfl rfl rfl rfl rfl rfl (by kernel_rfl) (by decide) (by decide) (by decide) rfl (fun h => by cases h)
theorem T113_sz : T113.sz = 3 := rfl
theorem T113_pty : T113.pty = .agg [.list (.int .u8), .int .i64, .int .i64] := rfl
/-- []impl.Cell -/
noncomputable def T116 : TI := ⟨false, [.list (.agg [.int .i64, .int .i64])], 137, [], 24, .slice 137, false⟩
theorem T116_ok : TIok Tryz.prog 116 T116 := tiok_mk (i := Tryz.t116) Tryz.underlying116 Tryz.type116 rfl rfl rfl rfl rfl rfl (by kernel_rfl) (by decide) (by decide) (by decide) rfl (fun h => by cases h)
theorem T116_sz : T116.sz = 1 := rfl
theorem T116_pty : T116.pty = .list (.agg [.int .i64, .int .i64]) := rfl
/-- a struct -/
noncomputable def T117 : TI := ⟨true, [.int .i64, .int .i64, .int .i64, .int .i64, .int .i64, .int .i64, .int .i64, .int .i64, .int .i64, .str, .list (.agg [.int .i64, .int .i64]), .list (.str)], 0, [(0, 3), (1, 3), (2, 3), (3, 3), (4, 3), (5, 3), (6, 3), (7, 3), (8, 3), (9, 9), (10, 116), (11, 22)], 136, .struct (match Tryz.t117.desc with | .struct fs => fs | _ => #[]), false⟩
theorem T117_ok : TIok Tryz.prog 117 T117 := tiok_mk (i := Tryz.t117) Tryz.underlying117 Tryz.type117 rfl rfl rfl rfl rfl rfl (by kernel_rfl) (by decide) (by decide) (by decide) rfl (fun h => by cases h)
theorem T117_sz : T117.sz = 12 := rfl
theorem T117_pty : T117.pty = .agg [.int .i64, .int .i64, .int .i64, .int .i64, .int .i64, .int .i64, .int .i64, .int .i64, .int .i64, .str, .list (.agg [.int .i64, .int .i64]), .list (.str)] := rfl
/-- impl.Screen -/
noncomputable def T118 : TI := ⟨true, [.int .i64, .int .i64, .int .i64, .int .i64, .int .i64, .int .i64, .int .i64, .int .i64, .int .i64, .str, .list (.agg [.int .i64, .int .i64]), .list (.str)], 0, [(0, 3), (1, 3), (2, 3), (3, 3), (4, 3), (5, 3), (6, 3), (7, 3), (8, 3), (9, 9), (10, 116), (11, 22)], 136, .struct (match Tryz.t117.desc with | .struct fs => fs | _ => #[]), false⟩
theorem T118_ok : TIok Tryz.prog 118 T118 := tiok_mk (i := Tryz.t118) Tryz.underlying118 Tryz.type118 rfl rfl rfl rfl rfl rfl (by kernel_rfl) (by decide) (by decide) (by decide) rfl (fun h => by cases h)
theorem T118_sz : T118.sz = 12 := rfl
theorem T118_pty : T118.pty = .agg [.int .i64, .int .i64, .int .i64, .int .i64, .int .i64, .int .i64, .int .i64, .int .i64, .int .i64, .str, .list (.agg [.int .i64, .int .i64]), .list (.str)] := rfl
/-- a struct -/
noncomputable def T120 : TI := ⟨true, [.int .i64, .list (.int .i64), .bool, .str, .str], 0, [(0, 3), (1, 103), (2, 4), (3, 9), (4, 9)], 72, .struct (match Tryz.t120.desc with | .struct fs => fs | _ => #[]), false⟩
theorem T120_ok : TIok Tryz.prog 120 T120 := tiok_mk (i := Tryz.t120) Tryz.underlying120 Tryz.type120 rfl rfl rfl rfl rfl rfl (by kernel_rfl) (by decide) (by decide) (by decide) rfl (fun h => by cases h)
theorem T120_sz : T120.sz = 5 := rfl
theorem T120_pty : T120.pty = .agg [.int .i64, .list (.int .i64), .bool, .str, .str] := rfl
/-- impl.Parser -/
noncomputable def T121 : TI := ⟨true, [.int .i64, .list (.int .i64), .bool, .str, .str], 0, [(0, 3), (1, 103), (2, 4), (3, 9), (4, 9)], 72, .struct (match Tryz.t120.desc with | .struct fs => fs | _ => #[]), false⟩
theorem T121_ok : TIok Tryz.prog 121 T121 := tiok_mk (i := Tryz.t121) Tryz.underlying121 Tryz.type121 rfl rfl rfl rfl rfl rfl (by kernel_rfl) (by decide) (by decide) (by decide) rfl (fun h => by cases h)
theorem T121_sz : T121.sz = 5 := rfl
theorem T121_pty : T121.pty = .agg [.int .i64, .list (.int .i64), .bool, .str, .str] := rfl
/-- a struct -/
noncomputable def T136 : TI := ⟨true, [.int .i64, .int .i64], 0, [(0, 3), (1, 3)], 16, .struct (match Tryz.t136.desc with | .struct fs => fs | _ => #[]), true⟩
theorem T136_ok : TIok Tryz.prog 136 T136 := tiok_mk (i := Tryz.t136) Tryz.underlying136 Tryz.type136 rfl rfl rfl rfl rfl rfl (by kernel_rfl) (by decide) (by decide) (by decide) rfl (fun _ => ⟨Tryz.stoodInHeld136, Tryz.eqGuardType136⟩)
theorem T136_sz : T136.sz = 2 := rfl
theorem T136_pty : T136.pty = .agg [.int .i64, .int .i64] := rfl
/-- impl.Cell -/
noncomputable def T137 : TI := ⟨true, [.int .i64, .int .i64], 0, [(0, 3), (1, 3)], 16, .struct (match Tryz.t136.desc with | .struct fs => fs | _ => #[]), true⟩
theorem T137_ok : TIok Tryz.prog 137 T137 := tiok_mk (i := Tryz.t137) Tryz.underlying137 Tryz.type137 rfl rfl rfl rfl rfl rfl (by kernel_rfl) (by decide) (by decide) (by decide) rfl (fun _ => ⟨Tryz.stoodInHeld137, Tryz.eqGuardType137⟩)
theorem T137_sz : T137.sz = 2 := rfl
theorem T137_pty : T137.pty = .agg [.int .i64, .int .i64] := rfl
/-- uint -/
noncomputable def T142 : TI := ⟨false, [.int .u64], 0, [], 8, .int .u64, false⟩
theorem T142_ok : TIok Tryz.prog 142 T142 := tiok_mk (i := Tryz.t142) Tryz.underlying142 Tryz.type142 rfl rfl rfl rfl rfl rfl (by kernel_rfl) (by decide) (by decide) (by decide) rfl (fun h => by cases h)
theorem T142_sz : T142.sz = 1 := rfl
theorem T142_pty : T142.pty = .int .u64 := rfl
/-- []impl.Action -/
noncomputable def T144 : TI := ⟨false, [.list (.agg [.int .i64, .int .i64, .bool, .list (.int .i64), .str])], 153, [], 24, .slice 153, false⟩
theorem T144_ok : TIok Tryz.prog 144 T144 := tiok_mk (i := Tryz.t144) Tryz.underlying144 Tryz.type144 rfl rfl rfl rfl rfl rfl (by kernel_rfl) (by decide) (by decide) (by decide) rfl (fun h => by cases h)
theorem T144_sz : T144.sz = 1 := rfl
theorem T144_pty : T144.pty = .list (.agg [.int .i64, .int .i64, .bool, .list (.int .i64), .str]) := rfl
/-- *spec.l04Run -/
noncomputable def T147 : TI := ⟨false, [.opq], 0, [], 8, .pointer 150, false⟩
theorem T147_ok : TIok Tryz.prog 147 T147 := tiok_mk (i := Tryz.t147) Tryz.underlying147 Tryz.type147 rfl rfl rfl rfl rfl rfl (by kernel_rfl) (by decide) (by decide) (by decide) rfl (fun h => by cases h)
theorem T147_sz : T147.sz = 1 := rfl
theorem T147_pty : T147.pty = .opq := rfl
/-- a struct -/
noncomputable def T149 : TI := ⟨true, [.int .i64, .int .i64, .int .i64, .int .i64, .int .i64, .int .i64, .int .i64, .int .i64, .int .i64, .str, .list (.agg [.int .i64, .int .i64]), .list (.str)], 0, [(0, 118)], 136, .struct (match Tryz.t149.desc with | .struct fs => fs | _ => #[]), false⟩
theorem T149_ok : TIok Tryz.prog 149 T149 := tiok_mk (i := Tryz.t149) Tryz.underlying149 Tryz.type149 rfl rfl rfl rfl rfl rfl (by kernel_rfl) (by decide) (by decide) (by decide) rfl (fun h => by cases h)
theorem T149_sz : T149.sz = 12 := rfl
theorem T149_pty : T149.pty = .agg [.int .i64, .int .i64, .int .i64, .int .i64, .int .i64, .int .i64, .int .i64, .int .i64, .int .i64, .str, .list (.agg [.int .i64, .int .i64]), .list (.str)] := rfl
/-- spec.l04Run -/
noncomputable def T150 : TI := ⟨true, [.int .i64, .int .i64, .int .i64, .int .i64, .int .i64, .int .i64, .int .i64, .int .i64, .int .i64, .str, .list (.agg [.int .i64, .int .i64]), .list (.str)], 0, [(0, 118)], 136, .struct (match Tryz.t149.desc with | .struct fs => fs | _ => #[]), false⟩
theorem T150_ok : TIok Tryz.prog 150 T150 := tiok_mk (i := Tryz.t150) Tryz.underlying150 Tryz.type150 rfl rfl rfl rfl rfl rfl (by kernel_rfl) (by decide) (by decide) (by decide) rfl (fun h => by cases h)
theorem T150_sz : T150.sz = 12 := rfl
theorem T150_pty : T150.pty = .agg [.int .i64, .int .i64, .int .i64, .int .i64, .int .i64, .int .i64, .int .i64, .int .i64, .int .i64, .str, .list (.agg [.int .i64, .int .i64]), .list (.str)] := rfl
/-- a struct -/
noncomputable def T152 : TI := ⟨true, [.int .i64, .int .i64, .bool, .list (.int .i64), .str], 0, [(0, 3), (1, 3), (2, 4), (3, 103), (4, 9)], 64, .struct (match Tryz.t152.desc with | .struct fs => fs | _ => #[]), false⟩
theorem T152_ok : TIok Tryz.prog 152 T152 := tiok_mk (i := Tryz.t152) Tryz.underlying152 Tryz.type152 rfl rfl rfl rfl rfl rfl (by kernel_rfl) (by decide) (by decide) (by decide) rfl (fun h => by cases h)
theorem T152_sz : T152.sz = 5 := rfl
theorem T152_pty : T152.pty = .agg [.int .i64, .int .i64, .bool, .list (.int .i64), .str] := rfl
/-- impl.Action -/
noncomputable def T153 : TI := ⟨true, [.int .i64, .int .i64, .bool, .list (.int .i64), .str], 0, [(0, 3), (1, 3), (2, 4), (3, 103), (4, 9)], 64, .struct (match Tryz.t152.desc with | .struct fs => fs | _ => #[]), false⟩
theorem T153_ok : TIok Tryz.prog 153 T153 := tiok_mk (i := Tryz.t153) Tryz.underlying153 Tryz.type153 rfl rfl rfl rfl rfl rfl (by kernel_rfl) (by decide) (by decide) (by decide) rfl (fun h => by cases h)
theorem T153_sz : T153.sz = 5 := rfl
theorem T153_pty : T153.pty = .agg [.int .i64, .int .i64, .bool, .list (.int .i64), .str] := rfl
/-- *strings.asciiSet -/
noncomputable def T164 : TI := ⟨false, [.opq], 0, [], 8, .pointer 160, false⟩
theorem T164_ok : TIok Tryz.prog 164 T164 := tiok_mk (i := Tryz.t164) Tryz.underlying164 Tryz.type164 rfl rfl rfl rfl rfl rfl (by kernel_rfl) (by decide) (by decide) (by decide) rfl (fun h => by cases h)
theorem T164_sz : T164.sz = 1 := rfl
theorem T164_pty : T164.pty = .opq := rfl
/-- *uint8 -/
noncomputable def T165 : TI := ⟨false, [.opq], 0, [], 8, .pointer 5, false⟩
theorem T165_ok : TIok Tryz.prog 165 T165 := tiok_mk (i := Tryz.t165) Tryz.underlying165 Tryz.type165 rfl rfl rfl rfl rfl rfl (by kernel_rfl) (by decide) (by decide) (by decide) rfl (fun h => by cases h)
theorem T165_sz : T165.sz = 1 := rfl
theorem T165_pty : T165.pty = .opq := rfl
/-- uint32 -/
noncomputable def T171 : TI := ⟨false, [.int .u32], 0, [], 4, .int .u32, false⟩
theorem T171_ok : TIok Tryz.prog 171 T171 := tiok_mk (i := Tryz.t171) Tryz.underlying171 Tryz.type171 rfl rfl rfl rfl rfl rfl (by kernel_rfl) (by decide) (by decide) (by decide) rfl (fun h => by cases h)
theorem T171_sz : T171.sz = 1 := rfl
theorem T171_pty : T171.pty = .int .u32 := rfl
/-- [8]uint32 -/
noncomputable def T172 : TI := ⟨true, [.int .u32, .int .u32, .int .u32, .int .u32, .int .u32, .int .u32, .int .u32, .int .u32], 0, [], 32, .array 8 171, false⟩
theorem T172_ok : TIok Tryz.prog 172 T172 := tiok_mk (i := Tryz.t172) Tryz.underlying172 Tryz.type172 rfl rfl rfl rfl rfl rfl (by kernel_rfl) (by decide) (by decide) (by decide) rfl (fun h => by cases h)
theorem T172_sz : T172.sz = 8 := rfl
theorem T172_pty : T172.pty = .agg [.int .u32, .int .u32, .int .u32, .int .u32, .int .u32, .int .u32, .int .u32, .int .u32] := rfl
/-- *[8]uint32 -/
noncomputable def T176 : TI := ⟨false, [.opq], 0, [], 8, .pointer 172, false⟩
theorem T176_ok : TIok Tryz.prog 176 T176 := tiok_mk (i := Tryz.t176) Tryz.underlying176 Tryz.type176 rfl rfl rfl rfl rfl rfl (by kernel_rfl) (by decide) (by decide) (by decide) rfl (fun h => by cases h)
theorem T176_sz : T176.sz = 1 := rfl
theorem T176_pty : T176.pty = .opq := rfl
/-- *spec.l03Run -/
noncomputable def T178 : TI := ⟨false, [.opq], 0, [], 8, .pointer 181, false⟩
theorem T178_ok : TIok Tryz.prog 178 T178 := tiok_mk (i := Tryz.t178) Tryz.underlying178 Tryz.type178 rfl rfl rfl rfl rfl rfl (by kernel_rfl) (by decide) (by decide) (by decide) rfl (fun h => by cases h)
theorem T178_sz : T178.sz = 1 := rfl
theorem T178_pty : T178.pty = .opq := rfl
/-- a struct -/
noncomputable def T180 : TI := ⟨true, [.int .i64, .list (.int .i64), .bool, .str, .str, .list (.agg [.int .i64, .int .i64, .bool, .list (.int .i64), .str])], 0, [(0, 121), (5, 144)], 96, .struct (match Tryz.t180.desc with | .struct fs => fs | _ => #[]), false⟩
theorem T180_ok : TIok Tryz.prog 180 T180 := tiok_mk (i := Tryz.t180) Tryz.underlying180 Tryz.type180 rfl rfl rfl rfl rfl rfl (by kernel_rfl) (by decide) (by decide) (by decide) rfl (fun h => by cases h)
theorem T180_sz : T180.sz = 6 := rfl
theorem T180_pty : T180.pty = .agg [.int .i64, .list (.int .i64), .bool, .str, .str, .list (.agg [.int .i64, .int .i64, .bool, .list (.int .i64), .str])] := rfl
/-- spec.l03Run -/
noncomputable def T181 : TI := ⟨true, [.int .i64, .list (.int .i64), .bool, .str, .str, .list (.agg [.int .i64, .int .i64, .bool, .list (.int .i64), .str])], 0, [(0, 121), (5, 144)], 96, .struct (match Tryz.t180.desc with | .struct fs => fs | _ => #[]), false⟩
theorem T181_ok : TIok Tryz.prog 181 T181 := tiok_mk (i := Tryz.t181) Tryz.underlying181 Tryz.type181 rfl rfl rfl rfl rfl rfl (by kernel_rfl) (by decide) (by decide) (by decide) rfl (fun h => by cases h)
theorem T181_sz : T181.sz = 6 := rfl
theorem T181_pty : T181.pty = .agg [.int .i64, .list (.int .i64), .bool, .str, .str, .list (.agg [.int .i64, .int .i64, .bool, .list (.int .i64), .str])] := rfl
/-- []uint32 -/
noncomputable def T188 : TI := ⟨false, [.list (.int .u32)], 171, [], 24, .slice 171, false⟩
theorem T188_ok : TIok Tryz.prog 188 T188 := tiok_mk (i := Tryz.t188) Tryz.underlying188 Tryz.type188 rfl rfl rfl rfl rfl rfl (by kernel_rfl) (by decide) (by decide) (by decide) rfl (fun h => by cases h)
theorem T188_sz : T188.sz = 1 := rfl
theorem T188_pty : T188.pty = .list (.int .u32) := rfl
/-- strconv.Error -/
noncomputable def T192 : TI := ⟨false, [.int .i64], 0, [], 8, .int .i64, false⟩
theorem T192_ok : TIok Tryz.prog 192 T192 := tiok_mk (i := Tryz.t192) Tryz.underlying192 Tryz.type192 rfl rfl rfl rfl rfl rfl (by kernel_rfl) (by decide) (by decide) (by decide) rfl (fun h => by cases h)
theorem T192_sz : T192.sz = 1 := rfl
theorem T192_pty : T192.pty = .int .i64 := rfl
/-- *strconv.NumError -/
noncomputable def T195 : TI := ⟨false, [.opq], 0, [], 8, .pointer 217, false⟩
theorem T195_ok : TIok Tryz.prog 195 T195 := tiok_mk (i := Tryz.t195) Tryz.underlying195 Tryz.type195 rfl rfl rfl rfl rfl rfl (by kernel_rfl) (by decide) (by decide) (by decide) rfl (fun h => by cases h)
theorem T195_sz : T195.sz = 1 := rfl
theorem T195_pty : T195.pty = .opq := rfl
/-- [64]uint32 -/
noncomputable def T200 : TI := ⟨true, [.int .u32, .int .u32, .int .u32, .int .u32, .int .u32, .int .u32, .int .u32, .int .u32, .int .u32, .int .u32, .int .u32, .int .u32, .int .u32, .int .u32, .int .u32, .int .u32, .int .u32, .int .u32, .int .u32, .int .u32, .int .u32, .int .u32, .int .u32, .int .u32, .int .u32, .int .u32, .int .u32, .int .u32, .int .u32, .int .u32, .int .u32, .int .u32, .int .u32, .int .u32, .int .u32, .int .u32, .int .u32, .int .u32, .int .u32, .int .u32, .int .u32, .int .u32, .int .u32, .int .u32, .int .u32, .int .u32, .int .u32, .int .u32, .int .u32, .int .u32, .int .u32, .int .u32, .int .u32, .int .u32, .int .u32, .int .u32, .int .u32, .int .u32, .int .u32, .int .u32, .int .u32, .int .u32, .int .u32, .int .u32], 0, [], 256, .array 64 171, false⟩
theorem T200_ok : TIok Tryz.prog 200 T200 := tiok_mk (i := Tryz.t200) Tryz.underlying200 Tryz.type200 rfl rfl rfl rfl rfl rfl (by kernel_rfl) (by decide) (by decide) (by decide) rfl (fun h => by cases h)
theorem T200_sz : T200.sz = 64 := rfl
theorem T200_pty : T200.pty = .agg [.int .u32, .int .u32, .int .u32, .int .u32, .int .u32, .int .u32, .int .u32, .int .u32, .int .u32, .int .u32, .int .u32, .int .u32, .int .u32, .int .u32, .int .u32, .int .u32, .int .u32, .int .u32, .int .u32, .int .u32, .int .u32, .int .u32, .int .u32, .int .u32, .int .u32, .int .u32, .int .u32, .int .u32, .int .u32, .int .u32, .int .u32, .int .u32, .int .u32, .int .u32, .int .u32, .int .u32, .int .u32, .int .u32, .int .u32, .int .u32, .int .u32, .int .u32, .int .u32, .int .u32, .int .u32, .int .u32, .int .u32, .int .u32, .int .u32, .int .u32, .int .u32, .int .u32, .int .u32, .int .u32, .int .u32, .int .u32, .int .u32, .int .u32, .int .u32, .int .u32, .int .u32, .int .u32, .int .u32, .int .u32] := rfl
/-- [24]uint8 -/
noncomputable def T202 : TI := ⟨true, [.int .u8, .int .u8, .int .u8, .int .u8, .int .u8, .int .u8, .int .u8, .int .u8, .int .u8, .int .u8, .int .u8, .int .u8, .int .u8, .int .u8, .int .u8, .int .u8, .int .u8, .int .u8, .int .u8, .int .u8, .int .u8, .int .u8, .int .u8, .int .u8], 0, [], 24, .array 24 5, false⟩
theorem T202_ok : TIok Tryz.prog 202 T202 := tiok_mk (i := Tryz.t202) Tryz.underlying202 Tryz.type202 rfl rfl rfl rfl rfl rfl (by kernel_rfl) (by decide) (by decide) (by decide) rfl (fun h => by cases h)
theorem T202_sz : T202.sz = 24 := rfl
theorem T202_pty : T202.pty = .agg [.int .u8, .int .u8, .int .u8, .int .u8, .int .u8, .int .u8, .int .u8, .int .u8, .int .u8, .int .u8, .int .u8, .int .u8, .int .u8, .int .u8, .int .u8, .int .u8, .int .u8, .int .u8, .int .u8, .int .u8, .int .u8, .int .u8, .int .u8, .int .u8] := rfl
/-- uint64 -/
noncomputable def T203 : TI := ⟨false, [.int .u64], 0, [], 8, .int .u64, false⟩
theorem T203_ok : TIok Tryz.prog 203 T203 := tiok_mk (i := Tryz.t203) Tryz.underlying203 Tryz.type203 rfl rfl rfl rfl rfl rfl (by kernel_rfl) (by decide) (by decide) (by decide) rfl (fun h => by cases h)
theorem T203_sz : T203.sz = 1 := rfl
theorem T203_pty : T203.pty = .int .u64 := rfl
/-- *impl.Screen -/
noncomputable def T208 : TI := ⟨false, [.opq], 0, [], 8, .pointer 118, false⟩
theorem T208_ok : TIok Tryz.prog 208 T208 := tiok_mk (i := Tryz.t208) Tryz.underlying208 Tryz.type208 rfl rfl rfl rfl rfl rfl (by kernel_rfl) (by decide) (by decide) (by decide) rfl (fun h => by cases h)
theorem T208_sz : T208.sz = 1 := rfl
theorem T208_pty : T208.pty = .opq := rfl
/-- [20]uint64 -/
noncomputable def T224 : TI := ⟨true, [.int .u64, .int .u64, .int .u64, .int .u64, .int .u64, .int .u64, .int .u64, .int .u64, .int .u64, .int .u64, .int .u64, .int .u64, .int .u64, .int .u64, .int .u64, .int .u64, .int .u64, .int .u64, .int .u64, .int .u64], 0, [], 160, .array 20 203, false⟩
theorem T224_ok : TIok Tryz.prog 224 T224 := tiok_mk (i := Tryz.t224) Tryz.underlying224 Tryz.type224 rfl rfl rfl rfl rfl rfl (by kernel_rfl) (by decide) (by decide) (by decide) rfl (fun h => by cases h)
theorem T224_sz : T224.sz = 20 := rfl
theorem T224_pty : T224.pty = .agg [.int .u64, .int .u64, .int .u64, .int .u64, .int .u64, .int .u64, .int .u64, .int .u64, .int .u64, .int .u64, .int .u64, .int .u64, .int .u64, .int .u64, .int .u64, .int .u64, .int .u64, .int .u64, .int .u64, .int .u64] := rfl
/-- a struct -/
noncomputable def T229 : TI := ⟨true, [.int .u8, .int .u8], 0, [(0, 5), (1, 5)], 2, .struct (match Tryz.t229.desc with | .struct fs => fs | _ => #[]), true⟩
theorem T229_ok : TIok Tryz.prog 229 T229 := tiok_mk (i := Tryz.t229) Tryz.underlying229 Tryz.type229 rfl rfl rfl rfl rfl rfl (by kernel_rfl) (by decide) (by decide) (by decide) rfl (fun _ => ⟨Tryz.stoodInHeld229, Tryz.eqGuardType229⟩)
theorem T229_sz : T229.sz = 2 := rfl
theorem T229_pty : T229.pty = .agg [.int .u8, .int .u8] := rfl
/-- utf8.acceptRange -/
noncomputable def T230 : TI := ⟨true, [.int .u8, .int .u8], 0, [(0, 5), (1, 5)], 2, .struct (match Tryz.t229.desc with | .struct fs => fs | _ => #[]), true⟩
theorem T230_ok : TIok Tryz.prog 230 T230 := tiok_mk (i := Tryz.t230) Tryz.underlying230 Tryz.type230 rfl rfl rfl rfl rfl rfl (by kernel_rfl) (by decide) (by decide) (by decide) rfl (fun _ => ⟨Tryz.stoodInHeld230, Tryz.eqGuardType230⟩)
theorem T230_sz : T230.sz = 2 := rfl
theorem T230_pty : T230.pty = .agg [.int .u8, .int .u8] := rfl
/-- [16]utf8.acceptRange -/
noncomputable def T231 : TI := ⟨true, [.int .u8, .int .u8, .int .u8, .int .u8, .int .u8, .int .u8, .int .u8, .int .u8, .int .u8, .int .u8, .int .u8, .int .u8, .int .u8, .int .u8, .int .u8, .int .u8, .int .u8, .int .u8, .int .u8, .int .u8, .int .u8, .int .u8, .int .u8, .int .u8, .int .u8, .int .u8, .int .u8, .int .u8, .int .u8, .int .u8, .int .u8, .int .u8], 0, [], 32, .array 16 230, false⟩
theorem T231_ok : TIok Tryz.prog 231 T231 := tiok_mk (i := Tryz.t231) Tryz.underlying231 Tryz.type231 rfl rfl rfl rfl rfl rfl (by kernel_rfl) (by decide) (by decide) (by decide) rfl (fun h => by cases h)
theorem T231_sz : T231.sz = 32 := rfl
theorem T231_pty : T231.pty = .agg [.int .u8, .int .u8, .int .u8, .int .u8, .int .u8, .int .u8, .int .u8, .int .u8, .int .u8, .int .u8, .int .u8, .int .u8, .int .u8, .int .u8, .int .u8, .int .u8, .int .u8, .int .u8, .int .u8, .int .u8, .int .u8, .int .u8, .int .u8, .int .u8, .int .u8, .int .u8, .int .u8, .int .u8, .int .u8, .int .u8, .int .u8, .int .u8] := rfl
/-- *errors.errorString -/
noncomputable def T234 : TI := ⟨false, [.opq], 0, [], 8, .pointer 236, false⟩
theorem T234_ok : TIok Tryz.prog 234 T234 := tiok_mk (i := Tryz.t234) Tryz.underlying234 Tryz.type234 rfl rfl rfl rfl rfl rfl (by kernel_rfl) (by decide) (by decide) (by decide) rfl (fun h => by cases h)
theorem T234_sz : T234.sz = 1 := rfl
theorem T234_pty : T234.pty = .opq := rfl
/-- a struct -/
noncomputable def T235 : TI := ⟨true, [.str], 0, [(0, 9)], 16, .struct (match Tryz.t235.desc with | .struct fs => fs | _ => #[]), true⟩
theorem T235_ok : TIok Tryz.prog 235 T235 := tiok_mk (i := Tryz.t235) Tryz.underlying235 Tryz.type235 rfl rfl rfl rfl rfl rfl (by kernel_rfl) (by decide) (by decide) (by decide) rfl (fun _ => ⟨Tryz.stoodInHeld235, Tryz.eqGuardType235⟩)
theorem T235_sz : T235.sz = 1 := rfl
theorem T235_pty : T235.pty = .agg [.str] := rfl
/-- errors.errorString -/
noncomputable def T236 : TI := ⟨true, [.str], 0, [(0, 9)], 16, .struct (match Tryz.t235.desc with | .struct fs => fs | _ => #[]), true⟩
theorem T236_ok : TIok Tryz.prog 236 T236 := tiok_mk (i := Tryz.t236) Tryz.underlying236 Tryz.type236 rfl rfl rfl rfl rfl rfl (by kernel_rfl) (by decide) (by decide) (by decide) rfl (fun _ => ⟨Tryz.stoodInHeld236, Tryz.eqGuardType236⟩)
theorem T236_sz : T236.sz = 1 := rfl
theorem T236_pty : T236.pty = .agg [.str] := rfl
/-- [32]uint8 -/
noncomputable def T238 : TI := ⟨true, [.int .u8, .int .u8, .int .u8, .int .u8, .int .u8, .int .u8, .int .u8, .int .u8, .int .u8, .int .u8, .int .u8, .int .u8, .int .u8, .int .u8, .int .u8, .int .u8, .int .u8, .int .u8, .int .u8, .int .u8, .int .u8, .int .u8, .int .u8, .int .u8, .int .u8, .int .u8, .int .u8, .int .u8, .int .u8, .int .u8, .int .u8, .int .u8], 0, [], 32, .array 32 5, false⟩
theorem T238_ok : TIok Tryz.prog 238 T238 := tiok_mk (i := Tryz.t238) Tryz.underlying238 Tryz.type238 rfl rfl rfl rfl rfl rfl (by kernel_rfl) (by decide) (by decide) (by decide) rfl (fun h => by cases h)
theorem T238_sz : T238.sz = 32 := rfl
theorem T238_pty : T238.pty = .agg [.int .u8, .int .u8, .int .u8, .int .u8, .int .u8, .int .u8, .int .u8, .int .u8, .int .u8, .int .u8, .int .u8, .int .u8, .int .u8, .int .u8, .int .u8, .int .u8, .int .u8, .int .u8, .int .u8, .int .u8, .int .u8, .int .u8, .int .u8, .int .u8, .int .u8, .int .u8, .int .u8, .int .u8, .int .u8, .int .u8, .int .u8, .int .u8] := rfl
/-- [64]uint8 -/
noncomputable def T239 : TI := ⟨true, [.int .u8, .int .u8, .int .u8, .int .u8, .int .u8, .int .u8, .int .u8, .int .u8, .int .u8, .int .u8, .int .u8, .int .u8, .int .u8, .int .u8, .int .u8, .int .u8, .int .u8, .int .u8, .int .u8, .int .u8, .int .u8, .int .u8, .int .u8, .int .u8, .int .u8, .int .u8, .int .u8, .int .u8, .int .u8, .int .u8, .int .u8, .int .u8, .int .u8, .int .u8, .int .u8, .int .u8, .int .u8, .int .u8, .int .u8, .int .u8, .int .u8, .int .u8, .int .u8, .int .u8, .int .u8, .int .u8, .int .u8, .int .u8, .int .u8, .int .u8, .int .u8, .int .u8, .int .u8, .int .u8, .int .u8, .int .u8, .int .u8, .int .u8, .int .u8, .int .u8, .int .u8, .int .u8, .int .u8, .int .u8], 0, [], 64, .array 64 5, false⟩
theorem T239_ok : TIok Tryz.prog 239 T239 := tiok_mk (i := Tryz.t239) Tryz.underlying239 Tryz.type239 rfl rfl rfl rfl rfl rfl (by kernel_rfl) (by decide) (by decide) (by decide) rfl (fun h => by cases h)
theorem T239_sz : T239.sz = 64 := rfl
theorem T239_pty : T239.pty = .agg [.int .u8, .int .u8, .int .u8, .int .u8, .int .u8, .int .u8, .int .u8, .int .u8, .int .u8, .int .u8, .int .u8, .int .u8, .int .u8, .int .u8, .int .u8, .int .u8, .int .u8, .int .u8, .int .u8, .int .u8, .int .u8, .int .u8, .int .u8, .int .u8, .int .u8, .int .u8, .int .u8, .int .u8, .int .u8, .int .u8, .int .u8, .int .u8, .int .u8, .int .u8, .int .u8, .int .u8, .int .u8, .int .u8, .int .u8, .int .u8, .int .u8, .int .u8, .int .u8, .int .u8, .int .u8, .int .u8, .int .u8, .int .u8, .int .u8, .int .u8, .int .u8, .int .u8, .int .u8, .int .u8, .int .u8, .int .u8, .int .u8, .int .u8, .int .u8, .int .u8, .int .u8, .int .u8, .int .u8, .int .u8] := rfl
/-- a struct -/
noncomputable def T240 : TI := ⟨true, [.opq, .opq, .opq, .str], 0, [(0, 17), (1, 17), (2, 17), (3, 9)], 40, .struct (match Tryz.t240.desc with | .struct fs => fs | _ => #[]), false⟩
theorem T240_ok : TIok Tryz.prog 240 T240 := tiok_mk (i := Tryz.t240) Tryz.underlying240 Tryz.type240 rfl rfl rfl rfl rfl rfl (by kernel_rfl) (by decide) (by decide) (by decide) rfl (fun h => by cases h)
theorem T240_sz : T240.sz = 4 := rfl
theorem T240_pty : T240.pty = .agg [.opq, .opq, .opq, .str] := rfl
/-- runtime.TypeAssertionError -/
noncomputable def T241 : TI := ⟨true, [.opq, .opq, .opq, .str], 0, [(0, 17), (1, 17), (2, 17), (3, 9)], 40, .struct (match Tryz.t240.desc with | .struct fs => fs | _ => #[]), false⟩
theorem T241_ok : TIok Tryz.prog 241 T241 := tiok_mk (i := Tryz.t241) Tryz.underlying241 Tryz.type241 rfl rfl rfl rfl rfl rfl (by kernel_rfl) (by decide) (by decide) (by decide) rfl (fun h => by cases h)
theorem T241_sz : T241.sz = 4 := rfl
theorem T241_pty : T241.pty = .agg [.opq, .opq, .opq, .str] := rfl
/-- abi.TFlag -/
noncomputable def T245 : TI := ⟨false, [.int .u8], 0, [], 1, .int .u8, false⟩
theorem T245_ok : TIok Tryz.prog 245 T245 := tiok_mk (i := Tryz.t245) Tryz.underlying245 Tryz.type245 rfl rfl rfl rfl rfl rfl (by kernel_rfl) (by decide) (by decide) (by decide) rfl (fun h => by cases h)
theorem T245_sz : T245.sz = 1 := rfl
theorem T245_pty : T245.pty = .int .u8 := rfl
/-- abi.Kind -/
noncomputable def T246 : TI := ⟨false, [.int .u8], 0, [], 1, .int .u8, false⟩
theorem T246_ok : TIok Tryz.prog 246 T246 := tiok_mk (i := Tryz.t246) Tryz.underlying246 Tryz.type246 rfl rfl rfl rfl rfl rfl (by kernel_rfl) (by decide) (by decide) (by decide) rfl (fun h => by cases h)
theorem T246_sz : T246.sz = 1 := rfl
theorem T246_pty : T246.pty = .int .u8 := rfl
/-- abi.NameOff -/
noncomputable def T248 : TI := ⟨false, [.int .i32], 0, [], 4, .int .i32, false⟩
theorem T248_ok : TIok Tryz.prog 248 T248 := tiok_mk (i := Tryz.t248) Tryz.underlying248 Tryz.type248 rfl rfl rfl rfl rfl rfl (by kernel_rfl) (by decide) (by decide) (by decide) rfl (fun h => by cases h)
theorem T248_sz : T248.sz = 1 := rfl
theorem T248_pty : T248.pty = .int .i32 := rfl
/-- abi.TypeOff -/
noncomputable def T249 : TI := ⟨false, [.int .i32], 0, [], 4, .int .i32, false⟩
theorem T249_ok : TIok Tryz.prog 249 T249 := tiok_mk (i := Tryz.t249) Tryz.underlying249 Tryz.type249 rfl rfl rfl rfl rfl rfl (by kernel_rfl) (by decide) (by decide) (by decide) rfl (fun h => by cases h)
theorem T249_sz : T249.sz = 1 := rfl
theorem T249_pty : T249.pty = .int .i32 := rfl
noncomputable def tyTab : List (Nat × TI) := [(2, T2), (3, T3), (4, T4), (5, T5), (6, T6), (7, T7), (8, T8), (9, T9), (10, T10), (11, T11), (12, T12), (13, T13), (14, T14), (15, T15), (16, T16), (17, T17), (18, T18), (19, T19), (21, T21), (22, T22), (23, T23), (24, T24), (25, T25), (26, T26), (27, T27), (28, T28), (29, T29), (32, T32), (33, T33), (34, T34), (38, T38), (39, T39), (40, T40), (50, T50), (78, T78), (93, T93), (94, T94), (98, T98), (103, T103), (112, T112), (113, T113), (116, T116), (117, T117), (118, T118), (120, T120), (121, T121), (136, T136), (137, T137), (142, T142), (144, T144), (147, T147), (149, T149), (150, T150), (152, T152), (153, T153), (164, T164), (165, T165), (171, T171), (172, T172), (176, T176), (178, T178), (180, T180), (181, T181), (188, T188), (192, T192), (195, T195), (200, T200), (202, T202), (203, T203), (208, T208), (224, T224), (229, T229), (230, T230), (231, T231), (234, T234), (235, T235), (236, T236), (238, T238), (239, T239), (240, T240), (241, T241), (245, T245), (246, T246), (248, T248), (249, T249)]
theorem ty2 : lk tyTab 2 = some T2 := rfl
theorem ty3 : lk tyTab 3 = some T3 := rfl
theorem ty4 : lk tyTab 4 = some T4 := rfl
theorem ty5 : lk tyTab 5 = some T5 := rfl
theorem ty6 : lk tyTab 6 = some T6 := rfl
theorem ty7 : lk tyTab 7 = some T7 := rfl
theorem ty8 : lk tyTab 8 = some T8 := rfl
theorem ty9 : lk tyTab 9 = some T9 := rfl
theorem ty10 : lk tyTab 10 = some T10 := rfl
theorem ty11 : lk tyTab 11 = some T11 := rfl
theorem ty12 : lk tyTab 12 = some T12 := rfl
theorem ty13 : lk tyTab 13 = some T13 := rfl
theorem ty14 : lk tyTab 14 = some T14 := rfl
theorem ty15 : lk tyTab 15 = some T15 := rfl
theorem ty16 : lk tyTab 16 = some T16 := rfl
theorem ty17 : lk tyTab 17 = some T17 := rfl
theorem ty18 : lk tyTab 18 = some T18 := rfl
theorem ty19 : lk tyTab 19 = some T19 := rfl
theorem ty21 : lk tyTab 21 = some T21 := rfl
theorem ty22 : lk tyTab 22 = some T22 := rfl
theorem ty23 : lk tyTab 23 = some T23 := rfl
theorem ty24 : lk tyTab 24 = some T24 := rfl
theorem ty25 : lk tyTab 25 = some T25 := rfl
theorem ty26 : lk tyTab 26 = some T26 := rfl
theorem ty27 : lk tyTab 27 = some T27 := rfl
theorem ty28 : lk tyTab 28 = some T28 := rfl
theorem ty29 : lk tyTab 29 = some T29 := rfl
theorem ty32 : lk tyTab 32 = some T32 := rfl
theorem ty33 : lk tyTab 33 = some T33 := rfl
theorem ty34 : lk tyTab 34 = some T34 := rfl
theorem ty38 : lk tyTab 38 = some T38 := rfl
theorem ty39 : lk tyTab 39 = some T39 := rfl
theorem ty40 : lk tyTab 40 = some T40 := rfl
theorem ty50 : lk tyTab 50 = some T50 := rfl
theorem ty78 : lk tyTab 78 = some T78 := rfl
theorem ty93 : lk tyTab 93 = some T93 := rfl
theorem ty94 : lk tyTab 94 = some T94 := rfl
theorem ty98 : lk tyTab 98 = some T98 := rfl
theorem ty103 : lk tyTab 103 = some T103 := rfl
theorem ty112 : lk tyTab 112 = some T112 := rfl
theorem ty113 : lk tyTab 113 = some T113 := rfl
theorem ty116 : lk tyTab 116 = some T116 := rfl
theorem ty117 : lk tyTab 117 = some T117 := rfl
theorem ty118 : lk tyTab 118 = some T118 := rfl
theorem ty120 : lk tyTab 120 = some T120 := rfl
theorem ty121 : lk tyTab 121 = some T121 := rfl
theorem ty136 : lk tyTab 136 = some T136 := rfl
theorem ty137 : lk tyTab 137 = some T137 := rfl
theorem ty142 : lk tyTab 142 = some T142 := rfl
theorem ty144 : lk tyTab 144 = some T144 := rfl
theorem ty147 : lk tyTab 147 = some T147 := rfl
theorem ty149 : lk tyTab 149 = some T149 := rfl
theorem ty150 : lk tyTab 150 = some T150 := rfl
theorem ty152 : lk tyTab 152 = some T152 := rfl
theorem ty153 : lk tyTab 153 = some T153 := rfl
theorem ty164 : lk tyTab 164 = some T164 := rfl
theorem ty165 : lk tyTab 165 = some T165 := rfl
theorem ty171 : lk tyTab 171 = some T171 := rfl
theorem ty172 : lk tyTab 172 = some T172 := rfl
theorem ty176 : lk tyTab 176 = some T176 := rfl
theorem ty178 : lk tyTab 178 = some T178 := rfl
theorem ty180 : lk tyTab 180 = some T180 := rfl
theorem ty181 : lk tyTab 181 = some T181 := rfl
theorem ty188 : lk tyTab 188 = some T188 := rfl
theorem ty192 : lk tyTab 192 = some T192 := rfl
theorem ty195 : lk tyTab 195 = some T195 := rfl
theorem ty200 : lk tyTab 200 = some T200 := rfl
theorem ty202 : lk tyTab 202 = some T202 := rfl
theorem ty203 : lk tyTab 203 = some T203 := rfl
theorem ty208 : lk tyTab 208 = some T208 := rfl
theorem ty224 : lk tyTab 224 = some T224 := rfl
theorem ty229 : lk tyTab 229 = some T229 := rfl
theorem ty230 : lk tyTab 230 = some T230 := rfl
theorem ty231 : lk tyTab 231 = some T231 := rfl
theorem ty234 : lk tyTab 234 = some T234 := rfl
theorem ty235 : lk tyTab 235 = some T235 := rfl
theorem ty236 : lk tyTab 236 = some T236 := rfl
theorem ty238 : lk tyTab 238 = some T238 := rfl
theorem ty239 : lk tyTab 239 = some T239 := rfl
theorem ty240 : lk tyTab 240 = some T240 := rfl
theorem ty241 : lk tyTab 241 = some T241 := rfl
theorem ty245 : lk tyTab 245 = some T245 := rfl
theorem ty246 : lk tyTab 246 = some T246 := rfl
theorem ty248 : lk tyTab 248 = some T248 := rfl
theorem ty249 : lk tyTab 249 = some T249 := rfl
theorem tyTab_ok (fns : List ((Nat × List Nat) × FSpec)) : EnvTy Tryz.prog ⟨tyTab, fns⟩ := by
  have key : ∀ l : List (Nat × TI), (∀ p ∈ l, TIok Tryz.prog p.1 p.2) → ∀ t ti, lk l t = some ti → TIok Tryz.prog t ti := by
    intro l
    induction l with
    | nil => intro _ t ti h; cases h
    | cons p l ih =>
      intro hl t ti h
      obtain ⟨i, x⟩ := p
      simp only [lk] at h
      split at h
      · rename_i e; subst e; cases h; exact hl (i, ti) (by simp)
      · exact ih (fun p hp => hl p (by simp [hp])) t ti h
  refine key tyTab ?_
  simp only [tyTab, List.mem_cons, List.not_mem_nil, or_false, forall_eq_or_imp, forall_eq]
  exact ⟨T2_ok, T3_ok, T4_ok, T5_ok, T6_ok, T7_ok, T8_ok, T9_ok, T10_ok, T11_ok, T12_ok, T13_ok, T14_ok, T15_ok, T16_ok, T17_ok, T18_ok, T19_ok, T21_ok, T22_ok, T23_ok, T24_ok, T25_ok, T26_ok, T27_ok, T28_ok, T29_ok, T32_ok, T33_ok, T34_ok, T38_ok, T39_ok, T40_ok, T50_ok, T78_ok, T93_ok, T94_ok, T98_ok, T103_ok, T112_ok, T113_ok, T116_ok, T117_ok, T118_ok, T120_ok, T121_ok, T136_ok, T137_ok, T142_ok, T144_ok, T147_ok, T149_ok, T150_ok, T152_ok, T153_ok, T164_ok, T165_ok, T171_ok, T172_ok, T176_ok, T178_ok, T180_ok, T181_ok, T188_ok, T192_ok, T195_ok, T200_ok, T202_ok, T203_ok, T208_ok, T224_ok, T229_ok, T230_ok, T231_ok, T234_ok, T235_ok, T236_ok, T238_ok, T239_ok, T240_ok, T241_ok, T245_ok, T246_ok, T248_ok, T249_ok⟩
theorem mixed : Tryz.prog.follows .mixedOrders = true := by kernel_rfl
theorem gt0 : lk GT 0 = some (.int .u32, G0) := rfl
theorem G0_len : G0.length = 8 := rfl
attribute [simp] gt0 G0_len
theorem gt1 : lk GT 1 = some (.int .u32, G1) := rfl
theorem G1_len : G1.length = 64 := rfl
attribute [simp] gt1 G1_len
theorem gt5 : lk GT 5 = some (.int .u64, G5) := rfl
theorem G5_len : G5.length = 20 := rfl
attribute [simp] gt5 G5_len
attribute [simp] nth_fold nth_zero nth_succ pv_I pv_B pv_S pv_L pv_A pv_at lv_int lv_bool lv_str lv_list lv_agg PTy.leaves PTy.wd inR TI.sz TI.pty lk set1 memB anyB kill strike stillH unpath still prom proms dpB dpAll ndB isNil shOk takeIn takeOk St.slot ofConst1 ofConsts ofConst St.ev SV.cells SV.ofCells SV.leafB leafAll fixL zeroSV zeroSVs zeroLf zeroLfs zeroPV resL resLs resB resBs resT resTs resEs introL noP elP introV introVs packV binI eqSVs shpV binS imp evs closes findFn slsOf slsAll argLs argsLs pathOf rdHs1 rdHsL rdHs bsHs rdsHs rdOk lendOk backL keepS backs ownersOf allRd soleMt firstP callRd callPt callOw callOwn callRes idxs oprs fillSV partsOk convRes viewE viewA pathE pathA sliceRes evO etaL storeEl loadEl flatL flatLs flatB leafD leafDs dataB ownO sameO isStruct aggOk leafAt srcOf joinB joinOk appRes copyTo copyRes builtinRes loadHy eqCs lvsOf opRes0 svInts repT leafB arrRes opRes nilRes guardOf csz ksz unwd dstOk putS vcK vwCall skipR stepD vcD growP rdCall convP slcB rn entV entVs entR entO entH hlts domH entA entL ent itVal hsV hsVs itSlots itBoxes dropL hsL hsA onlyR gcH gcA itKeep itReach itLay itSt mr mrs itRho itOk introB introBs introR introX introS introT introTs nL lkAll numb resKp resMs retOk mtTy bxCs mtSls mtHs finFr finOf SV.lt SV.lts IntKind.min IntKind.max IntKind.signed IntKind.bits LIM
attribute [simp] ty2 T2_sz T2_pty T2 ty3 T3_sz T3_pty T3 ty4 T4_sz T4_pty T4 ty5 T5_sz T5_pty T5 ty6 T6_sz T6_pty T6 ty7 T7_sz T7_pty T7 ty8 T8_sz T8_pty T8 ty9 T9_sz T9_pty T9 ty10 T10_sz T10_pty T10 ty11 T11_sz T11_pty T11 ty12 T12_sz T12_pty T12 ty13 T13_sz T13_pty T13 ty14 T14_sz T14_pty T14 ty15 T15_sz T15_pty T15 ty16 T16_sz T16_pty T16 ty17 T17_sz T17_pty T17 ty18 T18_sz T18_pty T18 ty19 T19_sz T19_pty T19 ty21 T21_sz T21_pty T21 ty22 T22_sz T22_pty T22 ty23 T23_sz T23_pty T23 ty24 T24_sz T24_pty T24 ty25 T25_sz T25_pty T25 ty26 T26_sz T26_pty T26 ty27 T27_sz T27_pty T27 ty28 T28_sz T28_pty T28 ty29 T29_sz T29_pty T29 ty32 T32_sz T32_pty T32 ty33 T33_sz T33_pty T33 ty34 T34_sz T34_pty T34 ty38 T38_sz T38_pty T38 ty39 T39_sz T39_pty T39 ty40 T40_sz T40_pty T40 ty50 T50_sz T50_pty T50 ty78 T78_sz T78_pty T78 ty93 T93_sz T93_pty T93 ty94 T94_sz T94_pty T94 ty98 T98_sz T98_pty T98 ty103 T103_sz T103_pty T103 ty112 T112_sz T112_pty T112 ty113 T113_sz T113_pty T113 ty116 T116_sz T116_pty T116 ty117 T117_sz T117_pty T117 ty118 T118_sz T118_pty T118 ty120 T120_sz T120_pty T120 ty121 T121_sz T121_pty T121 ty136 T136_sz T136_pty T136 ty137 T137_sz T137_pty T137 ty142 T142_sz T142_pty T142 ty144 T144_sz T144_pty T144 ty147 T147_sz T147_pty T147 ty149 T149_sz T149_pty T149 ty150 T150_sz T150_pty T150 ty152 T152_sz T152_pty T152 ty153 T153_sz T153_pty T153 ty164 T164_sz T164_pty T164 ty165 T165_sz T165_pty T165 ty171 T171_sz T171_pty T171 ty172 T172_sz T172_pty T172 ty176 T176_sz T176_pty T176 ty178 T178_sz T178_pty T178 ty180 T180_sz T180_pty T180 ty181 T181_sz T181_pty T181 ty188 T188_sz T188_pty T188 ty192 T192_sz T192_pty T192 ty195 T195_sz T195_pty T195 ty200 T200_sz T200_pty T200 ty202 T202_sz T202_pty T202 ty203 T203_sz T203_pty T203 ty208 T208_sz T208_pty T208 ty224 T224_sz T224_pty T224 ty229 T229_sz T229_pty T229 ty230 T230_sz T230_pty T230 ty231 T231_sz T231_pty T231 ty234 T234_sz T234_pty T234 ty235 T235_sz T235_pty T235 ty236 T236_sz T236_pty T236 ty238 T238_sz T238_pty T238 ty239 T239_sz T239_pty T239 ty240 T240_sz T240_pty T240 ty241 T241_sz T241_pty T241 ty245 T245_sz T245_pty T245 ty246 T246_sz T246_pty T246 ty248 T248_sz T248_pty T248 ty249 T249_sz T249_pty T249

end Go.Proofs.YtolgjekokdimoaaGreatDoor
end

section
namespace Go.Proofs.YtolgjekokdimoaaGreatDoor
variable [LaidG]
open Go.Lib Go.RowKit
set_option linter.unusedVariables false

section
variable {P : Program} {w : World}

theorem app_str (t u ty e : TypeId) (i : TypeInfo) (ht : P.underlying t = some (.slice e)) (hu : P.underlying u = some .string) (hi : P.info? e = some i) (hz : i.zero = some (.int .u8 0)) (hsize : i.size = 1) (hby : i.bytes = 1)
    (v : Value) (n : Nat) (xs : List Value) (hown : w.ownsRow 0 e 1 v n xs) (s : ByteArray) (h63 : n + s.size ≤ maxLen) (hbytes : n + s.size ≤ 140737488355328) :
    ∃ v' w', (Builtin.append_ #[t, u] ty #[v, .string s]).run P w = .ok v' w' ∧ w'.ownsRow 0 e 1 v' (n + s.size) (xs ++ strCells s) ∧ w.grownBy w' v.ownBlock ∧ (v'.ownBlock = v.ownBlock ∨ v'.ownBlock = some w.heap.size) := by
  obtain ⟨v', w', hr, h2, h3, h4⟩ := run_append_own_string (P := P) w 0 t u ty e i ht hu hi hz hsize hby v n xs hown s h63 hbytes (Nat.zero_le _)
  refine ⟨v', w', hr, h2, h3, ?_⟩
  have hxl : xs.length = n := by simpa using hown.1
  simp only [maxLen] at h63
  have hown' := hown
  rcases hown.2 with ⟨rfl, rfl⟩ | ⟨g, cap, cur, rfl, _, hg, hnc, hcm, hcs, htake⟩
  · by_cases hm : s.size = 0
    · rw [h4.2 ⟨rfl, hm⟩]; exact .inl rfl
    · have h5 := run_append_nil_string (P := P) w t u ty e i (.int .u8 0) ht hu hi hz s (by omega) (by omega) (by rw [hby]; omega)
      rw [h5] at hr; cases hr; exact .inr rfl
  · by_cases hroom : n + s.size ≤ cap
    · have h5 := run_append_room_string (P := P) w t u ty e i ht hu hi hsize g n cap cur hg s hroom (by rw [Nat.mul_one] at hcs; omega)
      rw [h5] at hr; cases hr; exact .inl rfl
    · have h5 := run_append_grow_string (P := P) w t u ty e i (.int .u8 0) ht hu hi hz ⟨g, 0, none⟩ n cap xs (by rw [hsize]; simpa using hxl) (hown'.cells (g := g) rfl) s (by omega) (by omega) (by rw [hby]; exact growslice_fits (by omega) (by omega))
      rw [h5] at hr; cases hr; exact .inr rfl

theorem app_row (t ty e : TypeId) (i : TypeInfo) (ht : P.underlying t = some (.slice e)) (hi : P.info? e = some i) (hz : i.zero = some (.int .u8 0)) (hsize : i.size = 1) (hby : i.bytes = 1)
    (v : Value) (n : Nat) (xs : List Value) (hown : w.ownsRow 0 e 1 v n xs) (ad : Addr) (x : Value) (hx : w.cell? ad = some x) (h1 : x.oneCell' = true) (hbytes : n + 1 ≤ 140737488355328) :
    ∃ v' w', (Builtin.append_ #[t, t] ty #[v, .slice (some ad) 1 1]).run P w = .ok v' w' ∧ w'.ownsRow 0 e 1 v' (n + 1) (xs ++ [x]) ∧ w.grownBy w' v.ownBlock ∧ (v'.ownBlock = v.ownBlock ∨ v'.ownBlock = some w.heap.size) := by
  have hnews : ∀ j u, ([x] : List Value)[j]? = some u → w.cell? (ad.add j) = some u := by
    intro j u hj
    match j, hj with
    | 0, hj => simp at hj; subst hj; simpa [Addr.add] using hx
  have hone : ∀ u ∈ ([x] : List Value), u.oneCell' = true := by intro u hu; simp at hu; subst hu; exact h1
  obtain ⟨v', w', hr, h2, h3, h4⟩ := run_append_own (P := P) w 0 t ty e i (.int .u8 0) 1 1 ht hi hz hsize hby rfl (by decide) v n xs hown ad 1 1 [x] rfl hnews hone (by unfold maxLen; omega) (by omega) (Nat.zero_le _)
  refine ⟨v', w', hr, h2, h3, ?_⟩
  have hxl : xs.length = n := by simpa using hown.1
  have hown' := hown
  rcases hown.2 with ⟨rfl, rfl⟩ | ⟨g, cap, cur, rfl, _, hg, hnc, hcm, hcs, htake⟩
  · have h5 := run_append_nil (P := P) w t ty e i (.int .u8 0) ht hi hz ad 1 1 [x] (by rw [hsize]; rfl) hnews (by omega) (by omega) (by rw [hby]; omega)
    rw [h5] at hr; cases hr; exact .inr rfl
  · by_cases hroom : n + 1 ≤ cap
    · have h5 := run_append_room (P := P) w t ty e i ht hi g n cap cur hg ad 1 1 [x] (by rw [hsize]; rfl) hnews hone hroom (by rw [hsize, Nat.mul_one]; rw [Nat.mul_one] at hcs; simp; omega)
      rw [h5] at hr; cases hr; exact .inl rfl
    · have h5 := run_append_grow (P := P) w t ty e i (.int .u8 0) ht hi hz ⟨g, 0, none⟩ n cap xs (by rw [hsize]; simpa using hxl) (hown'.cells (g := g) rfl) ad 1 1 [x] (by rw [hsize]; rfl) hnews (by omega) (by omega) (by rw [hby]; exact growslice_fits (by omega) (by omega))
      rw [h5] at hr; cases hr; exact .inr rfl

theorem wpList_app_str {ops : Array Oper} {rest : List Oper} {o : Oper} {a : Act} {Q : Exit → Act → World → Prop} (hgd : o.guard = none) (sl x : Operand) (t u : TypeId)
    (ho : o.op = .call { callee := .builtin .append, args := #[sl, x], argTypes := #[t, u] })
    (e : TypeId) (i : TypeInfo) (ht : P.underlying t = some (.slice e)) (hu : P.underlying u = some .string) (hi : P.info? e = some i) (hz : i.zero = some (.int .u8 0)) (hsize : i.size = 1) (hby : i.bytes = 1)
    (v : Value) (n : Nat) (xs : List Value) (hs : a.eval sl = v) (hown : w.ownsRow 0 e 1 v n xs) (s : ByteArray) (hx : a.eval x = .string s) (h63 : n + s.size ≤ maxLen) (hbytes : n + s.size ≤ 140737488355328)
    (h : ∀ v' w', w'.ownsRow 0 e 1 v' (n + s.size) (xs ++ strCells s) → w.grownBy w' v.ownBlock → (v'.ownBlock = v.ownBlock ∨ v'.ownBlock = some w.heap.size) → wpList P ops Q rest (a.put o.dst v') w') : wpList P ops Q (o :: rest) a w := by
  refine wpList_plain hgd fun K hK => ?_
  obtain ⟨v', w', hr, h2, h3, h4⟩ := app_str (P := P) t u o.type e i ht hu hi hz hsize hby v n xs hown s h63 hbytes
  unfold Oper.wp execOp
  simp only [ho, resolve, invoke, builtin, Sem.run_bind, Sem.run_pure, Result.andThen_ok, List.map_toArray, List.map_cons, List.map_nil, hs, hx, hr]
  exact hK _ _ (h v' w' h2 h3 h4)

theorem wpList_app_row {ops : Array Oper} {rest : List Oper} {o : Oper} {a : Act} {Q : Exit → Act → World → Prop} (hgd : o.guard = none) (sl x : Operand) (t : TypeId)
    (ho : o.op = .call { callee := .builtin .append, args := #[sl, x], argTypes := #[t, t] })
    (e : TypeId) (i : TypeInfo) (ht : P.underlying t = some (.slice e)) (hi : P.info? e = some i) (hz : i.zero = some (.int .u8 0)) (hsize : i.size = 1) (hby : i.bytes = 1)
    (v : Value) (n : Nat) (xs : List Value) (hs : a.eval sl = v) (hown : w.ownsRow 0 e 1 v n xs) (ad : Addr) (y : Value) (hx : a.eval x = .slice (some ad) 1 1) (hy : w.cell? ad = some y) (h1 : y.oneCell' = true) (hbytes : n + 1 ≤ 140737488355328)
    (h : ∀ v' w', w'.ownsRow 0 e 1 v' (n + 1) (xs ++ [y]) → w.grownBy w' v.ownBlock → (v'.ownBlock = v.ownBlock ∨ v'.ownBlock = some w.heap.size) → wpList P ops Q rest (a.put o.dst v') w') : wpList P ops Q (o :: rest) a w := by
  refine wpList_plain hgd fun K hK => ?_
  obtain ⟨v', w', hr, h2, h3, h4⟩ := app_row (P := P) t o.type e i ht hi hz hsize hby v n xs hown ad y hy h1 hbytes
  unfold Oper.wp execOp
  simp only [ho, resolve, invoke, builtin, Sem.run_bind, Sem.run_pure, Result.andThen_ok, List.map_toArray, List.map_cons, List.map_nil, hs, hx, hr]
  exact hK _ _ (h v' w' h2 h3 h4)

end
end Go.Proofs.YtolgjekokdimoaaGreatDoor
end

section
namespace Go.Proofs.YtolgjekokdimoaaGreatDoor
variable [LaidG]
open Go.Lib Go.RowKit
set_option linter.unusedVariables false

/-- A builder that has been used. -/
def BldU (T e b : Nat) (l : List UInt8) (w : World) (f : List Nat) : Prop :=
  ∃ v, w.heap[b]? = some (.cells #[.pointer (some ⟨b, 0, none⟩), v] T (0, 0)) ∧ w.ownsRow 0 e 1 v l.length (l.map fun x => Value.int .u8 x.toNat) ∧ v.ownBlock ≠ some b ∧ f = b :: v.ownBlock.toList

theorem BldU.at {T e b : Nat} {l : List UInt8} {w : World} {f : List Nat} (h : BldU T e b l w f) : BldAt T e b l w f := by
  obtain ⟨v, h1, h2, h3, h4⟩ := h
  exact ⟨_, v, .inr rfl, h1, h2, h3, h4⟩

theorem bldSz : (Tryz.prog.info? 129).map (·.size) = some 2 := by kernel_rfl
theorem liesB : liesAt Tryz.prog Tryz.prog.depth 129 (2 / Tryz.prog.cellsOf 129) 0 129 1 = true := by kernel_rfl
theorem infoB : (Tryz.prog.info? 5).map (fun i => (i.zero, i.size, i.bytes)) = some (some (.int .u8 0), 1, 1) := by kernel_rfl

set_option maxHeartbeats 1000000 in
set_option maxRecDepth 100000 in
theorem check_used (b : Nat) (w : World) (h0 : w.cell? ⟨b, 0, none⟩ = some (.pointer (some ⟨b, 0, none⟩))) :
    Calls Tryz.prog 141 #[.pointer (some ⟨b, 0, none⟩)] w fun e w' => e = .returned (.tuple #[]) ∧ w' = w := by
  obtain ⟨j, hj, _⟩ := Option.map_eq_some_iff.1 bldSz
  go_enter Tryz.func141, Tryz.ntmps141
  go_wp2
  rw [Lib.run_neq_ptr_same w _ Tryz.underlying127 hj]
  go_wp2
  go_end0
  exact ⟨rfl, rfl⟩

set_option maxHeartbeats 1000000 in
set_option maxRecDepth 100000 in
theorem check_fresh (b : Nat) (w : World) (h0 : w.cell? ⟨b, 0, none⟩ = some (.pointer none)) (hsh : w.shape? b = some (129, 2)) (hfz : w.frozen? ⟨b, 0, none⟩ = false) :
    Calls Tryz.prog 141 #[.pointer (some ⟨b, 0, none⟩)] w fun e w' => e = .returned (.tuple #[]) ∧ w' = w.setCell ⟨b, 0, none⟩ (.pointer (some ⟨b, 0, none⟩)) := by
  obtain ⟨j, hj, hjs⟩ := Option.map_eq_some_iff.1 bldSz
  go_enter Tryz.func141, Tryz.ntmps141
  go_wp2
  rw [Lib.run_to_unsafe w ⟨b, 0, none⟩ Tryz.underlying127 Tryz.underlying183 hj (by rw [hjs]; decide) hsh (Nat.zero_lt_succ 1)]
  simp only [Result.andThen]
  rw [Oper.upon_value]
  go_wp2
  rw [run_callFunc_extern Tryz.func167 (by kernel_rfl) (by kernel_rfl) (by kernel_rfl) (e := Extern.AbiNoEscape.same) (by kernel_rfl)]
  rw [Lib.run_noEscape]
  simp only [Result.andThen]
  rw [Oper.upon_value]
  go_wp2
  rw [Lib.run_from_unsafe w ⟨b, 0, none⟩ Tryz.underlying183 Tryz.underlying127 hj hsh liesB]
  simp only [Result.andThen]
  rw [Oper.upon_value]
  go_wp2
  go_end0
  exact ⟨rfl, rfl⟩

theorem bld_check (b : Nat) (l : List UInt8) (w : World) (f : List Nat) (h : BldAt 129 5 b l w f) :
    Calls Tryz.prog 141 #[.pointer (some ⟨b, 0, none⟩)] w fun e w' => e = .returned (.tuple #[]) ∧ BldU 129 5 b l w' f ∧ Fr w [b] w' := by
  obtain ⟨p, v, hp, hb, hown, hne, hf⟩ := h
  have hlt : b < w.heap.size := (Array.getElem?_eq_some_iff.1 hb).1
  rcases hp with rfl | rfl
  · refine (check_fresh b w (by simp [World.cell?, hb]) (by simp [World.shape?, hb]) (by simp [World.frozen?, hb])).mono ?_
    rintro e w' ⟨rfl, rfl⟩
    have hfr : Fr w [b] (w.setCell ⟨b, 0, none⟩ (.pointer (some ⟨b, 0, none⟩))) :=
      ⟨rfl, rfl, rfl, by simp [World.setCell], fun k hk hn => Below.heap_setCell _ _ _ _ (fun e => hn (by simp [e]))⟩
    refine ⟨rfl, ⟨v, ?_, ?_, hne, hf⟩, hfr⟩
    · simp [World.setCell, Array.getElem?_modify, hb]
    · exact hown.kept (row := some b) ⟨rfl, rfl, rfl, by simp [World.setCell], fun k _ hk => Below.heap_setCell _ _ _ _ (fun e => hk (by simp [e]))⟩ (Or.inr hne)
  · refine (check_used b w (by simp [World.cell?, hb])).mono ?_
    rintro e w' ⟨rfl, rfl⟩
    exact ⟨rfl, ⟨v, hb, hown, hne, hf⟩, Fr.refl _ _⟩

theorem grown_fr {w w' : World} {row : Option Nat} (h : w.grownBy w' row) : Fr w row.toList w' :=
  ⟨h.os, h.tape, h.output, h.size, fun k hk hn => h.block k hk (fun e => hn (by rw [← e]; simp))⟩

/-- The new row is put into the builder. -/
theorem bld_put {T b : Nat} {v v' : Value} {l' : List UInt8} {w w1 w2 : World} {f : List Nat} (hT : T ≠ 5) (h1 : Fr w [b] w1) (hbw : b < w.heap.size) (hb : w1.heap[b]? = some (.cells #[.pointer (some ⟨b, 0, none⟩), v] T (0, 0))) (hne : v.ownBlock ≠ some b) (hf : f = b :: v.ownBlock.toList)
    (hown : w2.ownsRow 0 5 1 v' l'.length (l'.map fun x => Value.int .u8 x.toNat)) (hg : w1.grownBy w2 v.ownBlock) (ho : v'.ownBlock = v.ownBlock ∨ ∃ k, v'.ownBlock = some k ∧ w.heap.size ≤ k) (hv : ∀ k, v.ownBlock = some k → k < w.heap.size) :
    ∃ f', BldAt T 5 b l' (w2.setCell ⟨b, 1, none⟩ v') f' ∧ Fr w f (w2.setCell ⟨b, 1, none⟩ v') ∧ ∀ x ∈ f', x ∈ f ∨ w.heap.size ≤ x := by
  have hb2 : w2.heap[b]? = some (.cells #[.pointer (some ⟨b, 0, none⟩), v] T (0, 0)) := by
    rw [hg.block b (Array.getElem?_eq_some_iff.1 hb).1 (fun e => hne e.symm)]; exact hb
  have hne' := ownBlock_ne hown hb2 hT
  have hfr2 : Fr w2 [b] (w2.setCell ⟨b, 1, none⟩ v') := ⟨rfl, rfl, rfl, by simp [World.setCell], fun k hk hn => Below.heap_setCell _ _ _ _ (fun e => hn (by simp [e]))⟩
  refine ⟨b :: v'.ownBlock.toList, ⟨_, v', .inr rfl, ?_, ?_, hne', rfl⟩, ?_, ?_⟩
  · simp [World.setCell, Array.getElem?_modify, hb2]
  · exact hown.kept (row := some b) ⟨rfl, rfl, rfl, by simp [World.setCell], fun k _ hk => Below.heap_setCell _ _ _ _ (fun e => hk (by simp [e]))⟩ (Or.inr hne')
  · subst hf
    refine ((h1.trans (grown_fr hg) (Z := b :: v.ownBlock.toList) (fun x hx => by simp at hx; simp [hx]) (fun x hx => .inl (by simp at hx ⊢; exact .inr hx))).trans hfr2 (fun x hx => hx) (fun x hx => .inl (by simp at hx; simp [hx])))
  · intro x hx
    subst hf
    simp only [List.mem_cons, Option.mem_toList] at hx ⊢
    rcases hx with rfl | hx
    · exact .inl (.inl rfl)
    · rcases ho with ho | ⟨k, ho, hk⟩
      · rw [ho] at hx; exact .inl (.inr hx)
      · rw [ho] at hx; cases hx; exact .inr hk

end Go.Proofs.YtolgjekokdimoaaGreatDoor
end

section
namespace Go.Proofs.YtolgjekokdimoaaGreatDoor
variable [LaidG]
open Go.Lib Go.RowKit
set_option linter.unusedVariables false

set_option maxHeartbeats 2000000 in
set_option maxRecDepth 100000 in
theorem bld_ws (b : Nat) (l : List UInt8) (s : ByteArray) (w : World) (f : List Nat) (h : BldAt 129 5 b l w f) (hlen : l.length + s.size ≤ 140737488355328) :
    Calls Tryz.prog 187 #[.pointer (some ⟨b, 0, none⟩), .string s] w fun e w' => e = .returned (.tuple #[.int .i64 s.size, .nilIface]) ∧ ∃ f', BldAt 129 5 b (l ++ s.data.toList) w' f' ∧ Fr w f w' ∧ ∀ x ∈ f', x ∈ f ∨ w.heap.size ≤ x := by
  obtain ⟨i0, hi, hz0, hz1, hz2⟩ := info_parts infoB
  have hbw : b < w.heap.size := by
    obtain ⟨p, v, _, hb, _⟩ := h
    exact (Array.getElem?_eq_some_iff.1 hb).1
  have hrow : ∀ v, f = b :: v → ∀ k ∈ v, k < w.heap.size := by
    obtain ⟨p, v, _, hb, hown, _, hf⟩ := h
    intro v' hv' k hk
    rw [hf] at hv'; cases hv'
    exact (hown.lt k (by simpa using hk)).2
  go_enter Tryz.func187, Tryz.ntmps187
  go_wp2_with (go_at_call 141; refine (bld_check b l _ f h).mono ?_)
  rintro e w1 ⟨rfl, hU, hF1⟩
  obtain ⟨v, hbk, hown, hne, hf⟩ := hU
  have c0 : w1.cell? ⟨b, 0, none⟩ = some (.pointer (some ⟨b, 0, none⟩)) := by simp [World.cell?, hbk]
  have c1 : w1.cell? ⟨b, 1, none⟩ = some v := by simp [World.cell?, hbk]
  go_wp2_with (at_builtin; refine wpList_app_str rfl _ _ 50 9 rfl 5 i0 Tryz.underlying50 Tryz.underlying9 hi hz0 hz1 hz2 _ _ _ rfl hown s rfl ?c3 ?c4 ?_)
  case c3 => unfold maxLen; omega
  case c4 => omega
  intro v' w2 hown' hgrow ho
  have hb2 : w2.heap[b]? = some (.cells #[.pointer (some ⟨b, 0, none⟩), v] 129 (0, 0)) := by
    rw [hgrow.block b (Array.getElem?_eq_some_iff.1 hbk).1 (fun e => hne e.symm)]
    exact hbk
  have d0 : w2.cell? ⟨b, 0, none⟩ = some (.pointer (some ⟨b, 0, none⟩)) := by simp [World.cell?, hb2]
  have d1 : w2.cell? ⟨b, 1, none⟩ = some v := by simp [World.cell?, hb2]
  have f1 : w2.frozen? ⟨b, 1, none⟩ = false := by simp [World.frozen?, hb2]
  obtain ⟨ao, n', cap, rfl⟩ : ∃ ao n' cap, v' = .slice ao n' cap := by
    rcases hown'.2 with ⟨hv, _⟩ | ⟨g, cap, cur, hv, _⟩
    · exact ⟨_, _, _, hv⟩
    · exact ⟨_, _, _, hv⟩
  go_wp2
  go_ret2
  have e1 : l.map (fun x => Value.int .u8 x.toNat) ++ strCells s = (l ++ s.data.toList).map fun x => Value.int .u8 x.toNat := by simp [strCells]
  have e2 : l.length + s.size = (l ++ s.data.toList).length := by rw [List.length_append, Array.length_toList]; rfl
  rw [e1, e2] at hown'
  refine ⟨rfl, ?_⟩
  exact bld_put (by decide) hF1 hbw hbk hne hf hown' hgrow (ho.imp (fun h => h) fun h => ⟨_, h, hF1.size⟩) (fun k hk => hrow _ hf k (by rw [hk]; exact List.mem_singleton.2 rfl))




set_option maxHeartbeats 1000000 in
set_option maxRecDepth 100000 in
theorem bld_len (b : Nat) (l : List UInt8) (w : World) (f : List Nat) (h : BldAt 129 5 b l w f) :
    Calls Tryz.prog 188 #[.pointer (some ⟨b, 0, none⟩)] w fun e w' => e = .returned (.int .i64 l.length) ∧ w' = w := by
  obtain ⟨p, v, _, hbk, hown, hne, hf⟩ := h
  obtain ⟨ao, cap, rfl⟩ : ∃ ao cap, v = .slice ao l.length cap := by
    rcases hown.2 with ⟨hv, h0⟩ | ⟨g, cap, cur, hv, _⟩
    · exact ⟨none, 0, by rw [hv, h0]⟩
    · exact ⟨_, _, hv⟩
  have c1 : w.cell? ⟨b, 1, none⟩ = some (.slice ao l.length cap) := by simp [World.cell?, hbk]
  go_enter Tryz.func188, Tryz.ntmps188
  go_wp2
  go_ret
  exact ⟨rfl, rfl⟩


theorem cellsB : Tryz.prog.cellsOf 5 = 1 := by kernel_rfl

theorem fr_freeze {w : World} {f : List Nat} (g n : Nat) (hg : g ∈ f) : Fr w f (w.drew.freeze ⟨g, 0, none⟩ n) := by
  have h : Fr w.drew f (w.drew.freeze ⟨g, 0, none⟩ n) := by
    unfold World.freeze
    split
    · exact Fr.refl _ _
    · exact ⟨rfl, rfl, rfl, by simp, fun k hk hn => by
        simp only [Array.getElem?_modify]
        rw [if_neg (fun e => hn (by rw [← e]; exact hg))]⟩
  exact ⟨h.os, h.tape, h.output, h.size, h.block⟩

set_option maxHeartbeats 2000000 in
set_option maxRecDepth 100000 in
theorem bld_str (b : Nat) (l : List UInt8) (w : World) (f : List Nat) (h : BldAt 129 5 b l w f) (h0 : l ≠ []) :
    Calls Tryz.prog 117 #[.pointer (some ⟨b, 0, none⟩)] w fun e w' => e = .returned (.string ⟨l.toArray⟩) ∧ Fr w f w' := by
  obtain ⟨p, v, _, hbk, hown, hne, hf⟩ := h
  have hl0 : l.length ≠ 0 := by simpa using h0
  obtain ⟨g, cap, cur, rfl, hbg, hg, hnc, hcm, hcs, htake⟩ : ∃ g cap cur, v = .slice (some ⟨g, 0, none⟩) l.length cap ∧ 0 ≤ g ∧ w.heap[g]? = some (.cells cur 5 (0, 0)) ∧ l.length ≤ cap ∧ cap ≤ maxLen ∧ cur.size = cap * 1 ∧ cur.toList.take (l.length * 1) = l.map fun x => Value.int .u8 x.toNat := by
    rcases hown.2 with ⟨_, hz⟩ | ⟨g, cap, cur, hv, r⟩
    · exact absurd hz hl0
    · exact ⟨g, cap, cur, hv, r⟩
  have c1 : w.drew.cell? ⟨b, 1, none⟩ = some (.slice (some ⟨g, 0, none⟩) l.length cap) := by
    have : w.drew.heap[b]? = some (.cells #[p, .slice (some ⟨g, 0, none⟩) l.length cap] 129 (0, 0)) := hbk
    simp [World.cell?, this]
  have hSD : (Builtin.unsafeSliceData_ #[50] 165 #[.slice (some ⟨g, 0, none⟩) l.length cap]).run Tryz.prog w.drew = .ok (.pointer (some ⟨g, 0, none⟩)) w.drew :=
    Lib.run_unsafeSliceData_row _ _ _ _ _ _ (by omega)
  have hUS : (Builtin.unsafeString_ #[165, 3] 9 #[.pointer (some ⟨g, 0, none⟩), .int .i64 l.length]).run Tryz.prog w.drew = .ok (.string ⟨l.toArray⟩) (w.drew.freeze ⟨g, 0, none⟩ l.length) := by
    refine Lib.run_unsafeString_row w.drew 165 3 9 5 Tryz.underlying165 cellsB g cur.size (by have hg' : w.drew.heap[g]? = some (.cells cur 5 (0, 0)) := hg; simp [World.shape?, hg']) l h0 (by omega) (by unfold maxLen at hcm; omega) ?_
    intro j x hx
    exact hown.cells (g := g) rfl j (.int .u8 x.toNat) (by simp [hx])
  go_enter Tryz.func117, Tryz.ntmps117
  go_wp2
  go_region
  all_goals (go_wp2; go_ret; exact ⟨rfl, fr_freeze g _ (by rw [hf]; simp [Value.ownBlock])⟩)

end Go.Proofs.YtolgjekokdimoaaGreatDoor
end

section
namespace Go.Proofs.YtolgjekokdimoaaGreatDoor
variable [LaidG]
open Go.Lib Go.RowKit
set_option linter.unusedVariables false

section
variable {P : Program} {w : World}

theorem app_rows (t ty e : TypeId) (i : TypeInfo) (ht : P.underlying t = some (.slice e)) (hi : P.info? e = some i) (hz : i.zero = some (.int .u8 0)) (hsize : i.size = 1) (hby : i.bytes = 1)
    (v : Value) (n : Nat) (xs : List Value) (hown : w.ownsRow 0 e 1 v n xs) (ad : Addr) (ys : List Value) (hnews : ∀ (j : Nat) (u : Value), ys[j]? = some u → w.cell? (ad.add j) = some u) (hone : ∀ u ∈ ys, u.oneCell' = true) (hpos : 0 < ys.length) (hbytes : n + ys.length ≤ 140737488355328) :
    ∃ v' w', (Builtin.append_ #[t, t] ty #[v, .slice (some ad) ys.length ys.length]).run P w = .ok v' w' ∧ w'.ownsRow 0 e 1 v' (n + ys.length) (xs ++ ys) ∧ w.grownBy w' v.ownBlock ∧ (v'.ownBlock = v.ownBlock ∨ v'.ownBlock = some w.heap.size) := by
  obtain ⟨v', w', hr, h2, h3, h4⟩ := run_append_own (P := P) w 0 t ty e i (.int .u8 0) 1 1 ht hi hz hsize hby rfl (by decide) v n xs hown ad ys.length ys.length ys (Nat.mul_one _).symm hnews hone (by unfold maxLen; omega) (by omega) (Nat.zero_le _)
  refine ⟨v', w', hr, h2, h3, ?_⟩
  have hxl : xs.length = n := by simpa using hown.1
  have hown' := hown
  rcases hown.2 with ⟨rfl, rfl⟩ | ⟨g, cap, cur, rfl, _, hg, hnc, hcm, hcs, htake⟩
  · have h5 := run_append_nil (P := P) w t ty e i (.int .u8 0) ht hi hz ad ys.length ys.length ys (by rw [hsize]; simp) hnews (by omega) (by omega) (by rw [hby]; omega)
    rw [h5] at hr; cases hr; exact .inr rfl
  · by_cases hroom : n + ys.length ≤ cap
    · have h5 := run_append_room (P := P) w t ty e i ht hi g n cap cur hg ad ys.length ys.length ys (by rw [hsize]; simp) hnews hone hroom (by rw [hsize, Nat.mul_one]; rw [Nat.mul_one] at hcs; omega)
      rw [h5] at hr; cases hr; exact .inl rfl
    · have h5 := run_append_grow (P := P) w t ty e i (.int .u8 0) ht hi hz ⟨g, 0, none⟩ n cap xs (by rw [hsize]; simpa using hxl) (hown'.cells (g := g) rfl) ad ys.length ys.length ys (by rw [hsize]; simp) hnews (by omega) (by omega) (by rw [hby]; exact growslice_fits (by omega) (by omega))
      rw [h5] at hr; cases hr; exact .inr rfl

theorem wpList_app_rows {ops : Array Oper} {rest : List Oper} {o : Oper} {a : Act} {Q : Exit → Act → World → Prop} (hgd : o.guard = none) (sl x : Operand) (t : TypeId)
    (ho : o.op = .call { callee := .builtin .append, args := #[sl, x], argTypes := #[t, t] })
    (e : TypeId) (i : TypeInfo) (ht : P.underlying t = some (.slice e)) (hi : P.info? e = some i) (hz : i.zero = some (.int .u8 0)) (hsize : i.size = 1) (hby : i.bytes = 1)
    (v : Value) (n : Nat) (xs : List Value) (hs : a.eval sl = v) (hown : w.ownsRow 0 e 1 v n xs) (ad : Addr) (ys : List Value) (hx : a.eval x = .slice (some ad) ys.length ys.length) (hnews : ∀ (j : Nat) (u : Value), ys[j]? = some u → w.cell? (ad.add j) = some u) (hone : ∀ u ∈ ys, u.oneCell' = true) (hpos : 0 < ys.length) (hbytes : n + ys.length ≤ 140737488355328)
    (h : ∀ v' w', w'.ownsRow 0 e 1 v' (n + ys.length) (xs ++ ys) → w.grownBy w' v.ownBlock → (v'.ownBlock = v.ownBlock ∨ v'.ownBlock = some w.heap.size) → wpList P ops Q rest (a.put o.dst v') w') : wpList P ops Q (o :: rest) a w := by
  refine wpList_plain hgd fun K hK => ?_
  obtain ⟨v', w', hr, h2, h3, h4⟩ := app_rows (P := P) t o.type e i ht hi hz hsize hby v n xs hown ad ys hnews hone hpos hbytes
  unfold Oper.wp execOp
  simp only [ho, resolve, invoke, builtin, Sem.run_bind, Sem.run_pure, Result.andThen_ok, List.map_toArray, List.map_cons, List.map_nil, hs, hx, hr]
  exact hK _ _ (h v' w' h2 h3 h4)
end

/-- The bytes of a rune's encoding. -/
def runeL (r : Int) : List Int :=
  if r < 128 then [r] else if r < 2048 then [192 + r / 64, 128 + r % 64] else if r < 65536 then [224 + r / 4096, 128 + r / 64 % 64, 128 + r % 64]
  else [240 + r / 262144, 128 + r / 4096 % 64, 128 + r / 64 % 64, 128 + r % 64]

/-- A row of bytes grew by some. -/
def Grew (w : World) (v : Value) (n : Nat) (xs : List Value) (ys : List Int) (v' : Value) (w' : World) : Prop :=
  w'.ownsRow 0 5 1 v' (n + ys.length) (xs ++ ys.map fun z => Value.int .u8 z) ∧ Fr w v.ownBlock.toList w' ∧ ∀ k, v'.ownBlock = some k → v.ownBlock = some k ∨ w.heap.size ≤ k

theorem alloc_size (w : World) (o : Obj) : (w.alloc o).heap.size = w.heap.size + 1 := Array.size_push _

theorem Grew.mk' {w w2 : World} {v v' : Value} {n : Nat} {xs : List Value} {ys : List Int} {o : Obj} (h1 : w2.ownsRow 0 5 1 v' (n + ys.length) (xs ++ ys.map fun z => Value.int .u8 z)) (h2 : (w.alloc o).grownBy w2 v.ownBlock) (h3 : v'.ownBlock = v.ownBlock ∨ v'.ownBlock = some (w.alloc o).heap.size) : Grew w v n xs ys v' w2 := by
  refine ⟨h1, (Fr.alloc (Fr.refl w []) o).trans (grown_fr h2) (fun x hx => by cases hx) (fun x hx => .inl hx), fun k hk => ?_⟩
  rcases h3 with h3 | h3
  · exact .inl (h3.symm.trans hk)
  · rw [h3] at hk; cases hk
    right; show _ ≤ (w.heap.push o).size; simp

set_option maxHeartbeats 4000000 in
set_option maxRecDepth 100000 in
theorem apr_two (v : Value) (n : Nat) (xs : List Value) (r : Int) (h0 : 128 ≤ r) (h1 : r ≤ 2047) (w : World) (hown : w.ownsRow 0 5 1 v n xs) (hlen : n + 4 ≤ 140737488355328) :
    Calls Tryz.prog 168 #[v, .int .i32 r] w fun e w' => ∃ v', e = .returned v' ∧ Grew w v n xs [192 + r / 64, 128 + r % 64] v' w' := by
  obtain ⟨i0, hi, hz0, hz1, hz2⟩ := info_parts infoB
  go_enter Tryz.func168, Tryz.ntmps168
  go_wp2_with (at_builtin; refine wpList_app_rows rfl _ _ 50 rfl 5 i0 Tryz.underlying50 hi hz0 hz1 hz2 _ _ _ rfl (hown.alloc _) ⟨w.heap.size, 0, none⟩ [.int .u8 (192 + r / 64), .int .u8 (128 + r % 64)] rfl ?c1 ?c2 (by simp) ?c4 ?_)
  case c1 =>
    intro j u hj
    match j, hj with
    | 0, hj => simp at hj; subst hj; simp [Addr.add]
    | 1, hj => simp at hj; subst hj; simp [Addr.add]
    | (j + 2), hj => simp at hj
  case c2 => intro u hu; simp at hu; rcases hu with rfl | rfl <;> rfl
  case c4 => simp; omega
  intro v' w2 hown' hgrow hb
  go_wp2
  go_ret
  exact ⟨v', rfl, Grew.mk' hown' hgrow (hb.imp id fun h => h.trans (congrArg some (alloc_size w _).symm))⟩

set_option maxHeartbeats 4000000 in
set_option maxRecDepth 100000 in
theorem apr_three_lo (v : Value) (n : Nat) (xs : List Value) (r : Int) (h0 : 2048 ≤ r) (h1 : r < 55296) (w : World) (hown : w.ownsRow 0 5 1 v n xs) (hlen : n + 4 ≤ 140737488355328) :
    Calls Tryz.prog 168 #[v, .int .i32 r] w fun e w' => ∃ v', e = .returned v' ∧ Grew w v n xs [224 + r / 4096, 128 + r / 64 % 64, 128 + r % 64] v' w' := by
  obtain ⟨i0, hi, hz0, hz1, hz2⟩ := info_parts infoB
  go_enter Tryz.func168, Tryz.ntmps168
  go_wp2_with (at_builtin; refine wpList_app_rows rfl _ _ 50 rfl 5 i0 Tryz.underlying50 hi hz0 hz1 hz2 _ _ _ rfl (hown.alloc _) ⟨w.heap.size, 0, none⟩ [.int .u8 (224 + r / 4096), .int .u8 (128 + r / 64 % 64), .int .u8 (128 + r % 64)] rfl ?c1 ?c2 (by simp) ?c4 ?_)
  case c1 =>
    intro j u hj
    match j, hj with
    | 0, hj => simp at hj; subst hj; simp [Addr.add]
    | 1, hj => simp at hj; subst hj; simp [Addr.add]
    | 2, hj => simp at hj; subst hj; simp [Addr.add]
    | (j + 3), hj => simp at hj
  case c2 => intro u hu; simp at hu; rcases hu with rfl | rfl | rfl <;> rfl
  case c4 => simp; omega
  intro v' w2 hown' hgrow hb
  go_wp2
  go_ret
  exact ⟨v', rfl, Grew.mk' hown' hgrow (hb.imp id fun h => h.trans (congrArg some (alloc_size w _).symm))⟩

set_option maxHeartbeats 4000000 in
set_option maxRecDepth 100000 in
theorem apr_three_hi (v : Value) (n : Nat) (xs : List Value) (r : Int) (h0 : 57343 < r) (h1 : r ≤ 65535) (w : World) (hown : w.ownsRow 0 5 1 v n xs) (hlen : n + 4 ≤ 140737488355328) :
    Calls Tryz.prog 168 #[v, .int .i32 r] w fun e w' => ∃ v', e = .returned v' ∧ Grew w v n xs [224 + r / 4096, 128 + r / 64 % 64, 128 + r % 64] v' w' := by
  obtain ⟨i0, hi, hz0, hz1, hz2⟩ := info_parts infoB
  go_enter Tryz.func168, Tryz.ntmps168
  go_wp2_with (at_builtin; refine wpList_app_rows rfl _ _ 50 rfl 5 i0 Tryz.underlying50 hi hz0 hz1 hz2 _ _ _ rfl (hown.alloc _) ⟨w.heap.size, 0, none⟩ [.int .u8 (224 + r / 4096), .int .u8 (128 + r / 64 % 64), .int .u8 (128 + r % 64)] rfl ?c1 ?c2 (by simp) ?c4 ?_)
  case c1 =>
    intro j u hj
    match j, hj with
    | 0, hj => simp at hj; subst hj; simp [Addr.add]
    | 1, hj => simp at hj; subst hj; simp [Addr.add]
    | 2, hj => simp at hj; subst hj; simp [Addr.add]
    | (j + 3), hj => simp at hj
  case c2 => intro u hu; simp at hu; rcases hu with rfl | rfl | rfl <;> rfl
  case c4 => simp; omega
  intro v' w2 hown' hgrow hb
  go_wp2
  go_ret
  exact ⟨v', rfl, Grew.mk' hown' hgrow (hb.imp id fun h => h.trans (congrArg some (alloc_size w _).symm))⟩

set_option maxHeartbeats 4000000 in
set_option maxRecDepth 100000 in
theorem apr_four (v : Value) (n : Nat) (xs : List Value) (r : Int) (h0 : 65536 ≤ r) (h1 : r ≤ 1114111) (w : World) (hown : w.ownsRow 0 5 1 v n xs) (hlen : n + 4 ≤ 140737488355328) :
    Calls Tryz.prog 168 #[v, .int .i32 r] w fun e w' => ∃ v', e = .returned v' ∧ Grew w v n xs [240 + r / 262144, 128 + r / 4096 % 64, 128 + r / 64 % 64, 128 + r % 64] v' w' := by
  obtain ⟨i0, hi, hz0, hz1, hz2⟩ := info_parts infoB
  go_enter Tryz.func168, Tryz.ntmps168
  go_wp2_with (at_builtin; refine wpList_app_rows rfl _ _ 50 rfl 5 i0 Tryz.underlying50 hi hz0 hz1 hz2 _ _ _ rfl (hown.alloc _) ⟨w.heap.size, 0, none⟩ [.int .u8 (240 + r / 262144), .int .u8 (128 + r / 4096 % 64), .int .u8 (128 + r / 64 % 64), .int .u8 (128 + r % 64)] rfl ?c1 ?c2 (by simp) ?c4 ?_)
  case c1 =>
    intro j u hj
    match j, hj with
    | 0, hj => simp at hj; subst hj; simp [Addr.add]
    | 1, hj => simp at hj; subst hj; simp [Addr.add]
    | 2, hj => simp at hj; subst hj; simp [Addr.add]
    | 3, hj => simp at hj; subst hj; simp [Addr.add]
    | (j + 4), hj => simp at hj
  case c2 => intro u hu; simp at hu; rcases hu with rfl | rfl | rfl | rfl <;> rfl
  case c4 => simp; omega
  intro v' w2 hown' hgrow hb
  go_wp2
  go_ret
  exact ⟨v', rfl, Grew.mk' hown' hgrow (hb.imp id fun h => h.trans (congrArg some (alloc_size w _).symm))⟩

set_option maxHeartbeats 4000000 in
set_option maxRecDepth 100000 in
theorem apr_one (v : Value) (n : Nat) (xs : List Value) (r : Int) (h0 : 0 ≤ r) (h1 : r ≤ 127) (w : World) (hown : w.ownsRow 0 5 1 v n xs) (hlen : n + 4 ≤ 140737488355328) :
    Calls Tryz.prog 142 #[v, .int .i32 r] w fun e w' => ∃ v', e = .returned v' ∧ Grew w v n xs [r] v' w' := by
  obtain ⟨i0, hi, hz0, hz1, hz2⟩ := info_parts infoB
  go_enter Tryz.func142, Tryz.ntmps142
  go_wp2_with (at_builtin; refine wpList_app_rows rfl _ _ 50 rfl 5 i0 Tryz.underlying50 hi hz0 hz1 hz2 _ _ _ rfl (hown.alloc _) ⟨w.heap.size, 0, none⟩ [.int .u8 (r)] rfl ?c1 ?c2 (by simp) ?c4 ?_)
  case c1 =>
    intro j u hj
    match j, hj with
    | 0, hj => simp at hj; subst hj; simp [Addr.add]
    | (j + 1), hj => simp at hj
  case c2 => intro u hu; simp at hu; subst hu; rfl
  case c4 => simp; omega
  intro v' w2 hown' hgrow hb
  go_wp2
  go_ret
  exact ⟨v', rfl, Grew.mk' hown' hgrow (hb.imp id fun h => h.trans (congrArg some (alloc_size w _).symm))⟩

set_option maxHeartbeats 4000000 in
set_option maxRecDepth 100000 in
theorem apr_any (v : Value) (n : Nat) (xs : List Value) (r : Int) (h0 : 0 ≤ r) (h1 : r ≤ 1114111) (hs : r < 55296 ∨ 57343 < r) (w : World) (hown : w.ownsRow 0 5 1 v n xs) (hlen : n + 4 ≤ 140737488355328) :
    Calls Tryz.prog 142 #[v, .int .i32 r] w fun e w' => ∃ v', e = .returned v' ∧ Grew w v n xs (runeL r) v' w' := by
  by_cases h2 : r < 128
  · rw [runeL, if_pos h2]
    exact apr_one v n xs r h0 (by omega) w hown hlen
  have key : Calls Tryz.prog 168 #[v, .int .i32 r] w fun e w' => ∃ v', e = .returned v' ∧ Grew w v n xs (runeL r) v' w' := by
    rw [runeL, if_neg h2]
    by_cases h3 : r < 2048
    · rw [if_pos h3]; exact apr_two v n xs r (by omega) (by omega) w hown hlen
    rw [if_neg h3]
    by_cases h4 : r < 65536
    · rw [if_pos h4]
      rcases hs with hs | hs
      · exact apr_three_lo v n xs r (by omega) hs w hown hlen
      · exact apr_three_hi v n xs r hs (by omega) w hown hlen
    · rw [if_neg h4]; exact apr_four v n xs r (by omega) (by omega) w hown hlen
  have h9 : 128 ≤ r := by omega
  clear h2
  generalize runeL r = L at *
  go_enter Tryz.func142, Tryz.ntmps142
  go_wp2_with (go_at_call 168; refine key.mono ?_)
  rintro e w1 ⟨v', rfl, hG⟩
  go_wp2
  go_ret
  exact ⟨v', rfl, hG⟩

theorem runeL_byte {r : Int} (h0 : 0 ≤ r) (h1 : r ≤ 1114111) : ∀ z ∈ runeL r, 0 ≤ z ∧ z < 256 := by
  intro z hz
  unfold runeL at hz
  split at hz
  · simp only [List.mem_singleton] at hz; omega
  · split at hz
    · simp only [List.mem_cons, List.not_mem_nil, or_false] at hz; omega
    · split at hz
      · simp only [List.mem_cons, List.not_mem_nil, or_false] at hz; omega
      · simp only [List.mem_cons, List.not_mem_nil, or_false] at hz; omega

theorem bld_put' {T b : Nat} {v v' : Value} {l' : List UInt8} {w w1 w2 : World} {f : List Nat} (hT : T ≠ 5) (h1 : Fr w [b] w1) (hbw : b < w.heap.size) (hb : w1.heap[b]? = some (.cells #[.pointer (some ⟨b, 0, none⟩), v] T (0, 0))) (hne : v.ownBlock ≠ some b) (hf : f = b :: v.ownBlock.toList)
    (hown : w2.ownsRow 0 5 1 v' l'.length (l'.map fun x => Value.int .u8 x.toNat)) (hg : Fr w1 v.ownBlock.toList w2) (ho : ∀ k, v'.ownBlock = some k → v.ownBlock = some k ∨ w1.heap.size ≤ k) :
    ∃ f', BldAt T 5 b l' (w2.setCell ⟨b, 1, none⟩ v') f' ∧ Fr w f (w2.setCell ⟨b, 1, none⟩ v') ∧ ∀ x ∈ f', x ∈ f ∨ w.heap.size ≤ x := by
  have hb2 : w2.heap[b]? = some (.cells #[.pointer (some ⟨b, 0, none⟩), v] T (0, 0)) := by
    rw [hg.block b (Array.getElem?_eq_some_iff.1 hb).1 (fun e => hne (by simpa using e))]; exact hb
  have hne' := ownBlock_ne hown hb2 hT
  have hfr2 : Fr w2 [b] (w2.setCell ⟨b, 1, none⟩ v') := ⟨rfl, rfl, rfl, by simp [World.setCell], fun k hk hn => Below.heap_setCell _ _ _ _ (fun e => hn (by simp [e]))⟩
  refine ⟨b :: v'.ownBlock.toList, ⟨_, v', .inr rfl, ?_, ?_, hne', rfl⟩, ?_, ?_⟩
  · simp [World.setCell, Array.getElem?_modify, hb2]
  · exact hown.kept (row := some b) ⟨rfl, rfl, rfl, by simp [World.setCell], fun k _ hk => Below.heap_setCell _ _ _ _ (fun e => hk (by simp [e]))⟩ (Or.inr hne')
  · subst hf
    refine ((h1.trans hg (Z := b :: v.ownBlock.toList) (fun x hx => by simp at hx; simp [hx]) (fun x hx => .inl (by simp at hx ⊢; exact .inr hx))).trans hfr2 (fun x hx => hx) (fun x hx => .inl (by simp at hx; simp [hx])))
  · intro x hx
    subst hf
    simp only [List.mem_cons, Option.mem_toList] at hx ⊢
    rcases hx with rfl | hx
    · exact .inl (.inl rfl)
    · rcases ho x hx with h | h
      · exact .inl (.inr h)
      · right; have := h1.size; omega

set_option maxHeartbeats 4000000 in
set_option maxRecDepth 100000 in
theorem bld_wr (b : Nat) (l : List UInt8) (r : Int) (h0 : 0 ≤ r) (h1 : r ≤ 1114111) (hs : r < 55296 ∨ 57343 < r) (w : World) (f : List Nat) (h : BldAt 129 5 b l w f) (hlen : l.length + 4 ≤ 140737488355328) :
    Calls Tryz.prog 114 #[.pointer (some ⟨b, 0, none⟩), .int .i32 r] w fun e w' => (∃ v, e = .returned v) ∧ ∃ f', BldAt 129 5 b (l ++ (runeL r).map fun z => UInt8.ofNat z.toNat) w' f' ∧ Fr w f w' ∧ ∀ x ∈ f', x ∈ f ∨ w.heap.size ≤ x := by
  have hbw : b < w.heap.size := by
    obtain ⟨p, v, _, hb, _⟩ := h
    exact (Array.getElem?_eq_some_iff.1 hb).1
  have hrow : ∀ v, f = b :: v → ∀ k ∈ v, k < w.heap.size := by
    obtain ⟨p, v, _, hb, hown, _, hf⟩ := h
    intro v' hv' k hk
    rw [hf] at hv'; cases hv'
    exact (hown.lt k (by simpa using hk)).2
  go_enter Tryz.func114, Tryz.ntmps114
  go_wp2_with (go_at_call 141; refine (bld_check b l _ f h).mono ?_)
  rintro e w0 ⟨rfl, hU, hF0⟩
  obtain ⟨v, hbk, hown, hne, hf⟩ := hU
  obtain ⟨ao, cap, rfl⟩ : ∃ ao cap, v = .slice ao l.length cap := by
    rcases hown.2 with ⟨hv, h0⟩ | ⟨g, cap, cur, hv, _⟩
    · exact ⟨none, 0, by rw [hv, h0]⟩
    · exact ⟨_, _, hv⟩
  have c0 : w0.cell? ⟨b, 0, none⟩ = some (.pointer (some ⟨b, 0, none⟩)) := by simp [World.cell?, hbk]
  have c1 : w0.cell? ⟨b, 1, none⟩ = some (.slice ao l.length cap) := by simp [World.cell?, hbk]
  go_wp2_with (go_at_call 142; refine (apr_any _ _ _ r h0 h1 hs _ hown hlen).mono ?_)
  rintro e w2 ⟨v', rfl, hG⟩
  obtain ⟨hown', hFr, hbl⟩ := hG
  have hL : (l.length + (runeL r).length) = (l ++ (runeL r).map fun z => UInt8.ofNat z.toNat).length := by simp
  have hM : (l.map (fun x => Value.int .u8 x.toNat) ++ (runeL r).map fun z => Value.int .u8 z) = (l ++ (runeL r).map fun z => UInt8.ofNat z.toNat).map fun x => Value.int .u8 x.toNat := by
    rw [List.map_append, List.map_map]
    congr 1
    refine List.map_congr_left fun z hz => ?_
    obtain ⟨g1, g2⟩ := runeL_byte h0 h1 z hz
    have : ((UInt8.ofNat z.toNat).toNat : Int) = z := by rw [UInt8.toNat_ofNat', Nat.mod_eq_of_lt (by omega)]; omega
    simp only [Function.comp, this]
  rw [hL, hM] at hown'
  have hb2 : w2.heap[b]? = some (.cells #[.pointer (some ⟨b, 0, none⟩), .slice ao l.length cap] 129 (0, 0)) := by
    rw [hFr.block b (Array.getElem?_eq_some_iff.1 hbk).1 (fun e => hne (by simpa using e))]
    exact hbk
  have d0 : w2.cell? ⟨b, 0, none⟩ = some (.pointer (some ⟨b, 0, none⟩)) := by simp [World.cell?, hb2]
  have d1 : w2.cell? ⟨b, 1, none⟩ = some (.slice ao l.length cap) := by simp [World.cell?, hb2]
  have f1 : w2.frozen? ⟨b, 1, none⟩ = false := by simp [World.frozen?, hb2]
  have hfin := bld_put' (by decide) hF0 hbw hbk hne hf hown' hFr hbl
  obtain ⟨ao', n', cap', rfl⟩ : ∃ ao n' cap, v' = .slice ao n' cap := by
    rcases hown'.2 with ⟨hv, _⟩ | ⟨g, cap, cur, hv, _⟩
    · exact ⟨_, _, _, hv⟩
    · exact ⟨_, _, _, hv⟩
  go_wp2
  go_ret2
  exact ⟨⟨_, rfl⟩, hfin⟩

end Go.Proofs.YtolgjekokdimoaaGreatDoor
end

section
namespace Go.Proofs.YtolgjekokdimoaaGreatDoor
variable [LaidG]
set_option linter.unusedVariables false
set_option maxRecDepth 100000

/-- A slot of which nothing is said. -/
def freeD (N : Nat) (S : St) : Option Nat → Prop
  | none => True
  | some t => t < N ∧ (lk S.Lp t).isNone = true ∧ (lk S.Lt t).isNone = true

def bfWS : Option Nat := some 187
def bfWB : Option Nat := none
def bfWR : Option Nat := some 114
def bfLen : Option Nat := some 188
/-- A rune's bytes. -/
def runeB (n : Int) : List UInt8 := (runeL n).map fun z => UInt8.ofNat z.toNat

/-- What a builder's operation makes of a state. -/
def bRes (N : Nat) (keep : List Nat) (S : St) (o : Oper) (K : St → Prop) : Prop :=
  match o.op with
  | .alloc t => t = 129 ∧ o.guard = none ∧ dstOk N keep true o.dst ∧ K (putS keep S true o.dst ⟨True, True, .ptr S.n 0, (S.n, .bld 129 5 []) :: S.A, S.n + 1⟩)
  | .call c => (match c.callee, c.args.toList with
    | .value f, [x, y] => (match S.ev f, S.ev x, S.ev y with
      | some (true, .fn g []), some (true, .ptr h 0), some (true, .str s) => (match lk S.A h with
        | some (.bld T 5 l) => bfWS = some g ∧ T = 129 ∧ l.length + s.length ≤ LIM ∧ o.guard = none ∧ freeD N S o.dst ∧ K { S with A := set1 (strike [h] S.A) h (.bld T 5 (l ++ s)) }
        | _ => False)
      | some (true, .fn g []), some (true, .ptr h 0), some (true, .int .u8 n) => (match lk S.A h with
        | some (.bld T 5 l) => bfWB = some g ∧ T = 129 ∧ l.length + 1 ≤ LIM ∧ o.guard = none ∧ freeD N S o.dst ∧ K { S with A := set1 (strike [h] S.A) h (.bld T 5 (l ++ [UInt8.ofNat n.toNat])) }
        | _ => False)
      | some (true, .fn g []), some (true, .ptr h 0), some (true, .int .i32 n) => (match lk S.A h with
        | some (.bld T 5 l) => bfWR = some g ∧ T = 129 ∧ (0 ≤ n ∧ n ≤ 1114111 ∧ (n < 55296 ∨ 57343 < n)) ∧ l.length + 4 ≤ LIM ∧ o.guard = none ∧ freeD N S o.dst ∧ K { S with A := set1 (strike [h] S.A) h (.bld T 5 (l ++ runeB n)) }
        | _ => False)
      | _, _, _ => False)
    | .value f, [x] => (match S.ev f, S.ev x with
      | some (true, .fn g []), some (true, .ptr h 0) => (match lk S.A h with
        | some (.bld T 5 l) => T = 129 ∧ o.guard = none ∧ dstOk N keep true o.dst ∧
          ((bfLen = some g ∧ K (putS keep S true o.dst ⟨True, True, .int .i64 l.length, S.A, S.n⟩)) ∨
           (g = 117 ∧ l ≠ [] ∧ l.length ≤ LIM ∧ K (putS keep S true o.dst ⟨True, True, .str l, strike [h] S.A, S.n⟩)))
        | _ => False)
      | _, _ => False)
    | _, _ => False)
  | _ => False

structure BRules (N : Nat) (keep : List Nat) (W : List KI → St → Prop) : Prop where
  bld : ∀ (all l : List Oper) (o : Oper) (k : List KI) (S : St), bRes N keep S o (fun S' => W (.run all l :: k) S') → W (.run all (o :: l) :: k) S

section
variable {C : Cx} {S : St} {a : Act} {w w' : World} {o : Oper} {all l : List Oper} {k : List KI}

theorem at_drop {β : Nat → GV} {ϕ ϕ' : Nat → List Nat} {A' : Hp} {v : Value} (kp : Kp C.keep S) (hn : C.n0 ≤ S.n) (sat : Sat C.N C.w0 C.X C.F S β ϕ a w) (h0 : ∀ h, h < C.n0 → β h = C.β0 h)
    (hd : freeD C.N S o.dst) (hp : Holds C.w0.heap.size C.X C.F A' β ϕ' w') (hb : Bd S.n β A') (hf : Fr C.w0 C.X w') : At C { S with A := A' } (a.put o.dst v) w' := by
  cases hdst : o.dst with
  | none => exact ⟨kp, hn, β, ϕ', ⟨sat.df, sat.sz, sat.lp, sat.lt, hp, hb, hf, sat.gl⟩, h0⟩
  | some d =>
    rw [hdst] at hd
    obtain ⟨_, hd1, hd2⟩ := hd
    have hoth : ∀ t, d ≠ t → (a.put (some d) v).tmps[t]? = a.tmps[t]? := fun t ht => by
      simp only [Act.put]; exact Array.getElem?_setIfInBounds_ne ht
    refine ⟨kp, hn, β, ϕ', ⟨sat.df, by simp only [Act.put, Array.size_setIfInBounds]; exact sat.sz, ?_, ?_, hp, hb, hf, sat.gl⟩, h0⟩
    · intro t x ht
      have : d ≠ t := fun e => by subst e; rw [ht] at hd1; cases hd1
      rw [hoth t this]; exact sat.lp t x ht
    · intro t g x ht
      have : d ≠ t := fun e => by subst e; rw [ht] at hd2; cases hd2
      rw [hoth t this]; exact sat.lt t g x ht

/-- A builder's contents are changed. -/
theorem bld_redo {β : Nat → GV} {ϕ : Nat → List Nat} {N : Nat} {w0 : World} {X F : List Nat} {S : St} {h T e b : Nat} {l l' : List UInt8} {f' : List Nat} (sat : Sat N w0 X F S β ϕ a w) (hl : lk S.A h = some (.bld T e l)) (hv : (β h).v = .pointer (some ⟨b, 0, none⟩))
    (hB : BldAt T e b l' w' f') (hF : Fr w (ϕ h) w') (hf : ∀ x ∈ f', x ∈ ϕ h ∨ w.heap.size ≤ x) :
    ∃ ϕ', Holds w0.heap.size X F (set1 (strike [h] S.A) h (.bld T e l')) β ϕ' w' ∧ Bd S.n β (set1 (strike [h] S.A) h (.bld T e l')) ∧ Fr w0 X w' := by
  have hown : ∀ b ∈ ϕ h, b ∈ X ∨ w0.heap.size ≤ b := fun b hb => sat.hp.own h _ hl b hb
  have hall : ∀ b ∈ ϕ h, b ∈ F ∨ w0.heap.size ≤ b := fun b hb => sat.hp.all h _ hl trivial b hb
  have hfr : Fr w0 X w' := sat.fr.trans hF (fun x hx => hx) (fun b hb => hown b hb)
  have hst := sat.hp.struck [h]
  have hap : Apart (strike [h] S.A) ϕ (ϕ h) := strike_apart sat.hp fun b hb => ⟨h, by simp, _, hl, hb⟩
  have hst' : Holds w0.heap.size X F (strike [h] S.A) β ϕ w' := hst.world fun i hl hi hd b hb => hF.block b (hst.inb hi hd b hb) (hap i hl hi hd b hb)
  have hap2 : Apart (strike [h] S.A) ϕ f' := by
    intro i hl hi hd b hb hm
    rcases hf b hm with h1 | h1
    · exact hap i hl hi hd b hb h1
    · have := hst.inb hi hd b hb; omega
  have hge : ∀ b ∈ f', (b ∈ X ∨ w0.heap.size ≤ b) ∧ (b ∈ F ∨ w0.heap.size ≤ b) := by
    intro b hb
    rcases hf b hb with h1 | h1
    · exact ⟨hown b h1, hall b h1⟩
    · exact ⟨.inr (Nat.le_trans sat.fr.size h1), .inr (Nat.le_trans sat.fr.size h1)⟩
  have hput := hst'.put (A' := set1 (strike [h] S.A) h (.bld T e l')) (n := h) (hl0 := .bld T e l') (f := f') (fun j => lk_set1' _ _ _) (fun hl' hi => strike_dead (by simp) hi)
    ⟨b, hv, hB⟩ (fun c hc => (hge c hc).1) (fun _ c hc => (hge c hc).2) trivial hap2
    (fun i hl' hi _ c hc hm => by
      by_cases hdd : hl' = .dead
      · subst hdd; simp [owned] at hc
      · exact hap2 i hl' hi hdd c (owned_sub c hc) hm) trivial (fun _ _ _ e => by cases e) (by simp [roots])
  exact ⟨_, hput, bd_put (strike_bd sat.hb [h]) (fun j => lk_set1' _ _ _) (sat.hb _ _ hl).1 trivial, hfr⟩

set_option maxHeartbeats 1000000 in
theorem brules_wp (hC : C.Ok) (hP : C.P = Tryz.prog) : BRules C.N C.keep (WP C) := by
  refine ⟨fun all l o k S h a w hat => ?_⟩
  obtain ⟨kp, hn, β, ϕ, sat, h0⟩ := hat
  show wpList C.P all.toArray (xt C k) (o :: l) a w
  unfold wpList
  unfold bRes at h
  have hgd : o.guard = none → Region.wanted o (yielded all.toArray a.tmps) = true := fun hg => guard_sound (g := true) (by rw [hg]; rfl) sat
  have call : ∀ {c : Call} {f : Operand} {g : Nat} {vs : List SV} {fn : Func} {Q' : Value → World → Prop} {h : Nat} (ho : o.op = .call c) (hc : c.callee = .value f) (hf : S.ev f = some (true, .fn g [])) (hvs : c.args.toList.map a.eval = SV.vals β vs) (hfn : C.P.funcs[g]? = some fn) (hbd : fn.body.isNone = false) (hnm : (fn.name == "runtime.NumGoroutine") = false)
      (hcall : Calls C.P g (SV.vals β vs).toArray w fun e w' => ∃ v, e = .returned v ∧ Q' v w') (next : Act → World → Prop) (Q : Exit → Act → World → Prop), (∀ v w', Q' v w' → next (a.put o.dst v) w') → o.wp C.P a w next Q := by
    intro c f g vs fn Q' _ ho hc hf hvs hfn hbd hnm hcall next Q hnext
    obtain ⟨_, f2⟩ := ev_sound hf sat
    obtain ⟨f3, _⟩ := f2 rfl
    have hrun := call_enter (P := C.P) (w := w) (ob := True) ho hc f3 hvs hfn hbd hnm
    rw [List.append_nil] at hrun
    unfold Oper.wp
    rw [hrun, Oper.upon_enter]
    refine hcall.mono fun e w' he => ?_
    obtain ⟨v, rfl, hq⟩ := he
    exact hnext v w' hq
  have ptr : ∀ {h T : Nat} {l : List UInt8}, lk S.A h = some (.bld T 5 l) → ∃ b, (β h).v = .pointer (some ⟨b, 0, none⟩) ∧ BldAt T 5 b l w (ϕ h) ∧ SV.val β (.ptr h 0) = .pointer (some ⟨b, 0, none⟩) := by
    intro h T l hl
    obtain ⟨b, h1, h2⟩ := sat.hp.sat _ _ hl
    exact ⟨b, h1, h2, by simp [SV.val, h1]⟩
  split at h
  · rename_i t ho
    obtain ⟨rfl, hg, hd, hk⟩ := h
    rw [if_pos (hgd hg)]
    have hz := Tryz.zeroValue129 w
    have hadd := sat.hp.addNew (n := S.n) (hl0 := .bld 129 5 []) (g := ⟨.pointer (some ⟨w.heap.size, 0, none⟩), [], []⟩) (f := [w.heap.size]) (w' := w.alloc (.cells #[.pointer none, .slice none 0 0] 129)) sat.hb sat.fr (fun b hb => alloc_old w _ hb) rfl
      ⟨w.heap.size, rfl, .pointer none, .slice none 0 0, .inl rfl, heap_alloc_new w _, World.ownsRow_nil _ _ _ _, by simp [Value.ownBlock], by simp [Value.ownBlock]⟩ (by simp) trivial rfl trivial
    refine .inl (Runs.wp (.inl ?_) (hk _ _ (at_taken (v := .pointer (some ⟨w.heap.size, 0, none⟩)) kp hn sat h0 hd ⟨fun _ => ?_, fun h hh => upd_lt _ _ _ hh, hadd, hb_add sat.hb trivial, ?_, ?_, Nat.le_succ _, sat.fr.alloc _⟩)))
    · rw [hP]
      simp only [execOp, ho, Instr.alloc, newVar, newRow, Sem.run_bind, Sem.run_pure, run_newObj, Result.andThen_ok, hz]
      rfl
    · simp [SV.val, upd_eq]
    · show SV.lt _ (SV.ptr _ _)
      simp [SV.lt]
    · exact ⟨w.heap.size, 0, by simp [upd_eq]⟩
  · rename_i c ho
    split at h
    · rename_i f x y hc hargs
      split at h
      · rename_i g i s hf hx hy
        split at h
        · rename_i T l0 hl
          obtain ⟨hgw, rfl, hlen, hg, hd, hk⟩ := h
          cases hgw
          rw [if_pos (hgd hg)]
          obtain ⟨b, hb, hB, hbv⟩ := ptr hl
          obtain ⟨_, x2⟩ := ev_sound hx sat
          obtain ⟨_, y2⟩ := ev_sound hy sat
          refine .inl (call (h := 0) (vs := [.ptr i 0, .str s]) (Q' := fun v w' => ∃ f', BldAt 129 5 b (l0 ++ s) w' f' ∧ Fr w (ϕ i) w' ∧ ∀ x ∈ f', x ∈ ϕ i ∨ w.heap.size ≤ x) ho hc hf ?_ (by rw [hP]; exact Tryz.func187) (by kernel_rfl) (by kernel_rfl) ?_ _ _ fun v w' hq => ?_)
          · rw [hargs]; simp only [List.map_cons, List.map_nil, SV.vals, (x2 rfl).1, (y2 rfl).1]
          · rw [hP]
            simp only [SV.vals, hbv]
            refine (bld_ws b l0 ⟨s.toArray⟩ w (ϕ i) hB (by simpa [ByteArray.size, LIM] using hlen)).mono fun e w' he => ?_
            obtain ⟨rfl, h1⟩ := he
            exact ⟨_, rfl, by simpa using h1⟩
          · obtain ⟨f', q1, q2, q3⟩ := hq
            obtain ⟨ϕ', r1, r2, r3⟩ := bld_redo sat hl hb q1 q2 q3
            exact hk _ _ (at_drop kp hn sat h0 hd r1 r2 r3)
        · exact h.elim
      · rename_i g i n hf hx hy
        split at h
        · rename_i T l0 hl
          exact absurd h.1 (by simp [bfWB])
        · exact h.elim
      · rename_i g i n hf hx hy
        split at h
        · rename_i T l0 hl
          obtain ⟨hgw, rfl, ⟨hr0, hr1, hr2⟩, hlen, hg, hd, hk⟩ := h
          cases hgw
          rw [if_pos (hgd hg)]
          obtain ⟨b, hb, hB, hbv⟩ := ptr hl
          obtain ⟨_, x2⟩ := ev_sound hx sat
          obtain ⟨_, y2⟩ := ev_sound hy sat
          have hw := bld_wr b l0 n hr0 hr1 hr2 w (ϕ i) hB (by simpa [LIM] using hlen)
          refine .inl (call (h := 0) (vs := [.ptr i 0, .int .i32 n]) (Q' := fun v w' => ∃ f', BldAt 129 5 b (l0 ++ runeB n) w' f' ∧ Fr w (ϕ i) w' ∧ ∀ x ∈ f', x ∈ ϕ i ∨ w.heap.size ≤ x) ho hc hf ?_ (by rw [hP]; exact Tryz.func114) (by kernel_rfl) (by kernel_rfl) ?_ _ _ fun v w' hq => ?_)
          · rw [hargs]; simp only [List.map_cons, List.map_nil, SV.vals, (x2 rfl).1, (y2 rfl).1]
          · rw [hP]
            simp only [SV.vals, hbv]
            simp only [SV.val]
            refine hw.mono fun e w' he => ?_
            obtain ⟨⟨v, rfl⟩, h1⟩ := he
            exact ⟨v, rfl, h1⟩
          · obtain ⟨f', q1, q2, q3⟩ := hq
            obtain ⟨ϕ', r1, r2, r3⟩ := bld_redo sat hl hb q1 q2 q3
            exact hk _ _ (at_drop kp hn sat h0 hd r1 r2 r3)
        · exact h.elim
      · exact h.elim
    · rename_i f x hc hargs
      split at h
      · rename_i g i hf hx
        split at h
        · rename_i T l0 hl
          obtain ⟨rfl, hg, hd, h⟩ := h
          rw [if_pos (hgd hg)]
          obtain ⟨b, hb, hB, hbv⟩ := ptr hl
          obtain ⟨_, x2⟩ := ev_sound hx sat
          rcases h with ⟨hgw, hk⟩ | ⟨rfl, hne, hlen, hk⟩
          · cases hgw
            refine .inl (call (h := 0) (vs := [.ptr i 0]) (Q' := fun v w' => v = .int .i64 l0.length ∧ w' = w) ho hc hf ?_ (by rw [hP]; exact Tryz.func188) (by kernel_rfl) (by kernel_rfl) ?_ _ _ fun v w' hq => ?_)
            · rw [hargs]; simp only [List.map_cons, List.map_nil, SV.vals, (x2 rfl).1]
            · rw [hP]
              simp only [SV.vals, hbv]
              refine (bld_len b l0 w (ϕ i) hB).mono fun e w' he => ?_
              obtain ⟨rfl, h1⟩ := he
              exact ⟨_, rfl, rfl, h1⟩
            · obtain ⟨rfl, rfl⟩ := hq
              have hlr : inR .i64 (l0.length : Int) := by
                have h9 : l0.length ≤ maxLen := by
                  obtain ⟨p, v, _, _, ⟨_, h4⟩, _⟩ := hB
                  rcases h4 with ⟨_, h4⟩ | ⟨_, cap, _, _, _, _, h4, h5, _⟩
                  · omega
                  · omega
                rw [inR64]; unfold maxLen at h9; omega
              exact hk _ _ (at_taken kp hn sat h0 hd (post_pure sat trivial hlr))
          · refine .inl (call (h := 0) (vs := [.ptr i 0]) (Q' := fun v w' => v = .string ⟨l0.toArray⟩ ∧ Fr w (ϕ i) w') ho hc hf ?_ (by rw [hP]; exact Tryz.func117) (by kernel_rfl) (by kernel_rfl) ?_ _ _ fun v w' hq => ?_)
            · rw [hargs]; simp only [List.map_cons, List.map_nil, SV.vals, (x2 rfl).1]
            · rw [hP]
              simp only [SV.vals, hbv]
              refine (bld_str b l0 w (ϕ i) hB hne).mono fun e w' he => ?_
              obtain ⟨rfl, h1⟩ := he
              exact ⟨_, rfl, rfl, h1⟩
            · obtain ⟨rfl, hF⟩ := hq
              have hap : Apart (strike [i] S.A) ϕ (ϕ i) := strike_apart sat.hp fun b hb => ⟨i, by simp, _, hl, hb⟩
              have hst := sat.hp.struck [i]
              have hst' : Holds C.w0.heap.size C.X C.F (strike [i] S.A) β ϕ w' := hst.world fun j hl hi hd b hb => hF.block b (hst.inb hi hd b hb) (hap j hl hi hd b hb)
              exact hk _ _ (at_taken kp hn sat h0 hd ⟨fun _ => rfl, fun _ _ => rfl, hst', strike_bd sat.hb [i], trivial, hlen, Nat.le_refl _, sat.fr.trans hF (fun x hx => hx) (fun b hb => sat.hp.own i _ hl b hb)⟩)
        · exact h.elim
      · exact h.elim
    · exact h.elim
  · exact h.elim

end

theorem bG {N : Nat} {keep : List Nat} (C : Cx) (hC : C.Ok) (hP : C.P = Tryz.prog) (hN : C.N = N) (hk : C.keep = keep) : BRules N keep (WP C) := by
  subst hN hk
  exact brules_wp hC hP
end Go.Proofs.YtolgjekokdimoaaGreatDoor
end

