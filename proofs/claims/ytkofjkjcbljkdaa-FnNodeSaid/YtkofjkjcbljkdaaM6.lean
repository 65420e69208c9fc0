/-
  Part 6 of the proof of FnNode: a verification-condition generator over the program and the contracts of its functions, in the order of their use.
  Conditions: none.
-/
import Derived.Test.YtkofjkjcbljkdaaM5
import Derived.Test.YtkofjkjcbljkdaaChecked
import Derived.Lib.Builder
import Derived.Lib.AppendStr
import Derived.Lib.UnsafeStr
import Derived.WalkKit
import Derived.OwnWalk
import Derived.Laws.Externs
import Derived.Lib.RuneBytes
set_option linter.unusedVariables false
set_option linter.unusedSimpArgs false
set_option linter.unusedSectionVars false

section
namespace Go.Proofs.Ytkofjkjcbljkdaa
variable [LaidG]
set_option linter.unusedVariables false

/-- The values in the result variables. -/
def lkAll (E : Env) (S : St) : List ResultVar → Option (List SV)
  | [] => some []
  | .tmp t :: ts => match lk S.Lp t, lkAll E S ts with | some x, some xs => some (x :: xs) | _, _ => none
  | .cell t ty :: ts => match lk S.Lp t, lkAll E S ts with
    | some (.ptr h 0), some xs => (match lk S.A h, lk E.ty ty with
      | some (.box _ _ cs), some ti => if ti.agg && cs.length == ti.sz then some (.agg cs :: xs) else none
      | _, _ => none)
    | _, _ => none

def numb : Nat → List SV → List (Nat × SV)
  | _, [] => []
  | i, x :: xs => (i, x) :: numb (i + 1) xs

/-- The leaves of a struct now; the lists are those of some handles. -/
def resKp : List PTy → Nat → List SV → Option (Prop × List PV)
  | [], _, [] => some (True, [])
  | .int k :: ts, i, .int k' m :: xs => match resKp ts i xs with | some (o, ps) => some (k' = k ∧ o, .int k m :: ps) | none => none
  | .bool :: ts, i, .bool b :: xs => match resKp ts i xs with | some (o, ps) => some (o, .bool b :: ps) | none => none
  | .str :: ts, i, .str l :: xs => match resKp ts i xs with | some (o, ps) => some (o, .str l :: ps) | none => none
  | .list _ :: ts, i, .sl j :: xs => match resKp ts (i + 1) xs with | some (o, ps) => some (j = i ∧ o, .list [] :: ps) | none => none
  | _, _, _ => none
/-- The values now in the arguments that may be changed. -/
def resMs (A : Hp) : List (Md × PTy) → List SV → Option (Prop × List PV)
  | (.mt, t) :: ts, x :: xs => match resB A t x, resMs A ts xs with | some (o, p), some (o', ps) => some (o ∧ o', p :: ps) | _, _ => none
  | (.rd, _) :: ts, _ :: xs => resMs A ts xs
  | (.ow, _) :: ts, _ :: xs => resMs A ts xs
  | (.bx, .box l) :: ts, .ptr h 0 :: xs => (match lk A h with
    | some (.box true _ cs) => (match resLs A l cs, resMs A ts xs with | some (o, p), some (o', ps) => some ((o ∧ cs.length = l.length) ∧ o', .agg p :: ps) | _, _ => none)
    | _ => none)
  | (.bx, .abx T) :: ts, .ptr h 0 :: xs => (match lk A h with
    | some (.abx true T' es) => (match resMs A ts xs with | some (o', ps) => some (T' = T ∧ o', .list es :: ps) | none => none)
    | _ => none)
  | (.bs, .box l) :: ts, .ptr h 0 :: xs => (match lk A h with
    | some (.box true _ cs) => (match resKp l (h - nL l) cs, resMs A ts xs with | some (o, p), some (o', ps) => some ((o ∧ cs.length = l.length) ∧ o', .agg p :: ps) | _, _ => none)
    | _ => none)
  | [], [] => some (True, [])
  | _, _ => none

def retOk : List PTy → Prop
  | [] => True
  | .agg _ :: ts => retOk ts
  | .int _ :: ts => retOk ts
  | .bool :: ts => retOk ts
  | .str :: ts => retOk ts
  | .list _ :: ts => retOk ts
  | _ :: _ => False

def mtTy : List (Md × PTy) → Prop
  | [] => True
  | (.mt, .agg _) :: ts => mtTy ts
  | (.mt, .list _) :: ts => mtTy ts
  | (.mt, _) :: _ => False
  | _ :: ts => mtTy ts

/-- The slices of the changed arguments. -/
def bxCs (A : Hp) : SV → List SV
  | .ptr h _ => (match lk A h with | some (.box _ _ cs) => cs | _ => [])
  | _ => []
def mtSls (A : Hp) : List (Md × PTy) → List SV → List Nat
  | (.mt, _) :: ts, x :: xs => slsOf x.cells ++ mtSls A ts xs
  | (.bx, _) :: ts, x :: xs => slsOf (bxCs A x) ++ mtSls A ts xs
  | _ :: ts, _ :: xs => mtSls A ts xs
  | _, _ => []
/-- with the pointers -/
def mtHs (A : Hp) : List (Md × PTy) → List SV → List Nat
  | (.mt, _) :: ts, x :: xs => slsOf x.cells ++ mtHs A ts xs
  | (.bx, _) :: ts, .ptr h _ :: xs => h :: (slsOf (bxCs A (.ptr h 0)) ++ mtHs A ts xs)
  | (.bs, _) :: ts, .ptr h _ :: xs => h :: mtHs A ts xs
  | _ :: ts, _ :: xs => mtHs A ts xs
  | _, _ => []

/-- New memory is given back. -/
def finFr (s : FSpec) (xs xs0 : List SV) (ps : List PV) (A : Hp) : Prop :=
  match resBs A s.ret xs, resMs A s.args xs0 with
  | some (o, rs), some (o', qs) => o ∧ rs = s.res ps ∧ o' ∧ qs = s.out ps ∧ dpAll A (slsAll xs ++ mtSls A s.args xs0) = true
  | _, _ => False

/-- The state at the end gives what the contract says. -/
def finOf (E : Env) (outs : List ResultVar) (s : FSpec) (xs0 : List SV) (ps : List PV) (S : St) : Prop :=
  match lkAll E S outs with
  | none => False
  | some xs => retOk s.ret ∧
      (if s.fresh then mtTy s.args ∧ ndB (slsAll xs ++ mtHs (proms S.A (slsAll xs ++ mtSls S.A s.args xs0)) s.args xs0) = true ∧ finFr s xs xs0 ps (proms S.A (slsAll xs ++ mtSls S.A s.args xs0))
      else allRd s.args = true ∧ (match resBs S.A s.ret xs with | some (o, rs) => o ∧ rs = s.res ps | none => False))

section
variable {P : Program} {E : Env} {N : Nat} {w0 : World} {X F : List Nat} {S : St} {β : Nat → GV} {ϕ : Nat → List Nat} {a : Act} {w w' : World} {o : Oper} {R : RR} {A : Hp} {B : Nat}

theorem resB_own {T : PTy} {x : SV} {ob : Prop} {p : PV} (h : resB A T x = some (ob, p)) (hob : ob) (hp : Holds B X F A β ϕ w) (hk : SV.ok β x) (ho : dpAll A (slsOf x.cells) = true) (hT : retOk [T]) :
    RetV w T p (SV.val β x) ((slsOf x.cells).map ϕ).flatten := by
  have lists : ∀ {us : List PTy} {ys : List SV} {o : Prop} {rs : List PV}, resLs A us ys = some (o, rs) → o → SV.oks β ys → dpAll A (slsOf ys) = true → LoD w us rs (SV.vals β ys) (fsOf ϕ ys) := by
    intro us ys o rs q1 q2 q3 q4
    refine resLs_own q1 q2 q3 fun h hh o T es p hA => ?_
    obtain ⟨T', es', p', e⟩ := dpB_iff.1 (dpAll_iff.1 q4 h hh)
    rw [hA] at e; cases e
    exact hp.sat _ _ hA
  have leaf : ∀ (h' : resL A T x = some (ob, p)), (x.cells = [x]) → ∃ fs, LoD w [T] [p] [SV.val β x] fs ∧ ((slsOf x.cells).map ϕ).flatten = fs.flatten := by
    intro h' hc
    rw [hc] at ho ⊢
    exact ⟨_, lists (us := [T]) (ys := [x]) (o := ob ∧ True) (rs := [p]) (by simp [resLs, h']) ⟨hob, trivial⟩ ⟨hk, trivial⟩ ho, by rw [fsOf_flat]⟩
  cases T with
  | agg ts =>
    cases x with
    | agg xs =>
      simp only [resB] at h
      split at h
      · rename_i o ps hps
        simp only [Option.some.injEq, Prod.mk.injEq] at h
        obtain ⟨rfl, rfl⟩ := h
        exact ⟨ps, _, _, rfl, rfl, lists hps hob hk ho, by rw [fsOf_flat]; rfl⟩
      · cases h
    | _ => simp [resB, resL] at h
  | box ts => exact hT.elim
  | abx t => exact hT.elim
  | fn g ts => exact hT.elim
  | opq => exact hT.elim
  | int k => cases x <;> first | (simp [resB, resL] at h; done) | exact leaf (by simpa [resB] using h) rfl
  | bool => cases x <;> first | (simp [resB, resL] at h; done) | exact leaf (by simpa [resB] using h) rfl
  | str => cases x <;> first | (simp [resB, resL] at h; done) | exact leaf (by simpa [resB] using h) rfl
  | list T => cases x <;> first | (simp [resB, resL] at h; done) | exact leaf (by simpa [resB] using h) rfl

theorem retOk_cons {t : PTy} {ts : List PTy} (h : retOk (t :: ts)) : retOk [t] ∧ retOk ts := by
  cases t <;> first | exact ⟨trivial, h⟩ | exact h.elim

theorem dpAll_append {l l' : List Nat} : dpAll A (l ++ l') = true ↔ dpAll A l = true ∧ dpAll A l' = true := by
  simp only [dpAll_iff, List.mem_append]
  exact ⟨fun h => ⟨fun i hi => h i (.inl hi), fun i hi => h i (.inr hi)⟩, fun h i hi => hi.elim (h.1 i) (h.2 i)⟩

theorem resBs_own : ∀ {ts : List PTy} {xs : List SV} {ob : Prop} {ps : List PV}, resBs A ts xs = some (ob, ps) → ob → Holds B X F A β ϕ w → SV.oks β xs → dpAll A (slsAll xs) = true → retOk ts →
    RetVs w ts ps (SV.vals β xs) ((slsAll xs).map ϕ).flatten
  | [], [], ob, ps, h, hob, hp, hk, ho, hT => by cases h; exact .nil
  | [], x :: xs, ob, ps, h, hob, hp, hk, ho, hT => by cases h
  | t :: ts, [], ob, ps, h, hob, hp, hk, ho, hT => by cases h
  | t :: ts, x :: xs, ob, ps, h, hob, hp, hk, ho, hT => by
    simp only [resBs] at h
    split at h
    · rename_i o1 p o2 qs h1 h2
      cases h
      obtain ⟨hT1, hT2⟩ := retOk_cons hT
      simp only [slsAll, dpAll_append] at ho
      simp only [slsAll, List.map_append, List.flatten_append, SV.vals]
      exact .cons (resB_own h1 hob.1 hp hk.1 ho.1 hT1) (resBs_own h2 hob.2 hp hk.2 ho.2 hT2)
    · cases h

theorem RetV.arg {t : PTy} {p : PV} {v : Value} {f : List Nat} (h : RetV w t p v f) (ht : (∃ ts, t = .agg ts) ∨ ∃ T, t = .list T) : ArgM w t p v f := by
  rcases ht with ⟨ts, rfl⟩ | ⟨T, rfl⟩
  · exact h
  · obtain ⟨fs, hL, rfl⟩ := h
    cases hL with
    | list hO hr => cases hr; exact ⟨_, rfl, by simpa using hO⟩

theorem resKp_kp : ∀ {l : List PTy} {i : Nat} {cs : List SV} {o : Prop} {ps : List PV} {cs0 : List Value}, resKp l i cs = some (o, ps) → o → KpOld β l i cs0 → cs0.length = l.length → SV.oks β cs → KpS l ps cs0 (SV.vals β cs)
  | [], i, cs, o, ps, cs0, h, ho, hk, hl, hok => by
    cases cs with
    | nil => cases h; cases cs0 <;> first | exact .nil | (simp at hl)
    | cons c cs => cases h
  | t :: ts, i, cs, o, ps, [], h, ho, hk, hl, hok => by simp at hl
  | t :: ts, i, [], o, ps, c0 :: cs0, h, ho, hk, hl, hok => by cases t <;> cases h
  | t :: ts, i, c :: cs, o, ps, c0 :: cs0, h, ho, hk, hl, hok => by
    have hl' : cs0.length = ts.length := by simpa using hl
    cases t with
    | int k =>
      cases c <;> simp only [resKp, reduceCtorEq] at h
      split at h
      · rename_i o1 ps1 h1
        simp only [Option.some.injEq, Prod.mk.injEq] at h
        obtain ⟨rfl, rfl⟩ := h
        obtain ⟨rfl, ho⟩ := ho
        exact .int hok.1 (resKp_kp h1 ho hk hl' hok.2)
      · cases h
    | bool =>
      cases c <;> simp only [resKp, reduceCtorEq] at h
      split at h
      · rename_i o1 ps1 h1
        simp only [Option.some.injEq, Prod.mk.injEq] at h
        obtain ⟨rfl, rfl⟩ := h
        exact .bool (resKp_kp h1 ho hk hl' hok.2)
      · cases h
    | str =>
      cases c <;> simp only [resKp, reduceCtorEq] at h
      split at h
      · rename_i o1 ps1 h1
        simp only [Option.some.injEq, Prod.mk.injEq] at h
        obtain ⟨rfl, rfl⟩ := h
        exact .str hok.1 (resKp_kp h1 ho hk hl' hok.2)
      · cases h
    | list T =>
      cases c <;> simp only [resKp, reduceCtorEq] at h
      split at h
      · rename_i o1 ps1 h1
        simp only [Option.some.injEq, Prod.mk.injEq] at h
        obtain ⟨rfl, rfl⟩ := h
        obtain ⟨rfl, ho⟩ := ho
        obtain ⟨rfl, hk⟩ := hk
        exact .list (resKp_kp h1 ho hk hl' hok.2)
      · cases h
    | _ => cases h

theorem resMs_own {w' : World} : ∀ {ts : List (Md × PTy)} {xs : List SV} {ob : Prop} {ps : List PV}, resMs A ts xs = some (ob, ps) → ob → Holds B X F A β ϕ w → SV.oks β xs → (∀ i o t cs, lk A i = some (.box o t cs) → SV.oks β cs) → dpAll A (mtSls A ts xs) = true → mtTy ts → OldX w' β ts xs →
    OutV w' w ts ps (SV.vals β xs) ((mtHs A ts xs).map ϕ).flatten ∧ ∀ h ∈ mtHs A ts xs, Lent A ϕ h
  | [], [], ob, ps, h, hob, hp, hk, hbx, ho, hT, hX => by cases h; exact ⟨.nil, by simp [mtHs]⟩
  | [], x :: xs, ob, ps, h, hob, hp, hk, hbx, ho, hT, hX => by cases h
  | (m, t) :: ts, [], ob, ps, h, hob, hp, hk, hbx, ho, hT, hX => by cases m <;> (try cases h) <;> cases t <;> cases h
  | (m, t) :: ts, x :: xs, ob, ps, h, hob, hp, hk, hbx, ho, hT, hX => by
    cases m with
    | rd =>
      obtain ⟨r1, r2⟩ := resMs_own (ts := ts) (xs := xs) h hob hp hk.2 hbx ho (by cases t <;> exact hT) hX
      exact ⟨.rd r1, r2⟩
    | ow =>
      obtain ⟨r1, r2⟩ := resMs_own (ts := ts) (xs := xs) h hob hp hk.2 hbx ho (by cases t <;> exact hT) hX
      exact ⟨.ow r1, r2⟩
    | bx =>
      have hT2 : mtTy ts := by cases t <;> exact hT
      cases t with
      | box l =>
        cases x with
        | ptr i off =>
          cases off with
          | zero =>
            simp only [resMs] at h
            split at h
            case h_2 => cases h
            rename_i tt cs hA
            split at h
            case h_2 => cases h
            rename_i o1 p o2 qs h1 h2
            simp only [Option.some.injEq, Prod.mk.injEq] at h
            obtain ⟨rfl, rfl⟩ := h
            simp only [mtSls, bxCs, hA, dpAll_append] at ho
            obtain ⟨r1, r2⟩ := resMs_own h2 hob.2 hp hk.2 hbx ho.2 hT2 hX.2
            obtain ⟨b, t', hb, hϕ, hblk⟩ := hp.sat _ _ hA
            obtain ⟨b2, t2, cs0, hb2, hblk2, hl0⟩ := hX.1
            have : b2 = b := by
              rw [hb] at hb2; simp only [Value.pointer.injEq, Option.some.injEq, Addr.mk.injEq] at hb2; exact hb2.1.symm
            subst this
            have hLo : LoD w l p (SV.vals β cs) (fsOf ϕ cs) := resLs_own h1 hob.1.1 (hbx _ _ _ _ hA) fun h hh o T es p' hA' => by
              obtain ⟨T', es', p2, e⟩ := dpB_iff.1 (dpAll_iff.1 ho.1 h hh)
              rw [e] at hA'; cases hA'
              exact hp.sat _ _ e
            constructor
            · have hx : OutX w' w (.box l) (.agg p) (SV.val β (.ptr i 0)) (b2 :: (fsOf ϕ cs).flatten) :=
                ⟨p, cs0, SV.vals β cs, fsOf ϕ cs, b2, t2, t', (β i).pre, (β i).post, rfl, by simp [SV.val, hb], hblk2, hl0, hblk, hLo, rfl⟩
              have := OutV.bx hx r1
              simp only [mtHs, bxCs, hA, List.map_append, List.map_cons, List.flatten_append, List.flatten_cons, hϕ, ← fsOf_flat, List.cons_append, List.append_assoc, List.nil_append, SV.vals] at this ⊢
              exact this
            · intro h hh
              simp only [mtHs, bxCs, hA, List.mem_cons, List.mem_append] at hh
              rcases hh with rfl | hh | hh
              · exact ⟨_, hA, by simp, rfl, by rw [hϕ]; simp, rfl⟩
              · exact lent_dp hp (dpAll_iff.1 ho.1 h hh)
              · exact r2 h hh
          | succ n => simp [resMs] at h
        | _ => simp [resMs] at h
      | abx T =>
        cases x with
        | ptr i off =>
          cases off with
          | zero =>
            simp only [resMs] at h
            split at h
            case h_2 => cases h
            rename_i T' es hA
            split at h
            case h_2 => cases h
            rename_i o2 qs h2
            simp only [Option.some.injEq, Prod.mk.injEq] at h
            obtain ⟨rfl, rfl⟩ := h
            simp only [mtSls, bxCs, hA, slsOf, List.nil_append] at ho
            obtain ⟨r1, r2⟩ := resMs_own h2 hob.2 hp hk.2 hbx ho hT2 hX.2
            have := hob.1
            subst this
            obtain ⟨g1, g2, b, t', c, hv, hϕ, hblk, hL⟩ := hp.sat _ _ hA
            constructor
            · have hx : OutX w' w (.abx T') (.list es) (SV.val β (.ptr i 0)) [b] := ⟨es, b, t', c, rfl, by simp [SV.val, hv], hblk, g1, g2, hL, rfl⟩
              have := OutV.bx hx r1
              simp only [mtHs, bxCs, hA, slsOf, List.map_cons, List.flatten_cons, hϕ, List.nil_append, SV.vals] at this ⊢
              exact this
            · intro h hh
              simp only [mtHs, bxCs, hA, slsOf, List.nil_append, List.mem_cons] at hh
              rcases hh with rfl | hh
              · exact ⟨_, hA, by simp, rfl, by rw [hϕ]; simp, rfl⟩
              · exact r2 h hh
          | succ n => simp [resMs] at h
        | _ => simp [resMs] at h
      | _ => cases x <;> simp [resMs] at h
    | bs =>
      have hT2 : mtTy ts := by cases t <;> exact hT
      cases t with
      | box l =>
        cases x with
        | ptr i off =>
          cases off with
          | zero =>
            simp only [resMs] at h
            split at h
            case h_2 => cases h
            rename_i tt cs hA
            split at h
            case h_2 => cases h
            rename_i o1 p o2 qs h1 h2
            simp only [Option.some.injEq, Prod.mk.injEq] at h
            obtain ⟨rfl, rfl⟩ := h
            obtain ⟨r1, r2⟩ := resMs_own h2 hob.2 hp hk.2 hbx ho hT2 hX.2
            obtain ⟨b, t', hb, hϕ, hblk⟩ := hp.sat _ _ hA
            obtain ⟨b2, t2, cs0, hb2, hblk2, hl0, _, hkp⟩ := hX.1
            have : b2 = b := by
              rw [hb] at hb2; simp only [Value.pointer.injEq, Option.some.injEq, Addr.mk.injEq] at hb2; exact hb2.1.symm
            subst this
            have hKp := resKp_kp h1 hob.1.1 hkp hl0 (hbx _ _ _ _ hA)
            constructor
            · have hx : OutS w' w (.box l) (.agg p) (SV.val β (.ptr i 0)) b2 :=
                ⟨p, cs0, SV.vals β cs, t2, t', (β i).pre, (β i).post, rfl, by simp [SV.val, hb], hblk2, hl0, hblk, hKp⟩
              have := OutV.bs hx r1
              simp only [mtHs, List.map_cons, List.flatten_cons, hϕ, List.cons_append, List.nil_append, SV.vals] at this ⊢
              exact this
            · intro h hh
              simp only [mtHs, List.mem_cons] at hh
              rcases hh with rfl | hh
              · exact ⟨_, hA, by simp, rfl, by rw [hϕ]; simp, rfl⟩
              · exact r2 h hh
          | succ n => simp [resMs] at h
        | _ => simp [resMs] at h
      | _ => cases x <;> simp [resMs] at h
    | mt =>
      simp only [resMs] at h
      split at h
      · rename_i o1 p o2 qs h1 h2
        cases h
        simp only [mtSls, dpAll_append] at ho
        have ht : (∃ ts, t = .agg ts) ∨ ∃ T, t = .list T := by cases t <;> first | exact hT.elim | exact .inl ⟨_, rfl⟩ | exact .inr ⟨_, rfl⟩
        have hT1 : retOk [t] := by rcases ht with ⟨ts, rfl⟩ | ⟨T, rfl⟩ <;> trivial
        have hT2 : mtTy ts := by cases t <;> first | exact hT.elim | exact hT
        obtain ⟨r1, r2⟩ := resMs_own h2 hob.2 hp hk.2 hbx ho.2 hT2 hX
        constructor
        · simp only [mtHs, List.map_append, List.flatten_append, SV.vals]
          exact .mt ((resB_own h1 hob.1 hp hk.1 ho.1 hT1).arg ht) r1
        · intro h hh
          simp only [mtHs, List.mem_append] at hh
          rcases hh with hh | hh
          · exact lent_dp hp (dpAll_iff.1 ho.1 h hh)
          · exact r2 h hh
      · cases h

/-- Results that may share memory. -/
theorem resB_ret {T : PTy} {x : SV} {ob : Prop} {p : PV} (h : resB A T x = some (ob, p)) (hob : ob) (hp : Holds B X F A β ϕ w) (hk : SV.ok β x) (hT : retOk [T]) :
    ∃ f, RetN w T p (SV.val β x) f ∧ ∀ b ∈ f, b ∈ F ∨ B ≤ b := by
  have lists : ∀ {us : List PTy} {ys : List SV} {o : Prop} {rs : List PV}, resLs A us ys = some (o, rs) → o → SV.oks β ys → ∃ f, Lv w us rs (SV.vals β ys) f ∧ ∀ b ∈ f, b ∈ F ∨ B ≤ b := by
    intro us ys o rs q1 q2 q3
    obtain ⟨f, q4, q5⟩ := resLs_sound q1 q2 hp q3
    refine ⟨f, q4, fun b hb => ?_⟩
    obtain ⟨i, hi, hl, e1, e2, e3⟩ := q5 b hb
    obtain ⟨hl', e4, e5⟩ := resLs_isA q1 i hi
    rw [e1] at e4; cases e4
    exact hp.all i hl e1 e5.isA b e3
  have leaf : ∀ (h' : resL A T x = some (ob, p)), ∃ f, Lv w [T] [p] [SV.val β x] f ∧ ∀ b ∈ f, b ∈ F ∨ B ≤ b := fun h' =>
    lists (us := [T]) (ys := [x]) (o := ob ∧ True) (rs := [p]) (by simp [resLs, h']) ⟨hob, trivial⟩ ⟨hk, trivial⟩
  cases T with
  | agg ts =>
    cases x with
    | agg xs =>
      simp only [resB] at h
      split at h
      · rename_i o ps hps
        simp only [Option.some.injEq, Prod.mk.injEq] at h
        obtain ⟨rfl, rfl⟩ := h
        obtain ⟨f, q1, q2⟩ := lists hps hob hk
        exact ⟨f, ⟨ps, _, rfl, rfl, q1⟩, q2⟩
      · cases h
    | _ => simp [resB, resL] at h
  | box ts => exact hT.elim
  | abx t => exact hT.elim
  | fn g ts => exact hT.elim
  | opq => exact hT.elim
  | int k => cases x <;> first | (simp [resB, resL] at h; done) | exact leaf (by simpa [resB] using h)
  | bool => cases x <;> first | (simp [resB, resL] at h; done) | exact leaf (by simpa [resB] using h)
  | str => cases x <;> first | (simp [resB, resL] at h; done) | exact leaf (by simpa [resB] using h)
  | list T => cases x <;> first | (simp [resB, resL] at h; done) | exact leaf (by simpa [resB] using h)

theorem resBs_ret : ∀ {ts : List PTy} {xs : List SV} {ob : Prop} {ps : List PV}, resBs A ts xs = some (ob, ps) → ob → Holds B X F A β ϕ w → SV.oks β xs → retOk ts →
    ∃ f, RetNs w ts ps (SV.vals β xs) f ∧ ∀ b ∈ f, b ∈ F ∨ B ≤ b
  | [], [], ob, ps, h, hob, hp, hk, hT => by cases h; exact ⟨[], .nil, by simp⟩
  | [], x :: xs, ob, ps, h, hob, hp, hk, hT => by cases h
  | t :: ts, [], ob, ps, h, hob, hp, hk, hT => by cases h
  | t :: ts, x :: xs, ob, ps, h, hob, hp, hk, hT => by
    simp only [resBs] at h
    split at h
    · rename_i o1 p o2 qs h1 h2
      cases h
      obtain ⟨hT1, hT2⟩ := retOk_cons hT
      obtain ⟨f, q1, q2⟩ := resB_ret h1 hob.1 hp hk.1 hT1
      obtain ⟨g, q3, q4⟩ := resBs_ret h2 hob.2 hp hk.2 hT2
      exact ⟨f ++ g, .cons q1 q3, fun b hb => (List.mem_append.1 hb).elim (q2 b) (q4 b)⟩
    · cases h

theorem lkAll_run (hE : EnvTy P E) (sat : Sat N w0 X F S β ϕ a w) (g : ResultVar → Sem Value) (hg : ∀ t, g (.tmp t) = pure (a.tmps.getD t undef)) (hc : ∀ t ty, g (.cell t ty) = asAddr (a.tmps.getD t undef) >>= fun x => loadVar ty x) :
    ∀ {outs : List ResultVar} {xs : List SV}, lkAll E S outs = some xs → (outs.mapM g).run P w = .ok (SV.vals β xs) w ∧ SV.oks β xs ∧ SV.lts S.n xs ∧ xs.length = outs.length
  | [], xs, h => by cases h; exact ⟨rfl, trivial, trivial, rfl⟩
  | .tmp t :: ts, xs, h => by
    simp only [lkAll] at h
    split at h
    · rename_i x ys hx hy
      cases h
      obtain ⟨h1, h2, h3, h4⟩ := lkAll_run hE sat g hg hc hy
      obtain ⟨q1, q2, q3⟩ := sat.lp t x hx
      refine ⟨?_, ⟨q3, h2⟩, ⟨q2, h3⟩, by simp [h4]⟩
      simp only [List.mapM_cons, Sem.run_bind, Sem.run_pure, Result.andThen_ok, h1, hg, SV.vals, Array.getD_eq_getD_getElem?, q1, Option.getD_some]
    · cases h
  | .cell t ty :: ts, xs, h => by
    simp only [lkAll] at h
    split at h
    · rename_i i ys hx hy
      split at h
      · rename_i ow bt cs ti hl hti
        split at h
        · rename_i hcond
          cases h
          simp only [Bool.and_eq_true, beq_iff_eq] at hcond
          obtain ⟨hA, hlen⟩ := hcond
          obtain ⟨h1, h2, h3, h4⟩ := lkAll_run hE sat g hg hc hy
          obtain ⟨q1, q2, b, oo, hb⟩ := sat.lp t _ hx
          obtain ⟨b', bt', hb', hϕ, hold⟩ := sat.hp.sat _ _ hl
          rw [hb] at hb'
          simp only [Value.pointer.injEq, Option.some.injEq, Addr.mk.injEq, and_true] at hb'
          obtain ⟨rfl, rfl⟩ := hb'
          simp only [SV.val, hb, Nat.add_zero] at q1
          obtain ⟨k1, k2⟩ := (sat.hb _ _ hl).2
          have hag := run_isAgg (hE _ _ hti)
          have hsz := run_size (hE _ _ hti)
          have hcl : (SV.vals β cs).length = cs.length := by simp [SV.vals_map]
          have hlc := run_loadCells_row (P := P) b ((β i).pre.length + 0) ti.sz _ bt' (0, 0) hold (by simp [hcl, hlen])
          rw [List.toList_toArray, mid_take _ _ _ (by rw [hcl]; omega)] at hlc
          have hall : ((SV.vals β cs).drop 0).take ti.sz = SV.vals β cs := by
            rw [List.drop_zero, List.take_of_length_le (by simp [SV.vals_map, hlen])]
          simp only [hall, Nat.add_zero] at hlc
          refine ⟨?_, ⟨k2, h2⟩, ⟨k1, h3⟩, by simp [h4]⟩
          simp only [List.mapM_cons, Sem.run_bind, Sem.run_pure, Result.andThen_ok, h1, hc, SV.vals, SV.val, Array.getD_eq_getD_getElem?, q1, Option.getD_some, asAddr, loadVar, hag, hsz, hA, if_true, hlc]
        · cases h
      · cases h
    · cases h

theorem results_run {fn : Func} {outs : List ResultVar} (h : fn.results = outs.toArray) (tmps : Array Value) (w : World) (g : ResultVar → Sem Value) (hg : ∀ t, g (.tmp t) = pure (tmps.getD t undef)) (hc : ∀ t ty, g (.cell t ty) = asAddr (tmps.getD t undef) >>= fun x => loadVar ty x)
    {vs : List Value} (hv : (outs.mapM g).run P w = .ok vs w) (hlen : vs.length = outs.length) : (results fn tmps).run P w = .ok (packR vs) w := by
  have hgg : ∀ g' : ResultVar → Sem Value, (∀ t, g' (.tmp t) = pure (tmps.getD t undef)) → (∀ t ty, g' (.cell t ty) = asAddr (tmps.getD t undef) >>= fun x => loadVar ty x) → outs.mapM g' = outs.mapM g := by
    intro g' h1 h2
    have : g' = g := by
      funext r
      cases r with
      | tmp t => rw [h1, hg]
      | cell a t => rw [h2, hc]
    rw [this]
  unfold results
  rw [h, List.mapM_toArray]
  simp only [Sem.run_bind, Sem.run_map, Result.andThen_ok]
  rw [hgg _ (fun _ => rfl) (fun _ _ => rfl), hv]
  simp only [Result.andThen_ok, Sem.run_pure]
  match vs with
  | [] => rfl
  | [x] => rfl
  | x :: y :: l => simp [packR]

theorem lk_numb : ∀ {xs : List SV} {i t : Nat} {v : SV}, lk (numb i xs) t = some v → i ≤ t ∧ xs[t - i]? = some v
  | [], i, t, v, h => by cases h
  | x :: xs, i, t, v, h => by
    simp only [numb, lk] at h
    split at h
    · rename_i e; subst e; cases h; simp
    · rename_i e
      obtain ⟨h1, h2⟩ := lk_numb h
      refine ⟨by omega, ?_⟩
      rw [show t - i = (t - (i + 1)) + 1 by omega]
      simpa using h2

theorem ArgsV.lens {ts : List (Md × PTy)} {ps : List PV} {vs : List Value} {f fl ms : List Nat} (h : ArgsV w ts ps vs f fl ms) : ts.length = vs.length := by
  induction h with
  | nil => rfl
  | rd _ _ ih => simp [ih]
  | mt _ _ ih => simp [ih]
  | ow _ _ ih => simp [ih]
  | bx _ _ ih => simp [ih]
  | bs _ _ ih => simp [ih]

theorem ArgsV.rdms {ts : List (Md × PTy)} {ps : List PV} {vs : List Value} {f fl ms : List Nat} (h : ArgsV w ts ps vs f fl ms) (hr : allRd ts = true) : ms = [] := by
  induction h with
  | nil => rfl
  | rd _ _ ih => exact ih hr
  | mt _ _ _ => simp [allRd] at hr
  | ow _ _ _ => simp [allRd] at hr
  | bx _ _ _ => simp [allRd] at hr
  | bs _ _ _ => simp [allRd] at hr

/-- A function keeps its contract if its code's conditions hold. -/
theorem meets_of_vc {fid : FuncId} {fn : Func} {c : Code} {s : FSpec} {keep : List Nat} {outs : List ResultVar} (G : (List KI → St → Prop) → Prop) (hG : ∀ C : Cx, C.Ok → C.P = P → C.N = fn.ntmps → C.keep = keep → G (WP C)) (hE : EnvOk P E) (hm : P.follows .mixedOrders = true) (hf : P.funcs[fid]? = some fn) (hb : fn.body = some c)
    (hr : fn.results = outs.toArray) (hp : s.args.length ≤ fn.ntmps) (hkeep : ∀ i, i < s.args.length → keep.contains i = true)
    (h : ∀ ps, TyA s.args ps → s.pre ps → ∀ W, Rules E fn.ntmps keep (introTs 0 s.args ps).2.2 (finOf E outs s (introTs 0 s.args ps).1 ps) W → G W →
      W [.code c] ⟨numb 0 (introTs 0 s.args ps).1, [], (introTs 0 s.args ps).2.1, (introTs 0 s.args ps).2.2⟩) : Meets P fid s := by
  intro w ps vs fs fl ms hA hnd hdis hpre hgl
  have h0 : Holds w.heap.size ms (fl ++ ms) [] (fun _ => ⟨Value.bool false, [], []⟩) (fun _ => []) w :=
    ⟨fun _ => rfl, fun _ _ h => (by cases h), fun _ _ h => (by cases h), fun _ _ h => (by cases h), fun _ _ h => (by cases h), fun _ _ _ _ h => (by cases h), fun _ _ h => (by cases h), fun _ _ h => (by cases h)⟩
  obtain ⟨β, ϕ, ⟨e1, e2, e3, e4, e5, e6, e7, e8, e9⟩, hold⟩ := introTs_sound s.args ps vs fs fl ms 0 [] _ _ hA h0 (fun i hl h => (by cases h)) rfl (fun b hb hm => hdis b hm hb) (fun b hb => by simp [hb]) (fun b hb => ⟨hb, by simp [hb]⟩) hnd (fun i hl h => (by cases h))
  have hlen := hA.lens
  have hlen2 : (introTs 0 s.args ps).1.length = vs.length := by rw [← e5, SV.vals_map]; simp
  let fin := finOf E outs s (introTs 0 s.args ps).1 ps
  let Rr : Ending → World → Prop := fun e w' => ∃ rvs, e = .returned (packR rvs) ∧ Done w s ps vs fl ms rvs w'
  let C : Cx := ⟨P, E, fn.ntmps, w, ms, fl ++ ms, keep, (introTs 0 s.args ps).2.2, β, bodyPost P fn Rr, fin⟩
  have hfin : ∀ S a w', At C S a w' → fin S → a.defers = [] ∧ ∃ v, (results fn a.tmps).run P w' = .ok v w' ∧ Rr (.returned v) w' := by
    intro S a w' hat hS
    obtain ⟨kp, hn, β1, ϕ1, sat, hsame⟩ := hat
    unfold fin finOf at hS
    split at hS
    · exact hS.elim
    · rename_i xs hxs
      obtain ⟨hret, hS⟩ := hS
      let g : ResultVar → Sem Value := fun r => match r with | .tmp t => pure (a.tmps.getD t undef) | .cell t ty => asAddr (a.tmps.getD t undef) >>= fun x => loadVar ty x
      obtain ⟨v1, v2, v3, v4⟩ := lkAll_run hE.ty sat g (fun _ => rfl) (fun _ _ => rfl) hxs
      refine ⟨sat.df, _, results_run hr a.tmps w' g (fun _ => rfl) (fun _ _ => rfl) v1 (by simp [SV.vals_map, v4]), _, rfl, sat.fr, ?_⟩
      have hsame1 : SV.vals β1 (introTs 0 s.args ps).1 = vs := by
        rw [SV.vals_congr (fun k hk => hsame k hk) _ e6]; exact e5
      have hok1 : SV.oks β1 (introTs 0 s.args ps).1 := SV.oks_congr (fun k hk => hsame k hk) _ e6 e7
      cases hfs : s.fresh with
      | true =>
        rw [hfs] at hS
        simp only [if_true] at hS
        obtain ⟨f0, f1, f2⟩ := hS
        obtain ⟨ϕ2, p1, p2, _⟩ := proms_sound (slsAll xs ++ mtSls S.A s.args (introTs 0 s.args ps).1) sat.hp sat.hb
        unfold finFr at f2
        split at f2
        · rename_i o rs o' qs hrs hqs
          obtain ⟨g1, g2, g3, g4, g5⟩ := f2
          obtain ⟨g6, g7⟩ := dpAll_append.1 g5
          have hR := resBs_own hrs g1 p1 v2 g6 hret
          obtain ⟨hO, hLt⟩ := resMs_own (w' := w) hqs g3 p1 hok1 (fun i o t cs hi => (p2 _ _ hi).2.2) g7 f0 (hold.congr hsame e6)
          rw [hsame1, g4] at hO
          rw [g2] at hR
          have hLents : ∀ h ∈ slsAll xs ++ mtHs (proms S.A (slsAll xs ++ mtSls S.A s.args (introTs 0 s.args ps).1)) s.args (introTs 0 s.args ps).1, Lent (proms S.A (slsAll xs ++ mtSls S.A s.args (introTs 0 s.args ps).1)) ϕ2 h := by
            intro h hh
            rcases List.mem_append.1 hh with hh | hh
            · exact lent_dp p1 (dpAll_iff.1 g6 h hh)
            · exact hLt h hh
          refine .inl ⟨rfl, _, _, hR, hO, ?_, ?_⟩
          · rw [← List.flatten_append, ← List.map_append]
            exact lents_nodup p1 hLents (ndB_iff.1 f1)
          · rw [← List.flatten_append, ← List.map_append]
            intro b hb
            obtain ⟨i, hi, hl, e1, e2⟩ := lents_own hLents b hb
            exact p1.own i _ e1 b e2
        · exact f2.elim
      | false =>
        rw [hfs] at hS
        simp only [Bool.false_eq_true, if_false] at hS
        obtain ⟨f1, f2⟩ := hS
        split at f2
        · rename_i o rs hrs
          obtain ⟨g1, g2⟩ := f2
          obtain ⟨f, q1, q2⟩ := resBs_ret hrs g1 sat.hp v2 hret
          rw [g2] at q1
          have hms := hA.rdms f1
          refine .inr ⟨rfl, f1, f, q1, fun b hb => ?_⟩
          have := q2 b hb
          have hF : C.F = fl ++ ms := rfl
          rw [hF, hms, List.append_nil] at this
          exact this
        · exact f2.elim
  have hC : C.Ok := ⟨hE, hm, fun S a w' hat hS => ⟨hfin S a w' hat hS, hfin S a w' hat hS⟩, fun c a d v w h => ⟨by have h1 := h.1; cases d <;> exact h1, h.2⟩⟩
  refine calls_of_wp hf hb ?_
  have hW := h ps hA.ty hpre (WP C) (rules_wp hC) (hG C hC rfl rfl rfl)
  refine hW _ w ⟨⟨?_, fun t x h => (by cases h)⟩, Nat.le_refl _, β, ϕ, ⟨rfl, ?_, ?_, fun t g v h => (by cases h), by simpa using e1, (by simpa using e2 : Bd _ _ _), Fr.refl _ _, hgl⟩, fun h _ => rfl⟩
  · intro t v ht
    obtain ⟨h1, h2⟩ := lk_numb ht
    obtain ⟨h3, _⟩ := List.getElem?_eq_some_iff.1 h2
    exact hkeep t (by simp only [Nat.sub_zero] at h3; omega)
  · show (vs.toArray ++ Array.replicate (fn.ntmps - vs.toArray.size) undef).size = fn.ntmps
    simp; omega
  · intro t v ht
    obtain ⟨_, h2⟩ := lk_numb ht
    simp only [Nat.sub_zero] at h2
    have hm1 := List.mem_of_getElem? h2
    refine ⟨?_, SV.lts_iff.1 e6 v hm1, SV.oks_iff.1 e7 v hm1⟩
    obtain ⟨h3, _⟩ := List.getElem?_eq_some_iff.1 h2
    show (vs.toArray ++ Array.replicate (fn.ntmps - vs.toArray.size) undef)[t]? = _
    rw [Array.getElem?_append_left (by simp; omega)]
    rw [← e5, SV.vals_map]
    simp [h2]

end
def fldsOf : TypeDesc → List (Nat × Nat)
  | .struct fs => fs.toList.map fun f => (f.offset, f.type)
  | _ => []

def aggOf : TypeDesc → Bool
  | .struct _ => true
  | .array _ _ => true
  | _ => false

def lfB : PTy → Bool
  | .agg _ => false
  | .fn _ _ => false
  | _ => true

theorem tiok_mk {P : Program} {t : TypeId} {ti : TI} {i : TypeInfo} {z : Value} (h1 : P.underlying t = some ti.d) (h2 : P.info? t = some i) (h3 : i.size = ti.sz) (h4 : i.bytes = ti.bytes) (h5 : i.zero = some z)
    (h6 : z.cells = (ti.leaves.map zeroV).toArray) (h7 : ti.agg = aggOf ti.d) (h8 : ti.flds = fldsOf ti.d) (h9 : (ti.flds.all fun f => (P.info? f.2).isSome) = true) (h10 : 0 < ti.sz) (h11 : 0 < ti.bytes) (h12 : ti.agg = false → ti.sz = 1)
    (h13 : ti.leaves.all lfB = true) (h14 : ti.eqb = true → P.stoodInHeld t = false ∧ P.eqGuardType P.depth t = false) : TIok P t ti := by
  refine ⟨h1, ⟨i, h2, h3, h4, z, h5, h6⟩, ?_, ?_, ?_, h10, h11, h12, fun t ht => ?_, fun t ht f l e => ?_, h14⟩
  · rw [h7]; cases ti.d <;> rfl
  · intro f off ft hf
    rw [h8] at hf
    cases hd : ti.d <;> rw [hd] at hf <;> simp only [fldsOf, List.getElem?_nil, reduceCtorEq] at hf
    rename_i fs
    simp only [List.getElem?_map, Option.map_eq_some_iff, Array.getElem?_toList, Prod.mk.injEq] at hf
    obtain ⟨fd, h, h1, h2⟩ := hf
    exact ⟨fs, fd, rfl, h, h1, h2⟩
  · intro fs hd f hf
    rw [h8, hd] at h9
    have := List.all_eq_true.1 h9 (f.offset, f.type) (by simp only [fldsOf, List.mem_map]; exact ⟨f, by simpa using hf, rfl⟩)
    exact Option.isSome_iff_exists.1 this
  · have := List.all_eq_true.1 h13 t ht
    cases t <;> first | rfl | (simp [lfB] at this)
  · have := List.all_eq_true.1 h13 t ht
    subst e
    simp [lfB] at this

/-- A function that may be called by its contract. -/
def FnOk (P : Program) (f : FuncId) (s : FSpec) : Prop := Meets P f s ∧ ∃ fn, P.funcs[f]? = some fn ∧ fn.body.isNone = false ∧ (fn.name == "runtime.NumGoroutine") = false

theorem env_nil {P : Program} {tab : List (Nat × TI)} (h : EnvTy P ⟨tab, []⟩) : EnvOk P ⟨tab, []⟩ := ⟨h, fun f cs s h => (by cases h)⟩

theorem env_cons {P : Program} {tab : List (Nat × TI)} {l : List ((Nat × List Nat) × FSpec)} {f : Nat} {cs : List Nat} {s : FSpec} (hf : FnOk P f s) (h : EnvOk P ⟨tab, l⟩) : EnvOk P ⟨tab, ((f, cs), s) :: l⟩ := by
  refine ⟨h.ty, fun g ds t hg => ?_⟩
  simp only [findFn] at hg
  split at hg
  · rename_i e
    cases hg
    obtain ⟨rfl, _⟩ := e
    exact hf
  · exact h.fn g ds t hg

theorem fn_mkG {P : Program} {E : Env} {fid : FuncId} {fn : Func} {c : Code} {s : FSpec} (keep : List Nat) (outs : List ResultVar) (G : (List KI → St → Prop) → Prop) (hG : ∀ C : Cx, C.Ok → C.P = P → C.N = fn.ntmps → C.keep = keep → G (WP C)) (hE : EnvOk P E) (hm : P.follows .mixedOrders = true) (hf : P.funcs[fid]? = some fn) (hb : fn.body = some c)
    (hn : (fn.name == "runtime.NumGoroutine") = false) (hr : fn.results = outs.toArray) (hp : s.args.length ≤ fn.ntmps) (hkeep : (List.range s.args.length).all (keep.contains ·) = true)
    (h : ∀ ps, TyA s.args ps → s.pre ps → ∀ W, Rules E fn.ntmps keep (introTs 0 s.args ps).2.2 (finOf E outs s (introTs 0 s.args ps).1 ps) W → G W →
      W [.code c] ⟨numb 0 (introTs 0 s.args ps).1, [], (introTs 0 s.args ps).2.1, (introTs 0 s.args ps).2.2⟩) : FnOk P fid s :=
  ⟨meets_of_vc G hG hE hm hf hb hr hp (fun i hi => List.all_eq_true.1 hkeep i (by simpa using hi)) h, fn, hf, by rw [hb]; rfl, hn⟩

theorem fn_mk {P : Program} {E : Env} {fid : FuncId} {fn : Func} {c : Code} {s : FSpec} (keep : List Nat) (outs : List ResultVar) (hE : EnvOk P E) (hm : P.follows .mixedOrders = true) (hf : P.funcs[fid]? = some fn) (hb : fn.body = some c)
    (hn : (fn.name == "runtime.NumGoroutine") = false) (hr : fn.results = outs.toArray) (hp : s.args.length ≤ fn.ntmps) (hkeep : (List.range s.args.length).all (keep.contains ·) = true)
    (h : ∀ ps, TyA s.args ps → s.pre ps → ∀ W, Rules E fn.ntmps keep (introTs 0 s.args ps).2.2 (finOf E outs s (introTs 0 s.args ps).1 ps) W →
      W [.code c] ⟨numb 0 (introTs 0 s.args ps).1, [], (introTs 0 s.args ps).2.1, (introTs 0 s.args ps).2.2⟩) : FnOk P fid s :=
  fn_mkG keep outs (fun _ => True) (fun _ _ _ _ _ => trivial) hE hm hf hb hn hr hp hkeep fun ps h1 h2 W hW _ => h ps h1 h2 W hW

end Go.Proofs.Ytkofjkjcbljkdaa
end

section
namespace Go.Proofs.Ytkofjkjcbljkdaa
variable [LaidG]

def nth (es : List PV) (i : Nat) : PV := es.getD i PV.d
theorem nth_fold (es : List PV) (i : Nat) : es.getD i PV.d = nth es i := rfl
theorem nth_zero (a : PV) (l : List PV) : nth (a :: l) 0 = a := rfl
theorem nth_succ (a : PV) (l : List PV) (n : Nat) : nth (a :: l) (n + 1) = nth l n := rfl
theorem pv_I (k : IntKind) (n : Int) : (PV.int k n).I = n := rfl
theorem pv_B (n : Bool) : (PV.bool n).B = n := rfl
theorem pv_S (n : List UInt8) : (PV.str n).S = n := rfl
theorem pv_L (n : List PV) : (PV.list n).L = n := rfl
theorem pv_A (n : List PV) : (PV.agg n).A = n := rfl
theorem pv_at (p : PV) (i : Nat) : p.at i = nth p.A i := rfl
theorem lv_int (k : IntKind) (n : Int) : (PV.int k n).leaves = [.int k n] := rfl
theorem lv_bool (n : Bool) : (PV.bool n).leaves = [.bool n] := rfl
theorem lv_str (n : List UInt8) : (PV.str n).leaves = [.str n] := rfl
theorem lv_list (n : List PV) : (PV.list n).leaves = [.list n] := rfl
theorem lv_agg (n : List PV) : (PV.agg n).leaves = n := rfl

theorem nth_eq {es : List PV} {i : Nat} (h : i < es.length) : nth es i = es[i] := by simp [nth, h]
theorem nth_mem {es : List PV} {i : Nat} (h : i < es.length) : nth es i ∈ es := by rw [nth_eq h]; exact List.getElem_mem h
theorem drop_nth {es : List PV} {i : Nat} (h : i < es.length) : es.drop i = nth es i :: es.drop (i + 1) := by
  rw [nth_eq h]; exact (List.drop_eq_getElem_cons h)
theorem take_nth {es : List PV} {i : Nat} (h : i < es.length) : es.take (i + 1) = es.take i ++ [nth es i] := by
  rw [nth_eq h]; exact List.take_succ_eq_append_getElem h
theorem nth_map {α : Type} (f : α → PV) (l : List α) (i : Nat) (h : i < l.length) : nth (l.map f) i = f l[i] := by simp [nth, h]

theorem wrap64 {n : Int} (h : -9223372036854775808 ≤ n ∧ n ≤ 9223372036854775807) : IntKind.i64.wrap n = n := by
  simp [IntKind.wrap, IntKind.signed, IntKind.bits]; omega

theorem wrapU64 {n : Int} (h : 0 ≤ n ∧ n ≤ 9223372036854775807) : IntKind.u64.wrap n = n := by
  simp [IntKind.wrap, IntKind.signed, IntKind.bits]; omega
theorem inR64 {n : Int} : inR .i64 n ↔ -9223372036854775808 ≤ n ∧ n ≤ 9223372036854775807 := by
  simp [inR, IntKind.min, IntKind.max, IntKind.signed, IntKind.bits]
theorem limN : LIM = 140737488355328 := rfl

end Go.Proofs.Ytkofjkjcbljkdaa
end

section
namespace Go.Proofs.Ytkofjkjcbljkdaa
variable [LaidG]
set_option maxRecDepth 100000

/-- int64 -/
noncomputable def T2 : TI := ⟨false, [.int .i64], 0, [], 8, .int .i64, false⟩
theorem T2_ok : TIok Try.prog 2 T2 := tiok_mk (i := Try.t2) Try.underlying2 Try.type2 rfl rfl rfl rfl rfl rfl (by kernel_rfl) (by decide) (by decide) (by decide) rfl (fun h => by cases h)
theorem T2_sz : T2.sz = 1 := rfl
theorem T2_pty : T2.pty = .int .i64 := rfl
/-- int -/
noncomputable def T3 : TI := ⟨false, [.int .i64], 0, [], 8, .int .i64, false⟩
theorem T3_ok : TIok Try.prog 3 T3 := tiok_mk (i := Try.t3) Try.underlying3 Try.type3 rfl rfl rfl rfl rfl rfl (by kernel_rfl) (by decide) (by decide) (by decide) rfl (fun h => by cases h)
theorem T3_sz : T3.sz = 1 := rfl
theorem T3_pty : T3.pty = .int .i64 := rfl
/-- bool -/
noncomputable def T4 : TI := ⟨false, [.bool], 0, [], 1, .bool, false⟩
theorem T4_ok : TIok Try.prog 4 T4 := tiok_mk (i := Try.t4) Try.underlying4 Try.type4 rfl rfl rfl rfl rfl rfl (by kernel_rfl) (by decide) (by decide) (by decide) rfl (fun h => by cases h)
theorem T4_sz : T4.sz = 1 := rfl
theorem T4_pty : T4.pty = .bool := rfl
/-- uint8 -/
noncomputable def T5 : TI := ⟨false, [.int .u8], 0, [], 1, .int .u8, false⟩
theorem T5_ok : TIok Try.prog 5 T5 := tiok_mk (i := Try.t5) Try.underlying5 Try.type5 rfl rfl rfl rfl rfl rfl (by kernel_rfl) (by decide) (by decide) (by decide) rfl (fun h => by cases h)
theorem T5_sz : T5.sz = 1 := rfl
theorem T5_pty : T5.pty = .int .u8 := rfl
/-- abi.BoundsErrorCode -/
noncomputable def T6 : TI := ⟨false, [.int .u8], 0, [], 1, .int .u8, false⟩
theorem T6_ok : TIok Try.prog 6 T6 := tiok_mk (i := Try.t6) Try.underlying6 Try.type6 rfl rfl rfl rfl rfl rfl (by kernel_rfl) (by decide) (by decide) (by decide) rfl (fun h => by cases h)
theorem T6_sz : T6.sz = 1 := rfl
theorem T6_pty : T6.pty = .int .u8 := rfl
/-- a struct -/
noncomputable def T7 : TI := ⟨true, [.int .i64, .int .i64, .bool, .int .u8], 0, [(0, 2), (1, 3), (2, 4), (3, 6)], 24, .struct (match Try.t7.desc with | .struct fs => fs | _ => #[]), true⟩
theorem T7_ok : TIok Try.prog 7 T7 := tiok_mk (i := Try.t7) Try.underlying7 Try.type7 rfl rfl rfl rfl rfl rfl (by kernel_rfl) (by decide) (by decide) (by decide) rfl (fun _ => ⟨Try.stoodInHeld7, Try.eqGuardType7⟩)
theorem T7_sz : T7.sz = 4 := rfl
theorem T7_pty : T7.pty = .agg [.int .i64, .int .i64, .bool, .int .u8] := rfl
/-- runtime.boundsError -/
noncomputable def T8 : TI := ⟨true, [.int .i64, .int .i64, .bool, .int .u8], 0, [(0, 2), (1, 3), (2, 4), (3, 6)], 24, .struct (match Try.t7.desc with | .struct fs => fs | _ => #[]), true⟩
theorem T8_ok : TIok Try.prog 8 T8 := tiok_mk (i := Try.t8) Try.underlying8 Try.type8 rfl rfl rfl rfl rfl rfl (by kernel_rfl) (by decide) (by decide) (by decide) rfl (fun _ => ⟨Try.stoodInHeld8, Try.eqGuardType8⟩)
theorem T8_sz : T8.sz = 4 := rfl
theorem T8_pty : T8.pty = .agg [.int .i64, .int .i64, .bool, .int .u8] := rfl
/-- string -/
noncomputable def T9 : TI := ⟨false, [.str], 0, [], 16, .string, false⟩
theorem T9_ok : TIok Try.prog 9 T9 := tiok_mk (i := Try.t9) Try.underlying9 Try.type9 rfl rfl rfl rfl rfl rfl (by kernel_rfl) (by decide) (by decide) (by decide) rfl (fun h => by cases h)
theorem T9_sz : T9.sz = 1 := rfl
theorem T9_pty : T9.pty = .str := rfl
/-- runtime.errorString -/
noncomputable def T10 : TI := ⟨false, [.str], 0, [], 16, .string, false⟩
theorem T10_ok : TIok Try.prog 10 T10 := tiok_mk (i := Try.t10) Try.underlying10 Try.type10 rfl rfl rfl rfl rfl rfl (by kernel_rfl) (by decide) (by decide) (by decide) rfl (fun h => by cases h)
theorem T10_sz : T10.sz = 1 := rfl
theorem T10_pty : T10.pty = .str := rfl
/-- runtime.plainError -/
noncomputable def T11 : TI := ⟨false, [.str], 0, [], 16, .string, false⟩
theorem T11_ok : TIok Try.prog 11 T11 := tiok_mk (i := Try.t11) Try.underlying11 Try.type11 rfl rfl rfl rfl rfl rfl (by kernel_rfl) (by decide) (by decide) (by decide) rfl (fun h => by cases h)
theorem T11_sz : T11.sz = 1 := rfl
theorem T11_pty : T11.pty = .str := rfl
/-- uintptr -/
noncomputable def T12 : TI := ⟨false, [.int .u64], 0, [], 8, .int .u64, false⟩
theorem T12_ok : TIok Try.prog 12 T12 := tiok_mk (i := Try.t12) Try.underlying12 Try.type12 rfl rfl rfl rfl rfl rfl (by kernel_rfl) (by decide) (by decide) (by decide) rfl (fun h => by cases h)
theorem T12_sz : T12.sz = 1 := rfl
theorem T12_pty : T12.pty = .int .u64 := rfl
/-- a struct -/
noncomputable def T13 : TI := ⟨true, [.str, .int .u64], 0, [(0, 9), (1, 12)], 24, .struct (match Try.t13.desc with | .struct fs => fs | _ => #[]), false⟩
theorem T13_ok : TIok Try.prog 13 T13 := tiok_mk (i := Try.t13) Try.underlying13 Try.type13 rfl rfl rfl rfl rfl rfl (by kernel_rfl) (by decide) (by decide) (by decide) rfl (fun h => by cases h)
theorem T13_sz : T13.sz = 2 := rfl
theorem T13_pty : T13.pty = .agg [.str, .int .u64] := rfl
/-- runtime.errorAddressString -/
noncomputable def T14 : TI := ⟨true, [.str, .int .u64], 0, [(0, 9), (1, 12)], 24, .struct (match Try.t13.desc with | .struct fs => fs | _ => #[]), false⟩
theorem T14_ok : TIok Try.prog 14 T14 := tiok_mk (i := Try.t14) Try.underlying14 Try.type14 rfl rfl rfl rfl rfl rfl (by kernel_rfl) (by decide) (by decide) (by decide) rfl (fun h => by cases h)
theorem T14_sz : T14.sz = 2 := rfl
theorem T14_pty : T14.pty = .agg [.str, .int .u64] := rfl
/-- *runtime.TypeAssertionError -/
noncomputable def T15 : TI := ⟨false, [.opq], 0, [], 8, .pointer 197, false⟩
theorem T15_ok : TIok Try.prog 15 T15 := tiok_mk (i := Try.t15) Try.underlying15 Try.type15 rfl rfl rfl rfl rfl rfl (by kernel_rfl) (by decide) (by decide) (by decide) rfl (fun h => by cases h)
theorem T15_sz : T15.sz = 1 := rfl
theorem T15_pty : T15.pty = .opq := rfl
/-- *runtime.PanicNilError -/
noncomputable def T16 : TI := ⟨false, [.opq], 0, [], 8, .pointer 200, false⟩
theorem T16_ok : TIok Try.prog 16 T16 := tiok_mk (i := Try.t16) Try.underlying16 Try.type16 rfl rfl rfl rfl rfl rfl (by kernel_rfl) (by decide) (by decide) (by decide) rfl (fun h => by cases h)
theorem T16_sz : T16.sz = 1 := rfl
theorem T16_pty : T16.pty = .opq := rfl
/-- *abi.Type -/
noncomputable def T17 : TI := ⟨false, [.opq], 0, [], 8, .pointer 207, false⟩
theorem T17_ok : TIok Try.prog 17 T17 := tiok_mk (i := Try.t17) Try.underlying17 Try.type17 rfl rfl rfl rfl rfl rfl (by kernel_rfl) (by decide) (by decide) (by decide) rfl (fun h => by cases h)
theorem T17_sz : T17.sz = 1 := rfl
theorem T17_pty : T17.pty = .opq := rfl
/-- a struct -/
noncomputable def T18 : TI := ⟨true, [.opq], 0, [(0, 17)], 8, .struct (match Try.t18.desc with | .struct fs => fs | _ => #[]), false⟩
theorem T18_ok : TIok Try.prog 18 T18 := tiok_mk (i := Try.t18) Try.underlying18 Try.type18 rfl rfl rfl rfl rfl rfl (by kernel_rfl) (by decide) (by decide) (by decide) rfl (fun h => by cases h)
theorem T18_sz : T18.sz = 1 := rfl
theorem T18_pty : T18.pty = .agg [.opq] := rfl
/-- maps.unhashableTypeError -/
noncomputable def T19 : TI := ⟨true, [.opq], 0, [(0, 17)], 8, .struct (match Try.t18.desc with | .struct fs => fs | _ => #[]), false⟩
theorem T19_ok : TIok Try.prog 19 T19 := tiok_mk (i := Try.t19) Try.underlying19 Try.type19 rfl rfl rfl rfl rfl rfl (by kernel_rfl) (by decide) (by decide) (by decide) rfl (fun h => by cases h)
theorem T19_sz : T19.sz = 1 := rfl
theorem T19_pty : T19.pty = .agg [.opq] := rfl
/-- int32 -/
noncomputable def T21 : TI := ⟨false, [.int .i32], 0, [], 4, .int .i32, false⟩
theorem T21_ok : TIok Try.prog 21 T21 := tiok_mk (i := Try.t21) Try.underlying21 Try.type21 rfl rfl rfl rfl rfl rfl (by kernel_rfl) (by decide) (by decide) (by decide) rfl (fun h => by cases h)
theorem T21_sz : T21.sz = 1 := rfl
theorem T21_pty : T21.pty = .int .i32 := rfl
/-- []uint8 -/
noncomputable def T22 : TI := ⟨false, [.list (.int .u8)], 5, [], 24, .slice 5, false⟩
theorem T22_ok : TIok Try.prog 22 T22 := tiok_mk (i := Try.t22) Try.underlying22 Try.type22 rfl rfl rfl rfl rfl rfl (by kernel_rfl) (by decide) (by decide) (by decide) rfl (fun h => by cases h)
theorem T22_sz : T22.sz = 1 := rfl
theorem T22_pty : T22.pty = .list (.int .u8) := rfl
/-- []impl.Entry -/
noncomputable def T23 : TI := ⟨false, [.list (.agg [.int .i64, .str])], 93, [], 24, .slice 93, false⟩
theorem T23_ok : TIok Try.prog 23 T23 := tiok_mk (i := Try.t23) Try.underlying23 Try.type23 rfl rfl rfl rfl rfl rfl (by kernel_rfl) (by decide) (by decide) (by decide) rfl (fun h => by cases h)
theorem T23_sz : T23.sz = 1 := rfl
theorem T23_pty : T23.pty = .list (.agg [.int .i64, .str]) := rfl
/-- []int -/
noncomputable def T24 : TI := ⟨false, [.list (.int .i64)], 3, [], 24, .slice 3, false⟩
theorem T24_ok : TIok Try.prog 24 T24 := tiok_mk (i := Try.t24) Try.underlying24 Try.type24 rfl rfl rfl rfl rfl rfl (by kernel_rfl) (by decide) (by decide) (by decide) rfl (fun h => by cases h)
theorem T24_sz : T24.sz = 1 := rfl
theorem T24_pty : T24.pty = .list (.int .i64) := rfl
/-- a struct -/
noncomputable def T25 : TI := ⟨true, [.int .i64, .int .i64, .int .i64, .int .i64, .int .i64, .bool, .list (.agg [.int .i64, .str]), .int .i64, .int .i64, .int .i64, .list (.int .i64), .list (.int .i64), .list (.int .i64)], 0, [(0, 3), (1, 3), (2, 3), (3, 3), (4, 3), (5, 4), (6, 23), (7, 3), (8, 3), (9, 3), (10, 24), (11, 24), (12, 24)], 168, .struct (match Try.t25.desc with | .struct fs => fs | _ => #[]), false⟩
theorem T25_ok : TIok Try.prog 25 T25 := tiok_mk (i := Try.t25) Try.underlying25 Try.type25 rfl rfl rfl rfl rfl rfl (by kernel_rfl) (by decide) (by decide) (by decide) rfl (fun h => by cases h)
theorem T25_sz : T25.sz = 13 := rfl
theorem T25_pty : T25.pty = .agg [.int .i64, .int .i64, .int .i64, .int .i64, .int .i64, .bool, .list (.agg [.int .i64, .str]), .int .i64, .int .i64, .int .i64, .list (.int .i64), .list (.int .i64), .list (.int .i64)] := rfl
/-- impl.Node -/
noncomputable def T26 : TI := ⟨true, [.int .i64, .int .i64, .int .i64, .int .i64, .int .i64, .bool, .list (.agg [.int .i64, .str]), .int .i64, .int .i64, .int .i64, .list (.int .i64), .list (.int .i64), .list (.int .i64)], 0, [(0, 3), (1, 3), (2, 3), (3, 3), (4, 3), (5, 4), (6, 23), (7, 3), (8, 3), (9, 3), (10, 24), (11, 24), (12, 24)], 168, .struct (match Try.t25.desc with | .struct fs => fs | _ => #[]), false⟩
theorem T26_ok : TIok Try.prog 26 T26 := tiok_mk (i := Try.t26) Try.underlying26 Try.type26 rfl rfl rfl rfl rfl rfl (by kernel_rfl) (by decide) (by decide) (by decide) rfl (fun h => by cases h)
theorem T26_sz : T26.sz = 13 := rfl
theorem T26_pty : T26.pty = .agg [.int .i64, .int .i64, .int .i64, .int .i64, .int .i64, .bool, .list (.agg [.int .i64, .str]), .int .i64, .int .i64, .int .i64, .list (.int .i64), .list (.int .i64), .list (.int .i64)] := rfl
/-- a struct -/
noncomputable def T29 : TI := ⟨true, [.int .i64, .int .i64, .int .i64, .int .i64, .int .i64, .int .i64, .int .i64, .bool, .list (.agg [.int .i64, .str])], 0, [(0, 3), (1, 3), (2, 3), (3, 3), (4, 3), (5, 3), (6, 3), (7, 4), (8, 23)], 88, .struct (match Try.t29.desc with | .struct fs => fs | _ => #[]), false⟩
theorem T29_ok : TIok Try.prog 29 T29 := tiok_mk (i := Try.t29) Try.underlying29 Try.type29 rfl rfl rfl rfl rfl rfl (by kernel_rfl) (by decide) (by decide) (by decide) rfl (fun h => by cases h)
theorem T29_sz : T29.sz = 9 := rfl
theorem T29_pty : T29.pty = .agg [.int .i64, .int .i64, .int .i64, .int .i64, .int .i64, .int .i64, .int .i64, .bool, .list (.agg [.int .i64, .str])] := rfl
/-- impl.Message -/
noncomputable def T30 : TI := ⟨true, [.int .i64, .int .i64, .int .i64, .int .i64, .int .i64, .int .i64, .int .i64, .bool, .list (.agg [.int .i64, .str])], 0, [(0, 3), (1, 3), (2, 3), (3, 3), (4, 3), (5, 3), (6, 3), (7, 4), (8, 23)], 88, .struct (match Try.t29.desc with | .struct fs => fs | _ => #[]), false⟩
theorem T30_ok : TIok Try.prog 30 T30 := tiok_mk (i := Try.t30) Try.underlying30 Try.type30 rfl rfl rfl rfl rfl rfl (by kernel_rfl) (by decide) (by decide) (by decide) rfl (fun h => by cases h)
theorem T30_sz : T30.sz = 9 := rfl
theorem T30_pty : T30.pty = .agg [.int .i64, .int .i64, .int .i64, .int .i64, .int .i64, .int .i64, .int .i64, .bool, .list (.agg [.int .i64, .str])] := rfl
/-- []impl.Message -/
noncomputable def T32 : TI := ⟨false, [.list (.agg [.int .i64, .int .i64, .int .i64, .int .i64, .int .i64, .int .i64, .int .i64, .bool, .list (.agg [.int .i64, .str])])], 30, [], 24, .slice 30, false⟩
theorem T32_ok : TIok Try.prog 32 T32 := tiok_mk (i := Try.t32) Try.underlying32 Try.type32 rfl rfl rfl rfl rfl rfl (by kernel_rfl) (by decide) (by decide) (by decide) rfl (fun h => by cases h)
theorem T32_sz : T32.sz = 1 := rfl
theorem T32_pty : T32.pty = .list (.agg [.int .i64, .int .i64, .int .i64, .int .i64, .int .i64, .int .i64, .int .i64, .bool, .list (.agg [.int .i64, .str])]) := rfl
/-- []string -/
noncomputable def T40 : TI := ⟨false, [.list (.str)], 9, [], 24, .slice 9, false⟩
theorem T40_ok : TIok Try.prog 40 T40 := tiok_mk (i := Try.t40) Try.underlying40 Try.type40 rfl rfl rfl rfl rfl rfl (by kernel_rfl) (by decide) (by decide) (by decide) rfl (fun h => by cases h)
theorem T40_sz : T40.sz = 1 := rfl
theorem T40_pty : T40.pty = .list (.str) := rfl
/-- []impl.Row -/
noncomputable def T46 : TI := ⟨false, [.list (.agg [.int .i64, .str])], 76, [], 24, .slice 76, false⟩
theorem T46_ok : TIok Try.prog 46 T46 := tiok_mk (i := Try.t46) Try.underlying46 Try.type46 rfl rfl rfl rfl rfl rfl (by kernel_rfl) (by decide) (by decide) (by decide) rfl (fun h => by cases h)
theorem T46_sz : T46.sz = 1 := rfl
theorem T46_pty : T46.pty = .list (.agg [.int .i64, .str]) := rfl
/-- a struct -/
noncomputable def T47 : TI := ⟨true, [.int .i64, .int .i64, .bool, .int .i64, .int .i64, .list (.agg [.int .i64, .str])], 0, [(0, 3), (1, 3), (2, 4), (3, 3), (4, 3), (5, 46)], 64, .struct (match Try.t47.desc with | .struct fs => fs | _ => #[]), false⟩
theorem T47_ok : TIok Try.prog 47 T47 := tiok_mk (i := Try.t47) Try.underlying47 Try.type47 rfl rfl rfl rfl rfl rfl (by kernel_rfl) (by decide) (by decide) (by decide) rfl (fun h => by cases h)
theorem T47_sz : T47.sz = 6 := rfl
theorem T47_pty : T47.pty = .agg [.int .i64, .int .i64, .bool, .int .i64, .int .i64, .list (.agg [.int .i64, .str])] := rfl
/-- impl.View -/
noncomputable def T48 : TI := ⟨true, [.int .i64, .int .i64, .bool, .int .i64, .int .i64, .list (.agg [.int .i64, .str])], 0, [(0, 3), (1, 3), (2, 4), (3, 3), (4, 3), (5, 46)], 64, .struct (match Try.t47.desc with | .struct fs => fs | _ => #[]), false⟩
theorem T48_ok : TIok Try.prog 48 T48 := tiok_mk (i := Try.t48) Try.underlying48 Try.type48 rfl rfl rfl rfl rfl rfl (by kernel_rfl) (by decide) (by decide) (by decide) rfl (fun h => by cases h)
theorem T48_sz : T48.sz = 6 := rfl
theorem T48_pty : T48.pty = .agg [.int .i64, .int .i64, .bool, .int .i64, .int .i64, .list (.agg [.int .i64, .str])] := rfl
/-- *spec.l00Src -/
noncomputable def T57 : TI := ⟨false, [.opq], 0, [], 8, .pointer 83, false⟩
theorem T57_ok : TIok Try.prog 57 T57 := tiok_mk (i := Try.t57) Try.underlying57 Try.type57 rfl rfl rfl rfl rfl rfl (by kernel_rfl) (by decide) (by decide) (by decide) rfl (fun h => by cases h)
theorem T57_sz : T57.sz = 1 := rfl
theorem T57_pty : T57.pty = .opq := rfl
/-- a struct -/
noncomputable def T75 : TI := ⟨true, [.int .i64, .str], 0, [(0, 3), (1, 9)], 24, .struct (match Try.t75.desc with | .struct fs => fs | _ => #[]), true⟩
theorem T75_ok : TIok Try.prog 75 T75 := tiok_mk (i := Try.t75) Try.underlying75 Try.type75 rfl rfl rfl rfl rfl rfl (by kernel_rfl) (by decide) (by decide) (by decide) rfl (fun _ => ⟨Try.stoodInHeld75, Try.eqGuardType75⟩)
theorem T75_sz : T75.sz = 2 := rfl
theorem T75_pty : T75.pty = .agg [.int .i64, .str] := rfl
/-- impl.Row -/
noncomputable def T76 : TI := ⟨true, [.int .i64, .str], 0, [(0, 3), (1, 9)], 24, .struct (match Try.t75.desc with | .struct fs => fs | _ => #[]), true⟩
theorem T76_ok : TIok Try.prog 76 T76 := tiok_mk (i := Try.t76) Try.underlying76 Try.type76 rfl rfl rfl rfl rfl rfl (by kernel_rfl) (by decide) (by decide) (by decide) rfl (fun _ => ⟨Try.stoodInHeld76, Try.eqGuardType76⟩)
theorem T76_sz : T76.sz = 2 := rfl
theorem T76_pty : T76.pty = .agg [.int .i64, .str] := rfl
/-- a struct -/
noncomputable def T82 : TI := ⟨true, [.list (.int .u8), .int .i64, .int .i64], 0, [(0, 22), (1, 3), (2, 3)], 40, .struct (match Try.t82.desc with | .struct fs => fs | _ => #[]), false⟩
theorem T82_ok : TIok Try.prog 82 T82 := tiok_mk (i := Try.t82) Try.underlying82 Try.type82 rfl rfl rfl rfl rfl rfl (by kernel_rfl) (by decide) (by decide) (by decide) rfl (fun h => by cases h)
theorem T82_sz : T82.sz = 3 := rfl
theorem T82_pty : T82.pty = .agg [.list (.int .u8), .int .i64, .int .i64] := rfl
/-- spec.l00Src -/
noncomputable def T83 : TI := ⟨true, [.list (.int .u8), .int .i64, .int .i64], 0, [(0, 22), (1, 3), (2, 3)], 40, .struct (match Try.t82.desc with | .struct fs => fs | _ => #[]), false⟩
theorem T83_ok : TIok Try.prog 83 T83 := tiok_mk (i := Try.t83) Try.underlying83 Try.type83 rfl rfl rfl rfl rfl rfl (by kernel_rfl) (by decide) (by decide) (by decide) rfl (fun h => by cases h)
theorem T83_sz : T83.sz = 3 := rfl
theorem T83_pty : T83.pty = .agg [.list (.int .u8), .int .i64, .int .i64] := rfl
/-- a struct -/
noncomputable def T86 : TI := ⟨true, [.int .i64, .int .i64, .list (.agg [.int .i64, .str])], 0, [(0, 3), (1, 3), (2, 23)], 40, .struct (match Try.t86.desc with | .struct fs => fs | _ => #[]), false⟩
theorem T86_ok : TIok Try.prog 86 T86 := tiok_mk (i := Try.t86) Try.underlying86 Try.type86 rfl rfl rfl rfl rfl rfl (by kernel_rfl) (by decide) (by decide) (by decide) rfl (fun h => by cases h)
theorem T86_sz : T86.sz = 3 := rfl
theorem T86_pty : T86.pty = .agg [.int .i64, .int .i64, .list (.agg [.int .i64, .str])] := rfl
/-- impl.State -/
noncomputable def T87 : TI := ⟨true, [.int .i64, .int .i64, .list (.agg [.int .i64, .str])], 0, [(0, 3), (1, 3), (2, 23)], 40, .struct (match Try.t86.desc with | .struct fs => fs | _ => #[]), false⟩
theorem T87_ok : TIok Try.prog 87 T87 := tiok_mk (i := Try.t87) Try.underlying87 Try.type87 rfl rfl rfl rfl rfl rfl (by kernel_rfl) (by decide) (by decide) (by decide) rfl (fun h => by cases h)
theorem T87_sz : T87.sz = 3 := rfl
theorem T87_pty : T87.pty = .agg [.int .i64, .int .i64, .list (.agg [.int .i64, .str])] := rfl
/-- a struct -/
noncomputable def T92 : TI := ⟨true, [.int .i64, .str], 0, [(0, 3), (1, 9)], 24, .struct (match Try.t92.desc with | .struct fs => fs | _ => #[]), true⟩
theorem T92_ok : TIok Try.prog 92 T92 := tiok_mk (i := Try.t92) Try.underlying92 Try.type92 rfl rfl rfl rfl rfl rfl (by kernel_rfl) (by decide) (by decide) (by decide) rfl (fun _ => ⟨Try.stoodInHeld92, Try.eqGuardType92⟩)
theorem T92_sz : T92.sz = 2 := rfl
theorem T92_pty : T92.pty = .agg [.int .i64, .str] := rfl
/-- impl.Entry -/
noncomputable def T93 : TI := ⟨true, [.int .i64, .str], 0, [(0, 3), (1, 9)], 24, .struct (match Try.t92.desc with | .struct fs => fs | _ => #[]), true⟩
theorem T93_ok : TIok Try.prog 93 T93 := tiok_mk (i := Try.t93) Try.underlying93 Try.type93 rfl rfl rfl rfl rfl rfl (by kernel_rfl) (by decide) (by decide) (by decide) rfl (fun _ => ⟨Try.stoodInHeld93, Try.eqGuardType93⟩)
theorem T93_sz : T93.sz = 2 := rfl
theorem T93_pty : T93.pty = .agg [.int .i64, .str] := rfl
/-- *impl.Node -/
noncomputable def T99 : TI := ⟨false, [.opq], 0, [], 8, .pointer 26, false⟩
theorem T99_ok : TIok Try.prog 99 T99 := tiok_mk (i := Try.t99) Try.underlying99 Try.type99 rfl rfl rfl rfl rfl rfl (by kernel_rfl) (by decide) (by decide) (by decide) rfl (fun h => by cases h)
theorem T99_sz : T99.sz = 1 := rfl
theorem T99_pty : T99.pty = .opq := rfl
/-- *spec.l08Run -/
noncomputable def T108 : TI := ⟨false, [.opq], 0, [], 8, .pointer 110, false⟩
theorem T108_ok : TIok Try.prog 108 T108 := tiok_mk (i := Try.t108) Try.underlying108 Try.type108 rfl rfl rfl rfl rfl rfl (by kernel_rfl) (by decide) (by decide) (by decide) rfl (fun h => by cases h)
theorem T108_sz : T108.sz = 1 := rfl
theorem T108_pty : T108.pty = .opq := rfl
/-- a struct -/
noncomputable def T109 : TI := ⟨true, [.int .i64, .int .i64, .int .i64, .int .i64, .int .i64, .bool, .list (.agg [.int .i64, .str]), .int .i64, .int .i64, .int .i64, .list (.int .i64), .list (.int .i64), .list (.int .i64), .list (.agg [.int .i64, .int .i64, .int .i64, .int .i64, .int .i64, .int .i64, .int .i64, .bool, .list (.agg [.int .i64, .str])])], 0, [(0, 26), (13, 32)], 192, .struct (match Try.t109.desc with | .struct fs => fs | _ => #[]), false⟩
theorem T109_ok : TIok Try.prog 109 T109 := tiok_mk (i := Try.t109) Try.underlying109 Try.type109 rfl rfl rfl rfl rfl rfl (by kernel_rfl) (by decide) (by decide) (by decide) rfl (fun h => by cases h)
theorem T109_sz : T109.sz = 14 := rfl
theorem T109_pty : T109.pty = .agg [.int .i64, .int .i64, .int .i64, .int .i64, .int .i64, .bool, .list (.agg [.int .i64, .str]), .int .i64, .int .i64, .int .i64, .list (.int .i64), .list (.int .i64), .list (.int .i64), .list (.agg [.int .i64, .int .i64, .int .i64, .int .i64, .int .i64, .int .i64, .int .i64, .bool, .list (.agg [.int .i64, .str])])] := rfl
/-- spec.l08Run -/
noncomputable def T110 : TI := ⟨true, [.int .i64, .int .i64, .int .i64, .int .i64, .int .i64, .bool, .list (.agg [.int .i64, .str]), .int .i64, .int .i64, .int .i64, .list (.int .i64), .list (.int .i64), .list (.int .i64), .list (.agg [.int .i64, .int .i64, .int .i64, .int .i64, .int .i64, .int .i64, .int .i64, .bool, .list (.agg [.int .i64, .str])])], 0, [(0, 26), (13, 32)], 192, .struct (match Try.t109.desc with | .struct fs => fs | _ => #[]), false⟩
theorem T110_ok : TIok Try.prog 110 T110 := tiok_mk (i := Try.t110) Try.underlying110 Try.type110 rfl rfl rfl rfl rfl rfl (by kernel_rfl) (by decide) (by decide) (by decide) rfl (fun h => by cases h)
theorem T110_sz : T110.sz = 14 := rfl
theorem T110_pty : T110.pty = .agg [.int .i64, .int .i64, .int .i64, .int .i64, .int .i64, .bool, .list (.agg [.int .i64, .str]), .int .i64, .int .i64, .int .i64, .list (.int .i64), .list (.int .i64), .list (.int .i64), .list (.agg [.int .i64, .int .i64, .int .i64, .int .i64, .int .i64, .int .i64, .int .i64, .bool, .list (.agg [.int .i64, .str])])] := rfl
/-- []impl.Cell -/
noncomputable def T114 : TI := ⟨false, [.list (.agg [.int .i64, .int .i64])], 146, [], 24, .slice 146, false⟩
theorem T114_ok : TIok Try.prog 114 T114 := tiok_mk (i := Try.t114) Try.underlying114 Try.type114 rfl rfl rfl rfl rfl rfl (by kernel_rfl) (by decide) (by decide) (by decide) rfl (fun h => by cases h)
theorem T114_sz : T114.sz = 1 := rfl
theorem T114_pty : T114.pty = .list (.agg [.int .i64, .int .i64]) := rfl
/-- a struct -/
noncomputable def T115 : TI := ⟨true, [.int .i64, .int .i64, .int .i64, .int .i64, .int .i64, .int .i64, .int .i64, .int .i64, .int .i64, .str, .list (.agg [.int .i64, .int .i64]), .list (.str)], 0, [(0, 3), (1, 3), (2, 3), (3, 3), (4, 3), (5, 3), (6, 3), (7, 3), (8, 3), (9, 9), (10, 114), (11, 40)], 136, .struct (match Try.t115.desc with | .struct fs => fs | _ => #[]), false⟩
theorem T115_ok : TIok Try.prog 115 T115 := tiok_mk (i := Try.t115) Try.underlying115 Try.type115 rfl rfl rfl rfl rfl rfl (by kernel_rfl) (by decide) (by decide) (by decide) rfl (fun h => by cases h)
theorem T115_sz : T115.sz = 12 := rfl
theorem T115_pty : T115.pty = .agg [.int .i64, .int .i64, .int .i64, .int .i64, .int .i64, .int .i64, .int .i64, .int .i64, .int .i64, .str, .list (.agg [.int .i64, .int .i64]), .list (.str)] := rfl
/-- impl.Screen -/
noncomputable def T116 : TI := ⟨true, [.int .i64, .int .i64, .int .i64, .int .i64, .int .i64, .int .i64, .int .i64, .int .i64, .int .i64, .str, .list (.agg [.int .i64, .int .i64]), .list (.str)], 0, [(0, 3), (1, 3), (2, 3), (3, 3), (4, 3), (5, 3), (6, 3), (7, 3), (8, 3), (9, 9), (10, 114), (11, 40)], 136, .struct (match Try.t115.desc with | .struct fs => fs | _ => #[]), false⟩
theorem T116_ok : TIok Try.prog 116 T116 := tiok_mk (i := Try.t116) Try.underlying116 Try.type116 rfl rfl rfl rfl rfl rfl (by kernel_rfl) (by decide) (by decide) (by decide) rfl (fun h => by cases h)
theorem T116_sz : T116.sz = 12 := rfl
theorem T116_pty : T116.pty = .agg [.int .i64, .int .i64, .int .i64, .int .i64, .int .i64, .int .i64, .int .i64, .int .i64, .int .i64, .str, .list (.agg [.int .i64, .int .i64]), .list (.str)] := rfl
/-- a struct -/
noncomputable def T118 : TI := ⟨true, [.int .i64, .list (.int .i64), .bool, .str, .str], 0, [(0, 3), (1, 24), (2, 4), (3, 9), (4, 9)], 72, .struct (match Try.t118.desc with | .struct fs => fs | _ => #[]), false⟩
theorem T118_ok : TIok Try.prog 118 T118 := tiok_mk (i := Try.t118) Try.underlying118 Try.type118 rfl rfl rfl rfl rfl rfl (by kernel_rfl) (by decide) (by decide) (by decide) rfl (fun h => by cases h)
theorem T118_sz : T118.sz = 5 := rfl
theorem T118_pty : T118.pty = .agg [.int .i64, .list (.int .i64), .bool, .str, .str] := rfl
/-- impl.Parser -/
noncomputable def T119 : TI := ⟨true, [.int .i64, .list (.int .i64), .bool, .str, .str], 0, [(0, 3), (1, 24), (2, 4), (3, 9), (4, 9)], 72, .struct (match Try.t118.desc with | .struct fs => fs | _ => #[]), false⟩
theorem T119_ok : TIok Try.prog 119 T119 := tiok_mk (i := Try.t119) Try.underlying119 Try.type119 rfl rfl rfl rfl rfl rfl (by kernel_rfl) (by decide) (by decide) (by decide) rfl (fun h => by cases h)
theorem T119_sz : T119.sz = 5 := rfl
theorem T119_pty : T119.pty = .agg [.int .i64, .list (.int .i64), .bool, .str, .str] := rfl
/-- uint -/
noncomputable def T140 : TI := ⟨false, [.int .u64], 0, [], 8, .int .u64, false⟩
theorem T140_ok : TIok Try.prog 140 T140 := tiok_mk (i := Try.t140) Try.underlying140 Try.type140 rfl rfl rfl rfl rfl rfl (by kernel_rfl) (by decide) (by decide) (by decide) rfl (fun h => by cases h)
theorem T140_sz : T140.sz = 1 := rfl
theorem T140_pty : T140.pty = .int .u64 := rfl
/-- a struct -/
noncomputable def T145 : TI := ⟨true, [.int .i64, .int .i64], 0, [(0, 3), (1, 3)], 16, .struct (match Try.t145.desc with | .struct fs => fs | _ => #[]), true⟩
theorem T145_ok : TIok Try.prog 145 T145 := tiok_mk (i := Try.t145) Try.underlying145 Try.type145 rfl rfl rfl rfl rfl rfl (by kernel_rfl) (by decide) (by decide) (by decide) rfl (fun _ => ⟨Try.stoodInHeld145, Try.eqGuardType145⟩)
theorem T145_sz : T145.sz = 2 := rfl
theorem T145_pty : T145.pty = .agg [.int .i64, .int .i64] := rfl
/-- impl.Cell -/
noncomputable def T146 : TI := ⟨true, [.int .i64, .int .i64], 0, [(0, 3), (1, 3)], 16, .struct (match Try.t145.desc with | .struct fs => fs | _ => #[]), true⟩
theorem T146_ok : TIok Try.prog 146 T146 := tiok_mk (i := Try.t146) Try.underlying146 Try.type146 rfl rfl rfl rfl rfl rfl (by kernel_rfl) (by decide) (by decide) (by decide) rfl (fun _ => ⟨Try.stoodInHeld146, Try.eqGuardType146⟩)
theorem T146_sz : T146.sz = 2 := rfl
theorem T146_pty : T146.pty = .agg [.int .i64, .int .i64] := rfl
/-- []impl.Action -/
noncomputable def T148 : TI := ⟨false, [.list (.agg [.int .i64, .int .i64, .bool, .list (.int .i64), .str])], 157, [], 24, .slice 157, false⟩
theorem T148_ok : TIok Try.prog 148 T148 := tiok_mk (i := Try.t148) Try.underlying148 Try.type148 rfl rfl rfl rfl rfl rfl (by kernel_rfl) (by decide) (by decide) (by decide) rfl (fun h => by cases h)
theorem T148_sz : T148.sz = 1 := rfl
theorem T148_pty : T148.pty = .list (.agg [.int .i64, .int .i64, .bool, .list (.int .i64), .str]) := rfl
/-- *spec.l04Run -/
noncomputable def T151 : TI := ⟨false, [.opq], 0, [], 8, .pointer 154, false⟩
theorem T151_ok : TIok Try.prog 151 T151 := tiok_mk (i := Try.t151) Try.underlying151 Try.type151 rfl rfl rfl rfl rfl rfl (by kernel_rfl) (by decide) (by decide) (by decide) rfl (fun h => by cases h)
theorem T151_sz : T151.sz = 1 := rfl
theorem T151_pty : T151.pty = .opq := rfl
/-- a struct -/
noncomputable def T153 : TI := ⟨true, [.int .i64, .int .i64, .int .i64, .int .i64, .int .i64, .int .i64, .int .i64, .int .i64, .int .i64, .str, .list (.agg [.int .i64, .int .i64]), .list (.str)], 0, [(0, 116)], 136, .struct (match Try.t153.desc with | .struct fs => fs | _ => #[]), false⟩
theorem T153_ok : TIok Try.prog 153 T153 := tiok_mk (i := Try.t153) Try.underlying153 Try.type153 rfl rfl rfl rfl rfl rfl (by kernel_rfl) (by decide) (by decide) (by decide) rfl (fun h => by cases h)
theorem T153_sz : T153.sz = 12 := rfl
theorem T153_pty : T153.pty = .agg [.int .i64, .int .i64, .int .i64, .int .i64, .int .i64, .int .i64, .int .i64, .int .i64, .int .i64, .str, .list (.agg [.int .i64, .int .i64]), .list (.str)] := rfl
/-- spec.l04Run -/
noncomputable def T154 : TI := ⟨true, [.int .i64, .int .i64, .int .i64, .int .i64, .int .i64, .int .i64, .int .i64, .int .i64, .int .i64, .str, .list (.agg [.int .i64, .int .i64]), .list (.str)], 0, [(0, 116)], 136, .struct (match Try.t153.desc with | .struct fs => fs | _ => #[]), false⟩
theorem T154_ok : TIok Try.prog 154 T154 := tiok_mk (i := Try.t154) Try.underlying154 Try.type154 rfl rfl rfl rfl rfl rfl (by kernel_rfl) (by decide) (by decide) (by decide) rfl (fun h => by cases h)
theorem T154_sz : T154.sz = 12 := rfl
theorem T154_pty : T154.pty = .agg [.int .i64, .int .i64, .int .i64, .int .i64, .int .i64, .int .i64, .int .i64, .int .i64, .int .i64, .str, .list (.agg [.int .i64, .int .i64]), .list (.str)] := rfl
/-- a struct -/
noncomputable def T156 : TI := ⟨true, [.int .i64, .int .i64, .bool, .list (.int .i64), .str], 0, [(0, 3), (1, 3), (2, 4), (3, 24), (4, 9)], 64, .struct (match Try.t156.desc with | .struct fs => fs | _ => #[]), false⟩
theorem T156_ok : TIok Try.prog 156 T156 := tiok_mk (i := Try.t156) Try.underlying156 Try.type156 rfl rfl rfl rfl rfl rfl (by kernel_rfl) (by decide) (by decide) (by decide) rfl (fun h => by cases h)
theorem T156_sz : T156.sz = 5 := rfl
theorem T156_pty : T156.pty = .agg [.int .i64, .int .i64, .bool, .list (.int .i64), .str] := rfl
/-- impl.Action -/
noncomputable def T157 : TI := ⟨true, [.int .i64, .int .i64, .bool, .list (.int .i64), .str], 0, [(0, 3), (1, 3), (2, 4), (3, 24), (4, 9)], 64, .struct (match Try.t156.desc with | .struct fs => fs | _ => #[]), false⟩
theorem T157_ok : TIok Try.prog 157 T157 := tiok_mk (i := Try.t157) Try.underlying157 Try.type157 rfl rfl rfl rfl rfl rfl (by kernel_rfl) (by decide) (by decide) (by decide) rfl (fun h => by cases h)
theorem T157_sz : T157.sz = 5 := rfl
theorem T157_pty : T157.pty = .agg [.int .i64, .int .i64, .bool, .list (.int .i64), .str] := rfl
/-- *spec.l03Run -/
noncomputable def T171 : TI := ⟨false, [.opq], 0, [], 8, .pointer 174, false⟩
theorem T171_ok : TIok Try.prog 171 T171 := tiok_mk (i := Try.t171) Try.underlying171 Try.type171 rfl rfl rfl rfl rfl rfl (by kernel_rfl) (by decide) (by decide) (by decide) rfl (fun h => by cases h)
theorem T171_sz : T171.sz = 1 := rfl
theorem T171_pty : T171.pty = .opq := rfl
/-- a struct -/
noncomputable def T173 : TI := ⟨true, [.int .i64, .list (.int .i64), .bool, .str, .str, .list (.agg [.int .i64, .int .i64, .bool, .list (.int .i64), .str])], 0, [(0, 119), (5, 148)], 96, .struct (match Try.t173.desc with | .struct fs => fs | _ => #[]), false⟩
theorem T173_ok : TIok Try.prog 173 T173 := tiok_mk (i := Try.t173) Try.underlying173 Try.type173 rfl rfl rfl rfl rfl rfl (by kernel_rfl) (by decide) (by decide) (by decide) rfl (fun h => by cases h)
theorem T173_sz : T173.sz = 6 := rfl
theorem T173_pty : T173.pty = .agg [.int .i64, .list (.int .i64), .bool, .str, .str, .list (.agg [.int .i64, .int .i64, .bool, .list (.int .i64), .str])] := rfl
/-- spec.l03Run -/
noncomputable def T174 : TI := ⟨true, [.int .i64, .list (.int .i64), .bool, .str, .str, .list (.agg [.int .i64, .int .i64, .bool, .list (.int .i64), .str])], 0, [(0, 119), (5, 148)], 96, .struct (match Try.t173.desc with | .struct fs => fs | _ => #[]), false⟩
theorem T174_ok : TIok Try.prog 174 T174 := tiok_mk (i := Try.t174) Try.underlying174 Try.type174 rfl rfl rfl rfl rfl rfl (by kernel_rfl) (by decide) (by decide) (by decide) rfl (fun h => by cases h)
theorem T174_sz : T174.sz = 6 := rfl
theorem T174_pty : T174.pty = .agg [.int .i64, .list (.int .i64), .bool, .str, .str, .list (.agg [.int .i64, .int .i64, .bool, .list (.int .i64), .str])] := rfl
/-- *uint8 -/
noncomputable def T175 : TI := ⟨false, [.opq], 0, [], 8, .pointer 5, false⟩
theorem T175_ok : TIok Try.prog 175 T175 := tiok_mk (i := Try.t175) Try.underlying175 Try.type175 rfl rfl rfl rfl rfl rfl (by kernel_rfl) (by decide) (by decide) (by decide) rfl (fun h => by cases h)
theorem T175_sz : T175.sz = 1 := rfl
theorem T175_pty : T175.pty = .opq := rfl
/-- *impl.Screen -/
noncomputable def T182 : TI := ⟨false, [.opq], 0, [], 8, .pointer 116, false⟩
theorem T182_ok : TIok Try.prog 182 T182 := tiok_mk (i := Try.t182) Try.underlying182 Try.type182 rfl rfl rfl rfl rfl rfl (by kernel_rfl) (by decide) (by decide) (by decide) rfl (fun h => by cases h)
theorem T182_sz : T182.sz = 1 := rfl
theorem T182_pty : T182.pty = .opq := rfl
/-- uint32 -/
noncomputable def T189 : TI := ⟨false, [.int .u32], 0, [], 4, .int .u32, false⟩
theorem T189_ok : TIok Try.prog 189 T189 := tiok_mk (i := Try.t189) Try.underlying189 Try.type189 rfl rfl rfl rfl rfl rfl (by kernel_rfl) (by decide) (by decide) (by decide) rfl (fun h => by cases h)
theorem T189_sz : T189.sz = 1 := rfl
theorem T189_pty : T189.pty = .int .u32 := rfl
/-- uint64 -/
noncomputable def T192 : TI := ⟨false, [.int .u64], 0, [], 8, .int .u64, false⟩
theorem T192_ok : TIok Try.prog 192 T192 := tiok_mk (i := Try.t192) Try.underlying192 Try.type192 rfl rfl rfl rfl rfl rfl (by kernel_rfl) (by decide) (by decide) (by decide) rfl (fun h => by cases h)
theorem T192_sz : T192.sz = 1 := rfl
theorem T192_pty : T192.pty = .int .u64 := rfl
/-- a struct -/
noncomputable def T196 : TI := ⟨true, [.opq, .opq, .opq, .str], 0, [(0, 17), (1, 17), (2, 17), (3, 9)], 40, .struct (match Try.t196.desc with | .struct fs => fs | _ => #[]), false⟩
theorem T196_ok : TIok Try.prog 196 T196 := tiok_mk (i := Try.t196) Try.underlying196 Try.type196 rfl rfl rfl rfl rfl rfl (by kernel_rfl) (by decide) (by decide) (by decide) rfl (fun h => by cases h)
theorem T196_sz : T196.sz = 4 := rfl
theorem T196_pty : T196.pty = .agg [.opq, .opq, .opq, .str] := rfl
/-- runtime.TypeAssertionError -/
noncomputable def T197 : TI := ⟨true, [.opq, .opq, .opq, .str], 0, [(0, 17), (1, 17), (2, 17), (3, 9)], 40, .struct (match Try.t196.desc with | .struct fs => fs | _ => #[]), false⟩
theorem T197_ok : TIok Try.prog 197 T197 := tiok_mk (i := Try.t197) Try.underlying197 Try.type197 rfl rfl rfl rfl rfl rfl (by kernel_rfl) (by decide) (by decide) (by decide) rfl (fun h => by cases h)
theorem T197_sz : T197.sz = 4 := rfl
theorem T197_pty : T197.pty = .agg [.opq, .opq, .opq, .str] := rfl
/-- abi.TFlag -/
noncomputable def T201 : TI := ⟨false, [.int .u8], 0, [], 1, .int .u8, false⟩
theorem T201_ok : TIok Try.prog 201 T201 := tiok_mk (i := Try.t201) Try.underlying201 Try.type201 rfl rfl rfl rfl rfl rfl (by kernel_rfl) (by decide) (by decide) (by decide) rfl (fun h => by cases h)
theorem T201_sz : T201.sz = 1 := rfl
theorem T201_pty : T201.pty = .int .u8 := rfl
/-- abi.Kind -/
noncomputable def T202 : TI := ⟨false, [.int .u8], 0, [], 1, .int .u8, false⟩
theorem T202_ok : TIok Try.prog 202 T202 := tiok_mk (i := Try.t202) Try.underlying202 Try.type202 rfl rfl rfl rfl rfl rfl (by kernel_rfl) (by decide) (by decide) (by decide) rfl (fun h => by cases h)
theorem T202_sz : T202.sz = 1 := rfl
theorem T202_pty : T202.pty = .int .u8 := rfl
/-- abi.NameOff -/
noncomputable def T204 : TI := ⟨false, [.int .i32], 0, [], 4, .int .i32, false⟩
theorem T204_ok : TIok Try.prog 204 T204 := tiok_mk (i := Try.t204) Try.underlying204 Try.type204 rfl rfl rfl rfl rfl rfl (by kernel_rfl) (by decide) (by decide) (by decide) rfl (fun h => by cases h)
theorem T204_sz : T204.sz = 1 := rfl
theorem T204_pty : T204.pty = .int .i32 := rfl
/-- abi.TypeOff -/
noncomputable def T205 : TI := ⟨false, [.int .i32], 0, [], 4, .int .i32, false⟩
theorem T205_ok : TIok Try.prog 205 T205 := tiok_mk (i := Try.t205) Try.underlying205 Try.type205 rfl rfl rfl rfl rfl rfl (by kernel_rfl) (by decide) (by decide) (by decide) rfl (fun h => by cases h)
theorem T205_sz : T205.sz = 1 := rfl
theorem T205_pty : T205.pty = .int .i32 := rfl
noncomputable def tyTab : List (Nat × TI) := [(2, T2), (3, T3), (4, T4), (5, T5), (6, T6), (7, T7), (8, T8), (9, T9), (10, T10), (11, T11), (12, T12), (13, T13), (14, T14), (15, T15), (16, T16), (17, T17), (18, T18), (19, T19), (21, T21), (22, T22), (23, T23), (24, T24), (25, T25), (26, T26), (29, T29), (30, T30), (32, T32), (40, T40), (46, T46), (47, T47), (48, T48), (57, T57), (75, T75), (76, T76), (82, T82), (83, T83), (86, T86), (87, T87), (92, T92), (93, T93), (99, T99), (108, T108), (109, T109), (110, T110), (114, T114), (115, T115), (116, T116), (118, T118), (119, T119), (140, T140), (145, T145), (146, T146), (148, T148), (151, T151), (153, T153), (154, T154), (156, T156), (157, T157), (171, T171), (173, T173), (174, T174), (175, T175), (182, T182), (189, T189), (192, T192), (196, T196), (197, T197), (201, T201), (202, T202), (204, T204), (205, T205)]
theorem ty2 : lk tyTab 2 = some T2 := rfl
theorem ty3 : lk tyTab 3 = some T3 := rfl
theorem ty4 : lk tyTab 4 = some T4 := rfl
theorem ty5 : lk tyTab 5 = some T5 := rfl
theorem ty6 : lk tyTab 6 = some T6 := rfl
theorem ty7 : lk tyTab 7 = some T7 := rfl
theorem ty8 : lk tyTab 8 = some T8 := rfl
theorem ty9 : lk tyTab 9 = some T9 := rfl
theorem ty10 : lk tyTab 10 = some T10 := rfl
theorem ty11 : lk tyTab 11 = some T11 := rfl
theorem ty12 : lk tyTab 12 = some T12 := rfl
theorem ty13 : lk tyTab 13 = some T13 := rfl
theorem ty14 : lk tyTab 14 = some T14 := rfl
theorem ty15 : lk tyTab 15 = some T15 := rfl
theorem ty16 : lk tyTab 16 = some T16 := rfl
theorem ty17 : lk tyTab 17 = some T17 := rfl
theorem ty18 : lk tyTab 18 = some T18 := rfl
theorem ty19 : lk tyTab 19 = some T19 := rfl
theorem ty21 : lk tyTab 21 = some T21 := rfl
theorem ty22 : lk tyTab 22 = some T22 := rfl
theorem ty23 : lk tyTab 23 = some T23 := rfl
theorem ty24 : lk tyTab 24 = some T24 := rfl
theorem ty25 : lk tyTab 25 = some T25 := rfl
theorem ty26 : lk tyTab 26 = some T26 := rfl
theorem ty29 : lk tyTab 29 = some T29 := rfl
theorem ty30 : lk tyTab 30 = some T30 := rfl
theorem ty32 : lk tyTab 32 = some T32 := rfl
theorem ty40 : lk tyTab 40 = some T40 := rfl
theorem ty46 : lk tyTab 46 = some T46 := rfl
theorem ty47 : lk tyTab 47 = some T47 := rfl
theorem ty48 : lk tyTab 48 = some T48 := rfl
theorem ty57 : lk tyTab 57 = some T57 := rfl
theorem ty75 : lk tyTab 75 = some T75 := rfl
theorem ty76 : lk tyTab 76 = some T76 := rfl
theorem ty82 : lk tyTab 82 = some T82 := rfl
theorem ty83 : lk tyTab 83 = some T83 := rfl
theorem ty86 : lk tyTab 86 = some T86 := rfl
theorem ty87 : lk tyTab 87 = some T87 := rfl
theorem ty92 : lk tyTab 92 = some T92 := rfl
theorem ty93 : lk tyTab 93 = some T93 := rfl
theorem ty99 : lk tyTab 99 = some T99 := rfl
theorem ty108 : lk tyTab 108 = some T108 := rfl
theorem ty109 : lk tyTab 109 = some T109 := rfl
theorem ty110 : lk tyTab 110 = some T110 := rfl
theorem ty114 : lk tyTab 114 = some T114 := rfl
theorem ty115 : lk tyTab 115 = some T115 := rfl
theorem ty116 : lk tyTab 116 = some T116 := rfl
theorem ty118 : lk tyTab 118 = some T118 := rfl
theorem ty119 : lk tyTab 119 = some T119 := rfl
theorem ty140 : lk tyTab 140 = some T140 := rfl
theorem ty145 : lk tyTab 145 = some T145 := rfl
theorem ty146 : lk tyTab 146 = some T146 := rfl
theorem ty148 : lk tyTab 148 = some T148 := rfl
theorem ty151 : lk tyTab 151 = some T151 := rfl
theorem ty153 : lk tyTab 153 = some T153 := rfl
theorem ty154 : lk tyTab 154 = some T154 := rfl
theorem ty156 : lk tyTab 156 = some T156 := rfl
theorem ty157 : lk tyTab 157 = some T157 := rfl
theorem ty171 : lk tyTab 171 = some T171 := rfl
theorem ty173 : lk tyTab 173 = some T173 := rfl
theorem ty174 : lk tyTab 174 = some T174 := rfl
theorem ty175 : lk tyTab 175 = some T175 := rfl
theorem ty182 : lk tyTab 182 = some T182 := rfl
theorem ty189 : lk tyTab 189 = some T189 := rfl
theorem ty192 : lk tyTab 192 = some T192 := rfl
theorem ty196 : lk tyTab 196 = some T196 := rfl
theorem ty197 : lk tyTab 197 = some T197 := rfl
theorem ty201 : lk tyTab 201 = some T201 := rfl
theorem ty202 : lk tyTab 202 = some T202 := rfl
theorem ty204 : lk tyTab 204 = some T204 := rfl
theorem ty205 : lk tyTab 205 = some T205 := rfl
theorem tyTab_ok (fns : List ((Nat × List Nat) × FSpec)) : EnvTy Try.prog ⟨tyTab, fns⟩ := by
  have key : ∀ l : List (Nat × TI), (∀ p ∈ l, TIok Try.prog p.1 p.2) → ∀ t ti, lk l t = some ti → TIok Try.prog t ti := by
    intro l
    induction l with
    | nil => intro _ t ti h; cases h
    | cons p l ih =>
      intro hl t ti h
      obtain ⟨i, x⟩ := p
      simp only [lk] at h
      split at h
      · rename_i e; subst e; cases h; exact hl (i, ti) (by simp)
      · exact ih (fun p hp => hl p (by simp [hp])) t ti h
  refine key tyTab ?_
  simp only [tyTab, List.mem_cons, List.not_mem_nil, or_false, forall_eq_or_imp, forall_eq]
  exact ⟨T2_ok, T3_ok, T4_ok, T5_ok, T6_ok, T7_ok, T8_ok, T9_ok, T10_ok, T11_ok, T12_ok, T13_ok, T14_ok, T15_ok, T16_ok, T17_ok, T18_ok, T19_ok, T21_ok, T22_ok, T23_ok, T24_ok, T25_ok, T26_ok, T29_ok, T30_ok, T32_ok, T40_ok, T46_ok, T47_ok, T48_ok, T57_ok, T75_ok, T76_ok, T82_ok, T83_ok, T86_ok, T87_ok, T92_ok, T93_ok, T99_ok, T108_ok, T109_ok, T110_ok, T114_ok, T115_ok, T116_ok, T118_ok, T119_ok, T140_ok, T145_ok, T146_ok, T148_ok, T151_ok, T153_ok, T154_ok, T156_ok, T157_ok, T171_ok, T173_ok, T174_ok, T175_ok, T182_ok, T189_ok, T192_ok, T196_ok, T197_ok, T201_ok, T202_ok, T204_ok, T205_ok⟩
theorem mixed : Try.prog.follows .mixedOrders = true := by kernel_rfl
attribute [simp] nth_fold nth_zero nth_succ pv_I pv_B pv_S pv_L pv_A pv_at lv_int lv_bool lv_str lv_list lv_agg PTy.leaves PTy.wd inR TI.sz TI.pty lk set1 memB anyB kill strike stillH unpath still prom proms dpB dpAll ndB isNil shOk takeIn takeOk St.slot ofConst1 ofConsts ofConst St.ev SV.cells SV.ofCells SV.leafB leafAll fixL zeroSV zeroSVs zeroLf zeroLfs zeroPV resL resLs resB resBs resT resTs resEs introL noP elP introV introVs packV binI eqSVs shpV binS imp evs closes findFn slsOf slsAll argLs argsLs pathOf rdHs1 rdHsL rdHs bsHs rdsHs rdOk lendOk backL keepS backs ownersOf allRd soleMt firstP callRd callPt callOw callOwn callRes idxs oprs fillSV partsOk convRes viewE viewA pathE pathA sliceRes evO etaL storeEl loadEl flatL flatLs flatB leafD leafDs dataB ownO sameO isStruct aggOk leafAt srcOf joinB joinOk appRes copyTo copyRes builtinRes loadHy eqCs lvsOf opRes0 svInts repT leafB arrRes opRes nilRes guardOf csz ksz unwd dstOk putS vcK vwCall skipR stepD vcD stays growP rdCall convP slcB rn entV entVs entR entO entH hlts domH entA entL ent itVal hsV hsVs itSlots itBoxes dropL hsL hsA onlyR gcH gcA itKeep itReach itLay itSt mr mrs itRho itOk introB introBs introR introX introS introT introTs nL lkAll numb resKp resMs retOk mtTy bxCs mtSls mtHs finFr finOf SV.lt SV.lts IntKind.min IntKind.max IntKind.signed IntKind.bits LIM
attribute [simp] ty2 T2_sz T2_pty T2 ty3 T3_sz T3_pty T3 ty4 T4_sz T4_pty T4 ty5 T5_sz T5_pty T5 ty6 T6_sz T6_pty T6 ty7 T7_sz T7_pty T7 ty8 T8_sz T8_pty T8 ty9 T9_sz T9_pty T9 ty10 T10_sz T10_pty T10 ty11 T11_sz T11_pty T11 ty12 T12_sz T12_pty T12 ty13 T13_sz T13_pty T13 ty14 T14_sz T14_pty T14 ty15 T15_sz T15_pty T15 ty16 T16_sz T16_pty T16 ty17 T17_sz T17_pty T17 ty18 T18_sz T18_pty T18 ty19 T19_sz T19_pty T19 ty21 T21_sz T21_pty T21 ty22 T22_sz T22_pty T22 ty23 T23_sz T23_pty T23 ty24 T24_sz T24_pty T24 ty25 T25_sz T25_pty T25 ty26 T26_sz T26_pty T26 ty29 T29_sz T29_pty T29 ty30 T30_sz T30_pty T30 ty32 T32_sz T32_pty T32 ty40 T40_sz T40_pty T40 ty46 T46_sz T46_pty T46 ty47 T47_sz T47_pty T47 ty48 T48_sz T48_pty T48 ty57 T57_sz T57_pty T57 ty75 T75_sz T75_pty T75 ty76 T76_sz T76_pty T76 ty82 T82_sz T82_pty T82 ty83 T83_sz T83_pty T83 ty86 T86_sz T86_pty T86 ty87 T87_sz T87_pty T87 ty92 T92_sz T92_pty T92 ty93 T93_sz T93_pty T93 ty99 T99_sz T99_pty T99 ty108 T108_sz T108_pty T108 ty109 T109_sz T109_pty T109 ty110 T110_sz T110_pty T110 ty114 T114_sz T114_pty T114 ty115 T115_sz T115_pty T115 ty116 T116_sz T116_pty T116 ty118 T118_sz T118_pty T118 ty119 T119_sz T119_pty T119 ty140 T140_sz T140_pty T140 ty145 T145_sz T145_pty T145 ty146 T146_sz T146_pty T146 ty148 T148_sz T148_pty T148 ty151 T151_sz T151_pty T151 ty153 T153_sz T153_pty T153 ty154 T154_sz T154_pty T154 ty156 T156_sz T156_pty T156 ty157 T157_sz T157_pty T157 ty171 T171_sz T171_pty T171 ty173 T173_sz T173_pty T173 ty174 T174_sz T174_pty T174 ty175 T175_sz T175_pty T175 ty182 T182_sz T182_pty T182 ty189 T189_sz T189_pty T189 ty192 T192_sz T192_pty T192 ty196 T196_sz T196_pty T196 ty197 T197_sz T197_pty T197 ty201 T201_sz T201_pty T201 ty202 T202_sz T202_pty T202 ty204 T204_sz T204_pty T204 ty205 T205_sz T205_pty T205

end Go.Proofs.Ytkofjkjcbljkdaa
end

section
namespace Go.Proofs.Ytkofjkjcbljkdaa
variable [LaidG]
open Go.Lib Go.RowKit
set_option linter.unusedVariables false

section
variable {P : Program} {w : World}

theorem app_str (t u ty e : TypeId) (i : TypeInfo) (ht : P.underlying t = some (.slice e)) (hu : P.underlying u = some .string) (hi : P.info? e = some i) (hz : i.zero = some (.int .u8 0)) (hsize : i.size = 1) (hby : i.bytes = 1)
    (v : Value) (n : Nat) (xs : List Value) (hown : w.ownsRow 0 e 1 v n xs) (s : ByteArray) (h63 : n + s.size ≤ maxLen) (hbytes : n + s.size ≤ 140737488355328) :
    ∃ v' w', (Builtin.append_ #[t, u] ty #[v, .string s]).run P w = .ok v' w' ∧ w'.ownsRow 0 e 1 v' (n + s.size) (xs ++ strCells s) ∧ w.grownBy w' v.ownBlock ∧ (v'.ownBlock = v.ownBlock ∨ v'.ownBlock = some w.heap.size) := by
  obtain ⟨v', w', hr, h2, h3, h4⟩ := run_append_own_string (P := P) w 0 t u ty e i ht hu hi hz hsize hby v n xs hown s h63 hbytes (Nat.zero_le _)
  refine ⟨v', w', hr, h2, h3, ?_⟩
  have hxl : xs.length = n := by simpa using hown.1
  simp only [maxLen] at h63
  have hown' := hown
  rcases hown.2 with ⟨rfl, rfl⟩ | ⟨g, cap, cur, rfl, _, hg, hnc, hcm, hcs, htake⟩
  · by_cases hm : s.size = 0
    · rw [h4.2 ⟨rfl, hm⟩]; exact .inl rfl
    · have h5 := run_append_nil_string (P := P) w t u ty e i (.int .u8 0) ht hu hi hz s (by omega) (by omega) (by rw [hby]; omega)
      rw [h5] at hr; cases hr; exact .inr rfl
  · by_cases hroom : n + s.size ≤ cap
    · have h5 := run_append_room_string (P := P) w t u ty e i ht hu hi hsize g n cap cur hg s hroom (by rw [Nat.mul_one] at hcs; omega)
      rw [h5] at hr; cases hr; exact .inl rfl
    · have h5 := run_append_grow_string (P := P) w t u ty e i (.int .u8 0) ht hu hi hz ⟨g, 0, none⟩ n cap xs (by rw [hsize]; simpa using hxl) (hown'.cells (g := g) rfl) s (by omega) (by omega) (by rw [hby]; exact growslice_fits (by omega) (by omega))
      rw [h5] at hr; cases hr; exact .inr rfl

theorem app_row (t ty e : TypeId) (i : TypeInfo) (ht : P.underlying t = some (.slice e)) (hi : P.info? e = some i) (hz : i.zero = some (.int .u8 0)) (hsize : i.size = 1) (hby : i.bytes = 1)
    (v : Value) (n : Nat) (xs : List Value) (hown : w.ownsRow 0 e 1 v n xs) (ad : Addr) (x : Value) (hx : w.cell? ad = some x) (h1 : x.oneCell' = true) (hbytes : n + 1 ≤ 140737488355328) :
    ∃ v' w', (Builtin.append_ #[t, t] ty #[v, .slice (some ad) 1 1]).run P w = .ok v' w' ∧ w'.ownsRow 0 e 1 v' (n + 1) (xs ++ [x]) ∧ w.grownBy w' v.ownBlock ∧ (v'.ownBlock = v.ownBlock ∨ v'.ownBlock = some w.heap.size) := by
  have hnews : ∀ j u, ([x] : List Value)[j]? = some u → w.cell? (ad.add j) = some u := by
    intro j u hj
    match j, hj with
    | 0, hj => simp at hj; subst hj; simpa [Addr.add] using hx
  have hone : ∀ u ∈ ([x] : List Value), u.oneCell' = true := by intro u hu; simp at hu; subst hu; exact h1
  obtain ⟨v', w', hr, h2, h3, h4⟩ := run_append_own (P := P) w 0 t ty e i (.int .u8 0) 1 1 ht hi hz hsize hby rfl (by decide) v n xs hown ad 1 1 [x] rfl hnews hone (by unfold maxLen; omega) (by omega) (Nat.zero_le _)
  refine ⟨v', w', hr, h2, h3, ?_⟩
  have hxl : xs.length = n := by simpa using hown.1
  have hown' := hown
  rcases hown.2 with ⟨rfl, rfl⟩ | ⟨g, cap, cur, rfl, _, hg, hnc, hcm, hcs, htake⟩
  · have h5 := run_append_nil (P := P) w t ty e i (.int .u8 0) ht hi hz ad 1 1 [x] (by rw [hsize]; rfl) hnews (by omega) (by omega) (by rw [hby]; omega)
    rw [h5] at hr; cases hr; exact .inr rfl
  · by_cases hroom : n + 1 ≤ cap
    · have h5 := run_append_room (P := P) w t ty e i ht hi g n cap cur hg ad 1 1 [x] (by rw [hsize]; rfl) hnews hone hroom (by rw [hsize, Nat.mul_one]; rw [Nat.mul_one] at hcs; simp; omega)
      rw [h5] at hr; cases hr; exact .inl rfl
    · have h5 := run_append_grow (P := P) w t ty e i (.int .u8 0) ht hi hz ⟨g, 0, none⟩ n cap xs (by rw [hsize]; simpa using hxl) (hown'.cells (g := g) rfl) ad 1 1 [x] (by rw [hsize]; rfl) hnews (by omega) (by omega) (by rw [hby]; exact growslice_fits (by omega) (by omega))
      rw [h5] at hr; cases hr; exact .inr rfl

theorem wpList_app_str {ops : Array Oper} {rest : List Oper} {o : Oper} {a : Act} {Q : Exit → Act → World → Prop} (hgd : o.guard = none) (sl x : Operand) (t u : TypeId)
    (ho : o.op = .call { callee := .builtin .append, args := #[sl, x], argTypes := #[t, u] })
    (e : TypeId) (i : TypeInfo) (ht : P.underlying t = some (.slice e)) (hu : P.underlying u = some .string) (hi : P.info? e = some i) (hz : i.zero = some (.int .u8 0)) (hsize : i.size = 1) (hby : i.bytes = 1)
    (v : Value) (n : Nat) (xs : List Value) (hs : a.eval sl = v) (hown : w.ownsRow 0 e 1 v n xs) (s : ByteArray) (hx : a.eval x = .string s) (h63 : n + s.size ≤ maxLen) (hbytes : n + s.size ≤ 140737488355328)
    (h : ∀ v' w', w'.ownsRow 0 e 1 v' (n + s.size) (xs ++ strCells s) → w.grownBy w' v.ownBlock → (v'.ownBlock = v.ownBlock ∨ v'.ownBlock = some w.heap.size) → wpList P ops Q rest (a.put o.dst v') w') : wpList P ops Q (o :: rest) a w := by
  refine wpList_plain hgd fun K hK => ?_
  obtain ⟨v', w', hr, h2, h3, h4⟩ := app_str (P := P) t u o.type e i ht hu hi hz hsize hby v n xs hown s h63 hbytes
  unfold Oper.wp execOp
  simp only [ho, resolve, invoke, builtin, Sem.run_bind, Sem.run_pure, Result.andThen_ok, List.map_toArray, List.map_cons, List.map_nil, hs, hx, hr]
  exact hK _ _ (h v' w' h2 h3 h4)

theorem wpList_app_row {ops : Array Oper} {rest : List Oper} {o : Oper} {a : Act} {Q : Exit → Act → World → Prop} (hgd : o.guard = none) (sl x : Operand) (t : TypeId)
    (ho : o.op = .call { callee := .builtin .append, args := #[sl, x], argTypes := #[t, t] })
    (e : TypeId) (i : TypeInfo) (ht : P.underlying t = some (.slice e)) (hi : P.info? e = some i) (hz : i.zero = some (.int .u8 0)) (hsize : i.size = 1) (hby : i.bytes = 1)
    (v : Value) (n : Nat) (xs : List Value) (hs : a.eval sl = v) (hown : w.ownsRow 0 e 1 v n xs) (ad : Addr) (y : Value) (hx : a.eval x = .slice (some ad) 1 1) (hy : w.cell? ad = some y) (h1 : y.oneCell' = true) (hbytes : n + 1 ≤ 140737488355328)
    (h : ∀ v' w', w'.ownsRow 0 e 1 v' (n + 1) (xs ++ [y]) → w.grownBy w' v.ownBlock → (v'.ownBlock = v.ownBlock ∨ v'.ownBlock = some w.heap.size) → wpList P ops Q rest (a.put o.dst v') w') : wpList P ops Q (o :: rest) a w := by
  refine wpList_plain hgd fun K hK => ?_
  obtain ⟨v', w', hr, h2, h3, h4⟩ := app_row (P := P) t o.type e i ht hi hz hsize hby v n xs hown ad y hy h1 hbytes
  unfold Oper.wp execOp
  simp only [ho, resolve, invoke, builtin, Sem.run_bind, Sem.run_pure, Result.andThen_ok, List.map_toArray, List.map_cons, List.map_nil, hs, hx, hr]
  exact hK _ _ (h v' w' h2 h3 h4)

end
end Go.Proofs.Ytkofjkjcbljkdaa
end

section
namespace Go.Proofs.Ytkofjkjcbljkdaa
variable [LaidG]
open Go.Lib Go.RowKit
set_option linter.unusedVariables false

/-- A builder that has been used. -/
def BldU (T e b : Nat) (l : List UInt8) (w : World) (f : List Nat) : Prop :=
  ∃ v, w.heap[b]? = some (.cells #[.pointer (some ⟨b, 0, none⟩), v] T (0, 0)) ∧ w.ownsRow 0 e 1 v l.length (l.map fun x => Value.int .u8 x.toNat) ∧ v.ownBlock ≠ some b ∧ f = b :: v.ownBlock.toList

theorem BldU.at {T e b : Nat} {l : List UInt8} {w : World} {f : List Nat} (h : BldU T e b l w f) : BldAt T e b l w f := by
  obtain ⟨v, h1, h2, h3, h4⟩ := h
  exact ⟨_, v, .inr rfl, h1, h2, h3, h4⟩

theorem bldSz : (Try.prog.info? 160).map (·.size) = some 2 := by kernel_rfl
theorem liesB : liesAt Try.prog Try.prog.depth 160 (2 / Try.prog.cellsOf 160) 0 160 1 = true := by kernel_rfl
theorem infoB : (Try.prog.info? 5).map (fun i => (i.zero, i.size, i.bytes)) = some (some (.int .u8 0), 1, 1) := by kernel_rfl

set_option maxHeartbeats 1000000 in
set_option maxRecDepth 100000 in
theorem check_used (b : Nat) (w : World) (h0 : w.cell? ⟨b, 0, none⟩ = some (.pointer (some ⟨b, 0, none⟩))) :
    Calls Try.prog 147 #[.pointer (some ⟨b, 0, none⟩)] w fun e w' => e = .returned (.tuple #[]) ∧ w' = w := by
  obtain ⟨j, hj, _⟩ := Option.map_eq_some_iff.1 bldSz
  go_enter Try.func147, Try.ntmps147
  go_wp2
  rw [Lib.run_neq_ptr_same w _ Try.underlying158 hj]
  go_wp2
  go_end0
  exact ⟨rfl, rfl⟩

set_option maxHeartbeats 1000000 in
set_option maxRecDepth 100000 in
theorem check_fresh (b : Nat) (w : World) (h0 : w.cell? ⟨b, 0, none⟩ = some (.pointer none)) (hsh : w.shape? b = some (160, 2)) (hfz : w.frozen? ⟨b, 0, none⟩ = false) :
    Calls Try.prog 147 #[.pointer (some ⟨b, 0, none⟩)] w fun e w' => e = .returned (.tuple #[]) ∧ w' = w.setCell ⟨b, 0, none⟩ (.pointer (some ⟨b, 0, none⟩)) := by
  obtain ⟨j, hj, hjs⟩ := Option.map_eq_some_iff.1 bldSz
  go_enter Try.func147, Try.ntmps147
  go_wp2
  rw [Lib.run_to_unsafe w ⟨b, 0, none⟩ Try.underlying158 Try.underlying186 hj (by rw [hjs]; decide) hsh (Nat.zero_lt_succ 1)]
  simp only [Result.andThen]
  rw [Oper.upon_value]
  go_wp2
  rw [run_callFunc_extern Try.func168 (by kernel_rfl) (by kernel_rfl) (by kernel_rfl) (e := Extern.AbiNoEscape.same) (by kernel_rfl)]
  rw [Lib.run_noEscape]
  simp only [Result.andThen]
  rw [Oper.upon_value]
  go_wp2
  rw [Lib.run_from_unsafe w ⟨b, 0, none⟩ Try.underlying186 Try.underlying158 hj hsh liesB]
  simp only [Result.andThen]
  rw [Oper.upon_value]
  go_wp2
  go_end0
  exact ⟨rfl, rfl⟩

theorem bld_check (b : Nat) (l : List UInt8) (w : World) (f : List Nat) (h : BldAt 160 5 b l w f) :
    Calls Try.prog 147 #[.pointer (some ⟨b, 0, none⟩)] w fun e w' => e = .returned (.tuple #[]) ∧ BldU 160 5 b l w' f ∧ Fr w [b] w' := by
  obtain ⟨p, v, hp, hb, hown, hne, hf⟩ := h
  have hlt : b < w.heap.size := (Array.getElem?_eq_some_iff.1 hb).1
  rcases hp with rfl | rfl
  · refine (check_fresh b w (by simp [World.cell?, hb]) (by simp [World.shape?, hb]) (by simp [World.frozen?, hb])).mono ?_
    rintro e w' ⟨rfl, rfl⟩
    have hfr : Fr w [b] (w.setCell ⟨b, 0, none⟩ (.pointer (some ⟨b, 0, none⟩))) :=
      ⟨rfl, rfl, rfl, by simp [World.setCell], fun k hk hn => Below.heap_setCell _ _ _ _ (fun e => hn (by simp [e]))⟩
    refine ⟨rfl, ⟨v, ?_, ?_, hne, hf⟩, hfr⟩
    · simp [World.setCell, Array.getElem?_modify, hb]
    · exact hown.kept (row := some b) ⟨rfl, rfl, rfl, by simp [World.setCell], fun k _ hk => Below.heap_setCell _ _ _ _ (fun e => hk (by simp [e]))⟩ (Or.inr hne)
  · refine (check_used b w (by simp [World.cell?, hb])).mono ?_
    rintro e w' ⟨rfl, rfl⟩
    exact ⟨rfl, ⟨v, hb, hown, hne, hf⟩, Fr.refl _ _⟩

theorem grown_fr {w w' : World} {row : Option Nat} (h : w.grownBy w' row) : Fr w row.toList w' :=
  ⟨h.os, h.tape, h.output, h.size, fun k hk hn => h.block k hk (fun e => hn (by rw [← e]; simp))⟩

/-- The new row is put into the builder. -/
theorem bld_put {T b : Nat} {v v' : Value} {l' : List UInt8} {w w1 w2 : World} {f : List Nat} (hT : T ≠ 5) (h1 : Fr w [b] w1) (hbw : b < w.heap.size) (hb : w1.heap[b]? = some (.cells #[.pointer (some ⟨b, 0, none⟩), v] T (0, 0))) (hne : v.ownBlock ≠ some b) (hf : f = b :: v.ownBlock.toList)
    (hown : w2.ownsRow 0 5 1 v' l'.length (l'.map fun x => Value.int .u8 x.toNat)) (hg : w1.grownBy w2 v.ownBlock) (ho : v'.ownBlock = v.ownBlock ∨ ∃ k, v'.ownBlock = some k ∧ w.heap.size ≤ k) (hv : ∀ k, v.ownBlock = some k → k < w.heap.size) :
    ∃ f', BldAt T 5 b l' (w2.setCell ⟨b, 1, none⟩ v') f' ∧ Fr w f (w2.setCell ⟨b, 1, none⟩ v') ∧ ∀ x ∈ f', x ∈ f ∨ w.heap.size ≤ x := by
  have hb2 : w2.heap[b]? = some (.cells #[.pointer (some ⟨b, 0, none⟩), v] T (0, 0)) := by
    rw [hg.block b (Array.getElem?_eq_some_iff.1 hb).1 (fun e => hne e.symm)]; exact hb
  have hne' := ownBlock_ne hown hb2 hT
  have hfr2 : Fr w2 [b] (w2.setCell ⟨b, 1, none⟩ v') := ⟨rfl, rfl, rfl, by simp [World.setCell], fun k hk hn => Below.heap_setCell _ _ _ _ (fun e => hn (by simp [e]))⟩
  refine ⟨b :: v'.ownBlock.toList, ⟨_, v', .inr rfl, ?_, ?_, hne', rfl⟩, ?_, ?_⟩
  · simp [World.setCell, Array.getElem?_modify, hb2]
  · exact hown.kept (row := some b) ⟨rfl, rfl, rfl, by simp [World.setCell], fun k _ hk => Below.heap_setCell _ _ _ _ (fun e => hk (by simp [e]))⟩ (Or.inr hne')
  · subst hf
    refine ((h1.trans (grown_fr hg) (Z := b :: v.ownBlock.toList) (fun x hx => by simp at hx; simp [hx]) (fun x hx => .inl (by simp at hx ⊢; exact .inr hx))).trans hfr2 (fun x hx => hx) (fun x hx => .inl (by simp at hx; simp [hx])))
  · intro x hx
    subst hf
    simp only [List.mem_cons, Option.mem_toList] at hx ⊢
    rcases hx with rfl | hx
    · exact .inl (.inl rfl)
    · rcases ho with ho | ⟨k, ho, hk⟩
      · rw [ho] at hx; exact .inl (.inr hx)
      · rw [ho] at hx; cases hx; exact .inr hk

end Go.Proofs.Ytkofjkjcbljkdaa
end

section
namespace Go.Proofs.Ytkofjkjcbljkdaa
variable [LaidG]
open Go.Lib Go.RowKit
set_option linter.unusedVariables false

set_option maxHeartbeats 2000000 in
set_option maxRecDepth 100000 in
theorem bld_ws (b : Nat) (l : List UInt8) (s : ByteArray) (w : World) (f : List Nat) (h : BldAt 160 5 b l w f) (hlen : l.length + s.size ≤ 140737488355328) :
    Calls Try.prog 128 #[.pointer (some ⟨b, 0, none⟩), .string s] w fun e w' => e = .returned (.tuple #[.int .i64 s.size, .nilIface]) ∧ ∃ f', BldAt 160 5 b (l ++ s.data.toList) w' f' ∧ Fr w f w' ∧ ∀ x ∈ f', x ∈ f ∨ w.heap.size ≤ x := by
  obtain ⟨i0, hi, hz0, hz1, hz2⟩ := info_parts infoB
  have hbw : b < w.heap.size := by
    obtain ⟨p, v, _, hb, _⟩ := h
    exact (Array.getElem?_eq_some_iff.1 hb).1
  have hrow : ∀ v, f = b :: v → ∀ k ∈ v, k < w.heap.size := by
    obtain ⟨p, v, _, hb, hown, _, hf⟩ := h
    intro v' hv' k hk
    rw [hf] at hv'; cases hv'
    exact (hown.lt k (by simpa using hk)).2
  go_enter Try.func128, Try.ntmps128
  go_wp2_with (go_at_call 147; refine (bld_check b l _ f h).mono ?_)
  rintro e w1 ⟨rfl, hU, hF1⟩
  obtain ⟨v, hbk, hown, hne, hf⟩ := hU
  have c0 : w1.cell? ⟨b, 0, none⟩ = some (.pointer (some ⟨b, 0, none⟩)) := by simp [World.cell?, hbk]
  have c1 : w1.cell? ⟨b, 1, none⟩ = some v := by simp [World.cell?, hbk]
  go_wp2_with (at_builtin; refine wpList_app_str rfl _ _ 22 9 rfl 5 i0 Try.underlying22 Try.underlying9 hi hz0 hz1 hz2 _ _ _ rfl hown s rfl ?c3 ?c4 ?_)
  case c3 => unfold maxLen; omega
  case c4 => omega
  intro v' w2 hown' hgrow ho
  have hb2 : w2.heap[b]? = some (.cells #[.pointer (some ⟨b, 0, none⟩), v] 160 (0, 0)) := by
    rw [hgrow.block b (Array.getElem?_eq_some_iff.1 hbk).1 (fun e => hne e.symm)]
    exact hbk
  have d0 : w2.cell? ⟨b, 0, none⟩ = some (.pointer (some ⟨b, 0, none⟩)) := by simp [World.cell?, hb2]
  have d1 : w2.cell? ⟨b, 1, none⟩ = some v := by simp [World.cell?, hb2]
  have f1 : w2.frozen? ⟨b, 1, none⟩ = false := by simp [World.frozen?, hb2]
  obtain ⟨ao, n', cap, rfl⟩ : ∃ ao n' cap, v' = .slice ao n' cap := by
    rcases hown'.2 with ⟨hv, _⟩ | ⟨g, cap, cur, hv, _⟩
    · exact ⟨_, _, _, hv⟩
    · exact ⟨_, _, _, hv⟩
  go_wp2
  go_ret2
  have e1 : l.map (fun x => Value.int .u8 x.toNat) ++ strCells s = (l ++ s.data.toList).map fun x => Value.int .u8 x.toNat := by simp [strCells]
  have e2 : l.length + s.size = (l ++ s.data.toList).length := by rw [List.length_append, Array.length_toList]; rfl
  rw [e1, e2] at hown'
  refine ⟨rfl, ?_⟩
  exact bld_put (by decide) hF1 hbw hbk hne hf hown' hgrow (ho.imp (fun h => h) fun h => ⟨_, h, hF1.size⟩) (fun k hk => hrow _ hf k (by rw [hk]; exact List.mem_singleton.2 rfl))


set_option maxHeartbeats 2000000 in
set_option maxRecDepth 100000 in
theorem bld_wb (b : Nat) (l : List UInt8) (c : UInt8) (w : World) (f : List Nat) (h : BldAt 160 5 b l w f) (hlen : l.length + 1 ≤ 140737488355328) :
    Calls Try.prog 150 #[.pointer (some ⟨b, 0, none⟩), .int .u8 c.toNat] w fun e w' => e = .returned .nilIface ∧ ∃ f', BldAt 160 5 b (l ++ [c]) w' f' ∧ Fr w f w' ∧ ∀ x ∈ f', x ∈ f ∨ w.heap.size ≤ x := by
  obtain ⟨i0, hi, hz0, hz1, hz2⟩ := info_parts infoB
  have hbw : b < w.heap.size := by
    obtain ⟨p, v, _, hb, _⟩ := h
    exact (Array.getElem?_eq_some_iff.1 hb).1
  have hrow : ∀ v, f = b :: v → ∀ k ∈ v, k < w.heap.size := by
    obtain ⟨p, v, _, hb, hown, _, hf⟩ := h
    intro v' hv' k hk
    rw [hf] at hv'; cases hv'
    exact (hown.lt k (by simpa using hk)).2
  go_enter Try.func150, Try.ntmps150
  go_wp2_with (go_at_call 147; refine (bld_check b l _ f h).mono ?_)
  rintro e w0 ⟨rfl, hU, hF0⟩
  obtain ⟨v, hbk, hown, hne, hf⟩ := hU
  have c0 : w0.cell? ⟨b, 0, none⟩ = some (.pointer (some ⟨b, 0, none⟩)) := by simp [World.cell?, hbk]
  have c1 : w0.cell? ⟨b, 1, none⟩ = some v := by simp [World.cell?, hbk]
  go_wp2_with (at_builtin; refine wpList_app_row rfl _ _ 22 rfl 5 i0 Try.underlying22 hi hz0 hz1 hz2 _ _ _ rfl (hown.alloc _) ⟨w0.heap.size, 0, none⟩ (.int .u8 c.toNat) rfl ?c2 rfl ?c4 ?_)
  case c2 => rw [Lib.cell_of_heap (heap_alloc_new w0 _)]; rfl
  case c4 => omega
  intro v' w2 hown' hgrow ho
  have hF1 : Fr w [b] (w0.alloc (.cells #[.int .u8 c.toNat] 5)) := Fr.alloc hF0 _
  have hbk1 : (w0.alloc (.cells #[.int .u8 c.toNat] 5)).heap[b]? = some (.cells #[.pointer (some ⟨b, 0, none⟩), v] 160 (0, 0)) := by
    rw [Proofs.Ytkofjkjcbljkdaa.alloc_old w0 _ (Array.getElem?_eq_some_iff.1 hbk).1]; exact hbk
  have hb2 : w2.heap[b]? = some (.cells #[.pointer (some ⟨b, 0, none⟩), v] 160 (0, 0)) := by
    rw [hgrow.block b (Array.getElem?_eq_some_iff.1 hbk1).1 (fun e => hne e.symm)]
    exact hbk1
  have d0 : w2.cell? ⟨b, 0, none⟩ = some (.pointer (some ⟨b, 0, none⟩)) := by simp [World.cell?, hb2]
  have d1 : w2.cell? ⟨b, 1, none⟩ = some v := by simp [World.cell?, hb2]
  have f1 : w2.frozen? ⟨b, 1, none⟩ = false := by simp [World.frozen?, hb2]
  obtain ⟨ao, n', cap, rfl⟩ : ∃ ao n' cap, v' = .slice ao n' cap := by
    rcases hown'.2 with ⟨hv, _⟩ | ⟨g, cap, cur, hv, _⟩
    · exact ⟨_, _, _, hv⟩
    · exact ⟨_, _, _, hv⟩
  go_wp2
  go_ret
  have e1 : l.map (fun x => Value.int .u8 x.toNat) ++ [.int .u8 c.toNat] = (l ++ [c]).map fun x => Value.int .u8 x.toNat := by simp
  have e2 : l.length + 1 = (l ++ [c]).length := by simp
  rw [e1, e2] at hown'
  refine ⟨rfl, ?_⟩
  exact bld_put (by decide) hF1 hbw hbk1 hne hf hown' hgrow (ho.imp (fun h => h) fun h => ⟨_, h, by have := hF0.size; omega⟩) (fun k hk => hrow _ hf k (by rw [hk]; exact List.mem_singleton.2 rfl))


set_option maxHeartbeats 1000000 in
set_option maxRecDepth 100000 in
theorem bld_len (b : Nat) (l : List UInt8) (w : World) (f : List Nat) (h : BldAt 160 5 b l w f) :
    Calls Try.prog 151 #[.pointer (some ⟨b, 0, none⟩)] w fun e w' => e = .returned (.int .i64 l.length) ∧ w' = w := by
  obtain ⟨p, v, _, hbk, hown, hne, hf⟩ := h
  obtain ⟨ao, cap, rfl⟩ : ∃ ao cap, v = .slice ao l.length cap := by
    rcases hown.2 with ⟨hv, h0⟩ | ⟨g, cap, cur, hv, _⟩
    · exact ⟨none, 0, by rw [hv, h0]⟩
    · exact ⟨_, _, hv⟩
  have c1 : w.cell? ⟨b, 1, none⟩ = some (.slice ao l.length cap) := by simp [World.cell?, hbk]
  go_enter Try.func151, Try.ntmps151
  go_wp2
  go_ret
  exact ⟨rfl, rfl⟩


theorem cellsB : Try.prog.cellsOf 5 = 1 := by kernel_rfl

theorem fr_freeze {w : World} {f : List Nat} (g n : Nat) (hg : g ∈ f) : Fr w f (w.drew.freeze ⟨g, 0, none⟩ n) := by
  have h : Fr w.drew f (w.drew.freeze ⟨g, 0, none⟩ n) := by
    unfold World.freeze
    split
    · exact Fr.refl _ _
    · exact ⟨rfl, rfl, rfl, by simp, fun k hk hn => by
        simp only [Array.getElem?_modify]
        rw [if_neg (fun e => hn (by rw [← e]; exact hg))]⟩
  exact ⟨h.os, h.tape, h.output, h.size, h.block⟩

set_option maxHeartbeats 2000000 in
set_option maxRecDepth 100000 in
theorem bld_str (b : Nat) (l : List UInt8) (w : World) (f : List Nat) (h : BldAt 160 5 b l w f) (h0 : l ≠ []) :
    Calls Try.prog 129 #[.pointer (some ⟨b, 0, none⟩)] w fun e w' => e = .returned (.string ⟨l.toArray⟩) ∧ Fr w f w' := by
  obtain ⟨p, v, _, hbk, hown, hne, hf⟩ := h
  have hl0 : l.length ≠ 0 := by simpa using h0
  obtain ⟨g, cap, cur, rfl, hbg, hg, hnc, hcm, hcs, htake⟩ : ∃ g cap cur, v = .slice (some ⟨g, 0, none⟩) l.length cap ∧ 0 ≤ g ∧ w.heap[g]? = some (.cells cur 5 (0, 0)) ∧ l.length ≤ cap ∧ cap ≤ maxLen ∧ cur.size = cap * 1 ∧ cur.toList.take (l.length * 1) = l.map fun x => Value.int .u8 x.toNat := by
    rcases hown.2 with ⟨_, hz⟩ | ⟨g, cap, cur, hv, r⟩
    · exact absurd hz hl0
    · exact ⟨g, cap, cur, hv, r⟩
  have c1 : w.drew.cell? ⟨b, 1, none⟩ = some (.slice (some ⟨g, 0, none⟩) l.length cap) := by
    have : w.drew.heap[b]? = some (.cells #[p, .slice (some ⟨g, 0, none⟩) l.length cap] 160 (0, 0)) := hbk
    simp [World.cell?, this]
  have hSD : (Builtin.unsafeSliceData_ #[22] 175 #[.slice (some ⟨g, 0, none⟩) l.length cap]).run Try.prog w.drew = .ok (.pointer (some ⟨g, 0, none⟩)) w.drew :=
    Lib.run_unsafeSliceData_row _ _ _ _ _ _ (by omega)
  have hUS : (Builtin.unsafeString_ #[175, 3] 9 #[.pointer (some ⟨g, 0, none⟩), .int .i64 l.length]).run Try.prog w.drew = .ok (.string ⟨l.toArray⟩) (w.drew.freeze ⟨g, 0, none⟩ l.length) := by
    refine Lib.run_unsafeString_row w.drew 175 3 9 5 Try.underlying175 cellsB g cur.size (by have hg' : w.drew.heap[g]? = some (.cells cur 5 (0, 0)) := hg; simp [World.shape?, hg']) l h0 (by omega) (by unfold maxLen at hcm; omega) ?_
    intro j x hx
    exact hown.cells (g := g) rfl j (.int .u8 x.toNat) (by simp [hx])
  go_enter Try.func129, Try.ntmps129
  go_wp2
  go_region
  all_goals (go_wp2; go_ret; exact ⟨rfl, fr_freeze g _ (by rw [hf]; simp [Value.ownBlock])⟩)

end Go.Proofs.Ytkofjkjcbljkdaa
end

section
namespace Go.Proofs.Ytkofjkjcbljkdaa
variable [LaidG]
open Go.Lib Go.RowKit
set_option linter.unusedVariables false

section
variable {P : Program} {w : World}

theorem app_rows (t ty e : TypeId) (i : TypeInfo) (ht : P.underlying t = some (.slice e)) (hi : P.info? e = some i) (hz : i.zero = some (.int .u8 0)) (hsize : i.size = 1) (hby : i.bytes = 1)
    (v : Value) (n : Nat) (xs : List Value) (hown : w.ownsRow 0 e 1 v n xs) (ad : Addr) (ys : List Value) (hnews : ∀ (j : Nat) (u : Value), ys[j]? = some u → w.cell? (ad.add j) = some u) (hone : ∀ u ∈ ys, u.oneCell' = true) (hpos : 0 < ys.length) (hbytes : n + ys.length ≤ 140737488355328) :
    ∃ v' w', (Builtin.append_ #[t, t] ty #[v, .slice (some ad) ys.length ys.length]).run P w = .ok v' w' ∧ w'.ownsRow 0 e 1 v' (n + ys.length) (xs ++ ys) ∧ w.grownBy w' v.ownBlock ∧ (v'.ownBlock = v.ownBlock ∨ v'.ownBlock = some w.heap.size) := by
  obtain ⟨v', w', hr, h2, h3, h4⟩ := run_append_own (P := P) w 0 t ty e i (.int .u8 0) 1 1 ht hi hz hsize hby rfl (by decide) v n xs hown ad ys.length ys.length ys (Nat.mul_one _).symm hnews hone (by unfold maxLen; omega) (by omega) (Nat.zero_le _)
  refine ⟨v', w', hr, h2, h3, ?_⟩
  have hxl : xs.length = n := by simpa using hown.1
  have hown' := hown
  rcases hown.2 with ⟨rfl, rfl⟩ | ⟨g, cap, cur, rfl, _, hg, hnc, hcm, hcs, htake⟩
  · have h5 := run_append_nil (P := P) w t ty e i (.int .u8 0) ht hi hz ad ys.length ys.length ys (by rw [hsize]; simp) hnews (by omega) (by omega) (by rw [hby]; omega)
    rw [h5] at hr; cases hr; exact .inr rfl
  · by_cases hroom : n + ys.length ≤ cap
    · have h5 := run_append_room (P := P) w t ty e i ht hi g n cap cur hg ad ys.length ys.length ys (by rw [hsize]; simp) hnews hone hroom (by rw [hsize, Nat.mul_one]; rw [Nat.mul_one] at hcs; omega)
      rw [h5] at hr; cases hr; exact .inl rfl
    · have h5 := run_append_grow (P := P) w t ty e i (.int .u8 0) ht hi hz ⟨g, 0, none⟩ n cap xs (by rw [hsize]; simpa using hxl) (hown'.cells (g := g) rfl) ad ys.length ys.length ys (by rw [hsize]; simp) hnews (by omega) (by omega) (by rw [hby]; exact growslice_fits (by omega) (by omega))
      rw [h5] at hr; cases hr; exact .inr rfl

theorem wpList_app_rows {ops : Array Oper} {rest : List Oper} {o : Oper} {a : Act} {Q : Exit → Act → World → Prop} (hgd : o.guard = none) (sl x : Operand) (t : TypeId)
    (ho : o.op = .call { callee := .builtin .append, args := #[sl, x], argTypes := #[t, t] })
    (e : TypeId) (i : TypeInfo) (ht : P.underlying t = some (.slice e)) (hi : P.info? e = some i) (hz : i.zero = some (.int .u8 0)) (hsize : i.size = 1) (hby : i.bytes = 1)
    (v : Value) (n : Nat) (xs : List Value) (hs : a.eval sl = v) (hown : w.ownsRow 0 e 1 v n xs) (ad : Addr) (ys : List Value) (hx : a.eval x = .slice (some ad) ys.length ys.length) (hnews : ∀ (j : Nat) (u : Value), ys[j]? = some u → w.cell? (ad.add j) = some u) (hone : ∀ u ∈ ys, u.oneCell' = true) (hpos : 0 < ys.length) (hbytes : n + ys.length ≤ 140737488355328)
    (h : ∀ v' w', w'.ownsRow 0 e 1 v' (n + ys.length) (xs ++ ys) → w.grownBy w' v.ownBlock → (v'.ownBlock = v.ownBlock ∨ v'.ownBlock = some w.heap.size) → wpList P ops Q rest (a.put o.dst v') w') : wpList P ops Q (o :: rest) a w := by
  refine wpList_plain hgd fun K hK => ?_
  obtain ⟨v', w', hr, h2, h3, h4⟩ := app_rows (P := P) t o.type e i ht hi hz hsize hby v n xs hown ad ys hnews hone hpos hbytes
  unfold Oper.wp execOp
  simp only [ho, resolve, invoke, builtin, Sem.run_bind, Sem.run_pure, Result.andThen_ok, List.map_toArray, List.map_cons, List.map_nil, hs, hx, hr]
  exact hK _ _ (h v' w' h2 h3 h4)
end

/-- The bytes of a rune's encoding. -/
def runeL (r : Int) : List Int :=
  if r < 128 then [r] else if r < 2048 then [192 + r / 64, 128 + r % 64] else if r < 65536 then [224 + r / 4096, 128 + r / 64 % 64, 128 + r % 64]
  else [240 + r / 262144, 128 + r / 4096 % 64, 128 + r / 64 % 64, 128 + r % 64]


end Go.Proofs.Ytkofjkjcbljkdaa
end

section
namespace Go.Proofs.Ytkofjkjcbljkdaa
variable [LaidG]
set_option linter.unusedVariables false
set_option maxRecDepth 100000

/-- A slot of which nothing is said. -/
def freeD (N : Nat) (S : St) : Option Nat → Prop
  | none => True
  | some t => t < N ∧ (lk S.Lp t).isNone = true ∧ (lk S.Lt t).isNone = true

def bfWS : Option Nat := some 128
def bfWB : Option Nat := some 150
def bfWR : Option Nat := none
def bfLen : Option Nat := some 151
/-- A rune's bytes. -/
def runeB (n : Int) : List UInt8 := (runeL n).map fun z => UInt8.ofNat z.toNat

/-- What a builder's operation makes of a state. -/
def bRes (N : Nat) (keep : List Nat) (S : St) (o : Oper) (K : St → Prop) : Prop :=
  match o.op with
  | .alloc t => t = 160 ∧ o.guard = none ∧ dstOk N keep true o.dst ∧ K (putS keep S true o.dst ⟨True, True, .ptr S.n 0, (S.n, .bld 160 5 []) :: S.A, S.n + 1⟩)
  | .call c => (match c.callee, c.args.toList with
    | .value f, [x, y] => (match S.ev f, S.ev x, S.ev y with
      | some (true, .fn g []), some (true, .ptr h 0), some (true, .str s) => (match lk S.A h with
        | some (.bld T 5 l) => bfWS = some g ∧ T = 160 ∧ l.length + s.length ≤ LIM ∧ o.guard = none ∧ freeD N S o.dst ∧ K { S with A := set1 (strike [h] S.A) h (.bld T 5 (l ++ s)) }
        | _ => False)
      | some (true, .fn g []), some (true, .ptr h 0), some (true, .int .u8 n) => (match lk S.A h with
        | some (.bld T 5 l) => bfWB = some g ∧ T = 160 ∧ l.length + 1 ≤ LIM ∧ o.guard = none ∧ freeD N S o.dst ∧ K { S with A := set1 (strike [h] S.A) h (.bld T 5 (l ++ [UInt8.ofNat n.toNat])) }
        | _ => False)
      | some (true, .fn g []), some (true, .ptr h 0), some (true, .int .i32 n) => (match lk S.A h with
        | some (.bld T 5 l) => bfWR = some g ∧ T = 160 ∧ (0 ≤ n ∧ n ≤ 1114111 ∧ (n < 55296 ∨ 57343 < n)) ∧ l.length + 4 ≤ LIM ∧ o.guard = none ∧ freeD N S o.dst ∧ K { S with A := set1 (strike [h] S.A) h (.bld T 5 (l ++ runeB n)) }
        | _ => False)
      | _, _, _ => False)
    | .value f, [x] => (match S.ev f, S.ev x with
      | some (true, .fn g []), some (true, .ptr h 0) => (match lk S.A h with
        | some (.bld T 5 l) => T = 160 ∧ o.guard = none ∧ dstOk N keep true o.dst ∧
          ((bfLen = some g ∧ K (putS keep S true o.dst ⟨True, True, .int .i64 l.length, S.A, S.n⟩)) ∨
           (g = 129 ∧ l ≠ [] ∧ l.length ≤ LIM ∧ K (putS keep S true o.dst ⟨True, True, .str l, strike [h] S.A, S.n⟩)))
        | _ => False)
      | _, _ => False)
    | _, _ => False)
  | _ => False

structure BRules (N : Nat) (keep : List Nat) (W : List KI → St → Prop) : Prop where
  bld : ∀ (all l : List Oper) (o : Oper) (k : List KI) (S : St), bRes N keep S o (fun S' => W (.run all l :: k) S') → W (.run all (o :: l) :: k) S

section
variable {C : Cx} {S : St} {a : Act} {w w' : World} {o : Oper} {all l : List Oper} {k : List KI}

theorem at_drop {β : Nat → GV} {ϕ ϕ' : Nat → List Nat} {A' : Hp} {v : Value} (kp : Kp C.keep S) (hn : C.n0 ≤ S.n) (sat : Sat C.N C.w0 C.X C.F S β ϕ a w) (h0 : ∀ h, h < C.n0 → β h = C.β0 h)
    (hd : freeD C.N S o.dst) (hp : Holds C.w0.heap.size C.X C.F A' β ϕ' w') (hb : Bd S.n β A') (hf : Fr C.w0 C.X w') : At C { S with A := A' } (a.put o.dst v) w' := by
  cases hdst : o.dst with
  | none => exact ⟨kp, hn, β, ϕ', ⟨sat.df, sat.sz, sat.lp, sat.lt, hp, hb, hf, sat.gl⟩, h0⟩
  | some d =>
    rw [hdst] at hd
    obtain ⟨_, hd1, hd2⟩ := hd
    have hoth : ∀ t, d ≠ t → (a.put (some d) v).tmps[t]? = a.tmps[t]? := fun t ht => by
      simp only [Act.put]; exact Array.getElem?_setIfInBounds_ne ht
    refine ⟨kp, hn, β, ϕ', ⟨sat.df, by simp only [Act.put, Array.size_setIfInBounds]; exact sat.sz, ?_, ?_, hp, hb, hf, sat.gl⟩, h0⟩
    · intro t x ht
      have : d ≠ t := fun e => by subst e; rw [ht] at hd1; cases hd1
      rw [hoth t this]; exact sat.lp t x ht
    · intro t g x ht
      have : d ≠ t := fun e => by subst e; rw [ht] at hd2; cases hd2
      rw [hoth t this]; exact sat.lt t g x ht

/-- A builder's contents are changed. -/
theorem bld_redo {β : Nat → GV} {ϕ : Nat → List Nat} {N : Nat} {w0 : World} {X F : List Nat} {S : St} {h T e b : Nat} {l l' : List UInt8} {f' : List Nat} (sat : Sat N w0 X F S β ϕ a w) (hl : lk S.A h = some (.bld T e l)) (hv : (β h).v = .pointer (some ⟨b, 0, none⟩))
    (hB : BldAt T e b l' w' f') (hF : Fr w (ϕ h) w') (hf : ∀ x ∈ f', x ∈ ϕ h ∨ w.heap.size ≤ x) :
    ∃ ϕ', Holds w0.heap.size X F (set1 (strike [h] S.A) h (.bld T e l')) β ϕ' w' ∧ Bd S.n β (set1 (strike [h] S.A) h (.bld T e l')) ∧ Fr w0 X w' := by
  have hown : ∀ b ∈ ϕ h, b ∈ X ∨ w0.heap.size ≤ b := fun b hb => sat.hp.own h _ hl b hb
  have hall : ∀ b ∈ ϕ h, b ∈ F ∨ w0.heap.size ≤ b := fun b hb => sat.hp.all h _ hl trivial b hb
  have hfr : Fr w0 X w' := sat.fr.trans hF (fun x hx => hx) (fun b hb => hown b hb)
  have hst := sat.hp.struck [h]
  have hap : Apart (strike [h] S.A) ϕ (ϕ h) := strike_apart sat.hp fun b hb => ⟨h, by simp, _, hl, hb⟩
  have hst' : Holds w0.heap.size X F (strike [h] S.A) β ϕ w' := hst.world fun i hl hi hd b hb => hF.block b (hst.inb hi hd b hb) (hap i hl hi hd b hb)
  have hap2 : Apart (strike [h] S.A) ϕ f' := by
    intro i hl hi hd b hb hm
    rcases hf b hm with h1 | h1
    · exact hap i hl hi hd b hb h1
    · have := hst.inb hi hd b hb; omega
  have hge : ∀ b ∈ f', (b ∈ X ∨ w0.heap.size ≤ b) ∧ (b ∈ F ∨ w0.heap.size ≤ b) := by
    intro b hb
    rcases hf b hb with h1 | h1
    · exact ⟨hown b h1, hall b h1⟩
    · exact ⟨.inr (Nat.le_trans sat.fr.size h1), .inr (Nat.le_trans sat.fr.size h1)⟩
  have hput := hst'.put (A' := set1 (strike [h] S.A) h (.bld T e l')) (n := h) (hl0 := .bld T e l') (f := f') (fun j => lk_set1' _ _ _) (fun hl' hi => strike_dead (by simp) hi)
    ⟨b, hv, hB⟩ (fun c hc => (hge c hc).1) (fun _ c hc => (hge c hc).2) trivial hap2
    (fun i hl' hi _ c hc hm => by
      by_cases hdd : hl' = .dead
      · subst hdd; simp [owned] at hc
      · exact hap2 i hl' hi hdd c (owned_sub c hc) hm) trivial (fun _ _ _ e => by cases e) (by simp [roots])
  exact ⟨_, hput, bd_put (strike_bd sat.hb [h]) (fun j => lk_set1' _ _ _) (sat.hb _ _ hl).1 trivial, hfr⟩

set_option maxHeartbeats 1000000 in
theorem brules_wp (hC : C.Ok) (hP : C.P = Try.prog) : BRules C.N C.keep (WP C) := by
  refine ⟨fun all l o k S h a w hat => ?_⟩
  obtain ⟨kp, hn, β, ϕ, sat, h0⟩ := hat
  show wpList C.P all.toArray (xt C k) (o :: l) a w
  unfold wpList
  unfold bRes at h
  have hgd : o.guard = none → Region.wanted o (yielded all.toArray a.tmps) = true := fun hg => guard_sound (g := true) (by rw [hg]; rfl) sat
  have call : ∀ {c : Call} {f : Operand} {g : Nat} {vs : List SV} {fn : Func} {Q' : Value → World → Prop} {h : Nat} (ho : o.op = .call c) (hc : c.callee = .value f) (hf : S.ev f = some (true, .fn g [])) (hvs : c.args.toList.map a.eval = SV.vals β vs) (hfn : C.P.funcs[g]? = some fn) (hbd : fn.body.isNone = false) (hnm : (fn.name == "runtime.NumGoroutine") = false)
      (hcall : Calls C.P g (SV.vals β vs).toArray w fun e w' => ∃ v, e = .returned v ∧ Q' v w') (next : Act → World → Prop) (Q : Exit → Act → World → Prop), (∀ v w', Q' v w' → next (a.put o.dst v) w') → o.wp C.P a w next Q := by
    intro c f g vs fn Q' _ ho hc hf hvs hfn hbd hnm hcall next Q hnext
    obtain ⟨_, f2⟩ := ev_sound hf sat
    obtain ⟨f3, _⟩ := f2 rfl
    have hrun := call_enter (P := C.P) (w := w) (ob := True) ho hc f3 hvs hfn hbd hnm
    rw [List.append_nil] at hrun
    unfold Oper.wp
    rw [hrun, Oper.upon_enter]
    refine hcall.mono fun e w' he => ?_
    obtain ⟨v, rfl, hq⟩ := he
    exact hnext v w' hq
  have ptr : ∀ {h T : Nat} {l : List UInt8}, lk S.A h = some (.bld T 5 l) → ∃ b, (β h).v = .pointer (some ⟨b, 0, none⟩) ∧ BldAt T 5 b l w (ϕ h) ∧ SV.val β (.ptr h 0) = .pointer (some ⟨b, 0, none⟩) := by
    intro h T l hl
    obtain ⟨b, h1, h2⟩ := sat.hp.sat _ _ hl
    exact ⟨b, h1, h2, by simp [SV.val, h1]⟩
  split at h
  · rename_i t ho
    obtain ⟨rfl, hg, hd, hk⟩ := h
    rw [if_pos (hgd hg)]
    have hz := Try.zeroValue160 w
    have hadd := sat.hp.addNew (n := S.n) (hl0 := .bld 160 5 []) (g := ⟨.pointer (some ⟨w.heap.size, 0, none⟩), [], []⟩) (f := [w.heap.size]) (w' := w.alloc (.cells #[.pointer none, .slice none 0 0] 160)) sat.hb sat.fr (fun b hb => alloc_old w _ hb) rfl
      ⟨w.heap.size, rfl, .pointer none, .slice none 0 0, .inl rfl, heap_alloc_new w _, World.ownsRow_nil _ _ _ _, by simp [Value.ownBlock], by simp [Value.ownBlock]⟩ (by simp) trivial rfl trivial
    refine .inl (Runs.wp (.inl ?_) (hk _ _ (at_taken (v := .pointer (some ⟨w.heap.size, 0, none⟩)) kp hn sat h0 hd ⟨fun _ => ?_, fun h hh => upd_lt _ _ _ hh, hadd, hb_add sat.hb trivial, ?_, ?_, Nat.le_succ _, sat.fr.alloc _⟩)))
    · rw [hP]
      simp only [execOp, ho, Instr.alloc, newVar, newRow, Sem.run_bind, Sem.run_pure, run_newObj, Result.andThen_ok, hz]
      rfl
    · simp [SV.val, upd_eq]
    · show SV.lt _ (SV.ptr _ _)
      simp [SV.lt]
    · exact ⟨w.heap.size, 0, by simp [upd_eq]⟩
  · rename_i c ho
    split at h
    · rename_i f x y hc hargs
      split at h
      · rename_i g i s hf hx hy
        split at h
        · rename_i T l0 hl
          obtain ⟨hgw, rfl, hlen, hg, hd, hk⟩ := h
          cases hgw
          rw [if_pos (hgd hg)]
          obtain ⟨b, hb, hB, hbv⟩ := ptr hl
          obtain ⟨_, x2⟩ := ev_sound hx sat
          obtain ⟨_, y2⟩ := ev_sound hy sat
          refine .inl (call (h := 0) (vs := [.ptr i 0, .str s]) (Q' := fun v w' => ∃ f', BldAt 160 5 b (l0 ++ s) w' f' ∧ Fr w (ϕ i) w' ∧ ∀ x ∈ f', x ∈ ϕ i ∨ w.heap.size ≤ x) ho hc hf ?_ (by rw [hP]; exact Try.func128) (by kernel_rfl) (by kernel_rfl) ?_ _ _ fun v w' hq => ?_)
          · rw [hargs]; simp only [List.map_cons, List.map_nil, SV.vals, (x2 rfl).1, (y2 rfl).1]
          · rw [hP]
            simp only [SV.vals, hbv]
            refine (bld_ws b l0 ⟨s.toArray⟩ w (ϕ i) hB (by simpa [ByteArray.size, LIM] using hlen)).mono fun e w' he => ?_
            obtain ⟨rfl, h1⟩ := he
            exact ⟨_, rfl, by simpa using h1⟩
          · obtain ⟨f', q1, q2, q3⟩ := hq
            obtain ⟨ϕ', r1, r2, r3⟩ := bld_redo sat hl hb q1 q2 q3
            exact hk _ _ (at_drop kp hn sat h0 hd r1 r2 r3)
        · exact h.elim
      · rename_i g i n hf hx hy
        split at h
        · rename_i T l0 hl
          obtain ⟨hgw, rfl, hlen, hg, hd, hk⟩ := h
          cases hgw
          rw [if_pos (hgd hg)]
          obtain ⟨b, hb, hB, hbv⟩ := ptr hl
          obtain ⟨_, x2⟩ := ev_sound hx sat
          obtain ⟨_, y2⟩ := ev_sound hy sat
          have hn8 : ((UInt8.ofNat n.toNat).toNat : Int) = n := by
            have : inR .u8 n := (y2 rfl).2
            simp [inR, IntKind.min, IntKind.max, IntKind.signed, IntKind.bits] at this
            rw [UInt8.toNat_ofNat', Nat.mod_eq_of_lt (by omega)]; omega
          generalize UInt8.ofNat n.toNat = c8 at hn8 hk
          subst hn8
          have hw := bld_wb b l0 c8 w (ϕ i) hB (by simpa [LIM] using hlen)
          refine .inl (call (h := 0) (vs := [.ptr i 0, .int .u8 (c8.toNat : Int)]) (Q' := fun v w' => ∃ f', BldAt 160 5 b (l0 ++ [c8]) w' f' ∧ Fr w (ϕ i) w' ∧ ∀ x ∈ f', x ∈ ϕ i ∨ w.heap.size ≤ x) ho hc hf ?_ (by rw [hP]; exact Try.func150) (by kernel_rfl) (by kernel_rfl) ?_ _ _ fun v w' hq => ?_)
          · rw [hargs]; simp only [List.map_cons, List.map_nil, SV.vals, (x2 rfl).1, (y2 rfl).1]
          · rw [hP]
            simp only [SV.vals, hbv]
            simp only [SV.val]
            refine hw.mono fun e w' he => ?_
            obtain ⟨rfl, h1⟩ := he
            exact ⟨_, rfl, h1⟩
          · obtain ⟨f', q1, q2, q3⟩ := hq
            obtain ⟨ϕ', r1, r2, r3⟩ := bld_redo sat hl hb q1 q2 q3
            exact hk _ _ (at_drop kp hn sat h0 hd r1 r2 r3)
        · exact h.elim
      · rename_i g i n hf hx hy
        split at h
        · rename_i T l0 hl
          exact absurd h.1 (by simp [bfWR])
        · exact h.elim
      · exact h.elim
    · rename_i f x hc hargs
      split at h
      · rename_i g i hf hx
        split at h
        · rename_i T l0 hl
          obtain ⟨rfl, hg, hd, h⟩ := h
          rw [if_pos (hgd hg)]
          obtain ⟨b, hb, hB, hbv⟩ := ptr hl
          obtain ⟨_, x2⟩ := ev_sound hx sat
          rcases h with ⟨hgw, hk⟩ | ⟨rfl, hne, hlen, hk⟩
          · cases hgw
            refine .inl (call (h := 0) (vs := [.ptr i 0]) (Q' := fun v w' => v = .int .i64 l0.length ∧ w' = w) ho hc hf ?_ (by rw [hP]; exact Try.func151) (by kernel_rfl) (by kernel_rfl) ?_ _ _ fun v w' hq => ?_)
            · rw [hargs]; simp only [List.map_cons, List.map_nil, SV.vals, (x2 rfl).1]
            · rw [hP]
              simp only [SV.vals, hbv]
              refine (bld_len b l0 w (ϕ i) hB).mono fun e w' he => ?_
              obtain ⟨rfl, h1⟩ := he
              exact ⟨_, rfl, rfl, h1⟩
            · obtain ⟨rfl, rfl⟩ := hq
              have hlr : inR .i64 (l0.length : Int) := by
                have h9 : l0.length ≤ maxLen := by
                  obtain ⟨p, v, _, _, ⟨_, h4⟩, _⟩ := hB
                  rcases h4 with ⟨_, h4⟩ | ⟨_, cap, _, _, _, _, h4, h5, _⟩
                  · omega
                  · omega
                rw [inR64]; unfold maxLen at h9; omega
              exact hk _ _ (at_taken kp hn sat h0 hd (post_pure sat trivial hlr))
          · refine .inl (call (h := 0) (vs := [.ptr i 0]) (Q' := fun v w' => v = .string ⟨l0.toArray⟩ ∧ Fr w (ϕ i) w') ho hc hf ?_ (by rw [hP]; exact Try.func129) (by kernel_rfl) (by kernel_rfl) ?_ _ _ fun v w' hq => ?_)
            · rw [hargs]; simp only [List.map_cons, List.map_nil, SV.vals, (x2 rfl).1]
            · rw [hP]
              simp only [SV.vals, hbv]
              refine (bld_str b l0 w (ϕ i) hB hne).mono fun e w' he => ?_
              obtain ⟨rfl, h1⟩ := he
              exact ⟨_, rfl, rfl, h1⟩
            · obtain ⟨rfl, hF⟩ := hq
              have hap : Apart (strike [i] S.A) ϕ (ϕ i) := strike_apart sat.hp fun b hb => ⟨i, by simp, _, hl, hb⟩
              have hst := sat.hp.struck [i]
              have hst' : Holds C.w0.heap.size C.X C.F (strike [i] S.A) β ϕ w' := hst.world fun j hl hi hd b hb => hF.block b (hst.inb hi hd b hb) (hap j hl hi hd b hb)
              exact hk _ _ (at_taken kp hn sat h0 hd ⟨fun _ => rfl, fun _ _ => rfl, hst', strike_bd sat.hb [i], trivial, hlen, Nat.le_refl _, sat.fr.trans hF (fun x hx => hx) (fun b hb => sat.hp.own i _ hl b hb)⟩)
        · exact h.elim
      · exact h.elim
    · exact h.elim
  · exact h.elim

end

theorem bG {N : Nat} {keep : List Nat} (C : Cx) (hC : C.Ok) (hP : C.P = Try.prog) (hN : C.N = N) (hk : C.keep = keep) : BRules N keep (WP C) := by
  subst hN hk
  exact brules_wp hC hP
end Go.Proofs.Ytkofjkjcbljkdaa
end

section
namespace Go.Proofs.Ytkofjkjcbljkdaa
variable [LaidG]
open Go.Lib Go.RowKit
set_option linter.unusedVariables false
set_option linter.unusedSimpArgs false
set_option maxRecDepth 100000

/-- The first seed. -/
def seed0 (es : List PV) : Int := (es.length : Int).tmod 1000
def srcFin (slot : Nat) (es : List PV) (S : St) : Prop :=
  match lk S.Lp slot with
  | some (.ptr h 0) => ∃ t, lk S.A h = some (.box true t [.sl 0, .int .i64 0, .int .i64 (seed0 es)])
  | _ => False
def SrcPost (w : World) (v : Value) (es : List PV) (e : Ending) (w' : World) : Prop :=
  ∃ b t pre post, e = .returned (.pointer (some ⟨b, pre.length, none⟩)) ∧ w.heap.size ≤ b ∧ w'.heap[b]? = some (.cells (pre ++ [v, .int .i64 0, .int .i64 (seed0 es)] ++ post).toArray t (0, 0)) ∧ Fr w [] w'

theorem src_of_vc {P : Program} {E : Env} {fid : FuncId} {fn : Func} {c : Code} {es : List PV} (keep : List Nat) (slot : Nat) (hE : EnvOk P E) (hm : P.follows .mixedOrders = true) (hf : P.funcs[fid]? = some fn) (hb : fn.body = some c)
    (hr : fn.results = [ResultVar.tmp slot].toArray) (hp : 1 ≤ fn.ntmps) (hkeep : keep.contains 0 = true)
    (h : ∀ W, Rules E fn.ntmps keep 1 (srcFin slot es) W → W [.code c] ⟨[(0, .sl 0)], [], [(0, .arr (.vw []) (.int .u8) es .no)], 1⟩) :
    ∀ (w : World) (v : Value) (f : List Nat), Lv w [.list (.int .u8)] [.list es] [v] f → GlOk w [] → Calls P fid #[v] w fun e w' => SrcPost w v es e w' := by
  intro w v f hL hgl
  have hA : ArgsV w [(.rd, .list (.int .u8))] [.list es] [v] f f [] := by
    have := ArgsV.rd (show ArgV w (.list (.int .u8)) (.list es) v f f from ⟨hL, rfl⟩) ArgsV.nil
    simpa using this
  have h0 : Holds w.heap.size [] (f ++ []) [] (fun _ => ⟨Value.bool false, [], []⟩) (fun _ => []) w :=
    ⟨fun _ => rfl, fun _ _ h => (by cases h), fun _ _ h => (by cases h), fun _ _ h => (by cases h), fun _ _ h => (by cases h), fun _ _ _ _ h => (by cases h), fun _ _ h => (by cases h), fun _ _ h => (by cases h)⟩
  obtain ⟨β, ϕ, ⟨e1, e2, e3, e4, e5, e6, e7, e8, e9⟩, hold⟩ := introTs_sound [(.rd, .list (.int .u8))] [.list es] [v] f f [] 0 [] _ _ hA h0 (fun i hl h => (by cases h)) rfl (by simp) (fun b hb => by simp [hb]) (by simp) (by simp) (fun i hl h => (by cases h))
  have hv0 : (β 0).v = v := by
    have := e5
    simp [introTs, introT, introR, introB, introL, SV.vals, SV.val] at this
    exact this
  have e1' : Holds w.heap.size [] (f ++ []) [(0, .arr (.vw []) (.int .u8) es .no)] β ϕ w := e1
  have e2' : Bd 1 β [(0, .arr (.vw []) (.int .u8) es .no)] := e2
  let C : Cx := ⟨P, E, fn.ntmps, w, [], f ++ [], keep, 1, β, bodyPost P fn (SrcPost w v es), srcFin slot es⟩
  have hfin : ∀ S a w', At C S a w' → srcFin slot es S → a.defers = [] ∧ ∃ v', (results fn a.tmps).run P w' = .ok v' w' ∧ SrcPost w v es (.returned v') w' := by
    intro S a w' hat hS
    obtain ⟨kp, hn, β1, ϕ1, sat, hsame⟩ := hat
    unfold srcFin at hS
    split at hS
    · rename_i h hlk
      obtain ⟨t, hbx⟩ := hS
      let g : ResultVar → Sem Value := fun r => match r with | .tmp t => pure (a.tmps.getD t undef) | .cell t ty => asAddr (a.tmps.getD t undef) >>= fun x => loadVar ty x
      have hxs : lkAll E S [.tmp slot] = some [.ptr h 0] := by simp [lkAll, hlk]
      obtain ⟨v1, v2, v3, v4⟩ := lkAll_run hE.ty sat g (fun _ => rfl) (fun _ _ => rfl) hxs
      obtain ⟨b, t', hb', hϕ, hblk⟩ := sat.hp.sat _ _ hbx
      have hown := sat.hp.own _ _ hbx b (by simp [owned, hϕ])
      have hge : w.heap.size ≤ b := by
        rcases hown with h | h
        · cases h
        · exact h
      refine ⟨sat.df, _, results_run hr a.tmps w' g (fun _ => rfl) (fun _ _ => rfl) v1 (by simp [SV.vals_map, v4]), b, t', (β1 h).pre, (β1 h).post, ?_, hge, ?_, sat.fr⟩
      · simp [SV.vals, packR, SV.val, hb']
      · have h00 : (β1 0).v = v := by rw [hsame 0 (by show 0 < 1; omega)]; exact hv0
        rw [hblk]; simp [SV.vals, SV.val, h00]
    · exact hS.elim
  have hC : C.Ok := ⟨hE, hm, fun S a w' hat hS => ⟨hfin S a w' hat hS, hfin S a w' hat hS⟩, fun c a d v w h => ⟨by have h1 := h.1; cases d <;> exact h1, h.2⟩⟩
  refine calls_of_wp hf hb ?_
  have hW := h (WP C) (rules_wp hC)
  refine hW _ w ⟨⟨?_, fun t x h => (by cases h)⟩, Nat.le_refl _, β, ϕ, ⟨rfl, ?_, ?_, fun t g v h => (by cases h), e1', e2', Fr.refl _ _, hgl⟩, fun h _ => rfl⟩
  · intro t v ht
    simp only [lk] at ht
    split at ht
    · rename_i e; subst e; exact hkeep
    · cases ht
  · show (#[v] ++ Array.replicate (fn.ntmps - (#[v] : Array Value).size) undef).size = fn.ntmps
    simp; omega
  · intro t x ht
    simp only [lk] at ht
    split at ht
    · rename_i e
      cases ht
      subst e
      refine ⟨?_, by simp [SV.lt], trivial⟩
      show (#[v] ++ Array.replicate (fn.ntmps - (#[v] : Array Value).size) undef)[0]? = _
      rw [Array.getElem?_append_left (by simp)]
      simp [SV.val, hv0]
    · cases ht

theorem k_src (es : List PV) : ∀ (w : World) (v : Value) (f : List Nat), Lv w [.list (.int .u8)] [.list es] [v] f → GlOk w [] → Calls Try.prog 26 #[v] w fun e w' => SrcPost w v es e w' := by
  refine src_of_vc [0, 2] 2 (env_nil (tyTab_ok [])) mixed Try.func26 rfl rfl (by decide) rfl ?_
  intro W hW
  refine hW.vc [] _ _ ?_
  simp [-List.getD_eq_getElem?_getD, srcFin, seed0]

/-- What the maker makes of a state. -/
def sRes (N : Nat) (keep : List Nat) (S : St) (o : Oper) (K : St → Prop) : Prop :=
  match o.op with
  | .call c => (match c.callee, c.args.toList with
    | .value f, [x] => (match S.ev f, S.ev x with
      | some (true, .fn g []), some (true, .sl h) => (match lk S.A h with
        | some (.arr (.vw _) (.int .u8) es _) => g = 26 ∧ o.guard = none ∧ dstOk N keep true o.dst ∧
          K (putS keep S true o.dst ⟨True, True, .ptr S.n 0, (S.n, .box true 83 [.sl h, .int .i64 0, .int .i64 (seed0 es)]) :: S.A, S.n + 1⟩)
        | _ => False)
      | _, _ => False)
    | _, _ => False)
  | _ => False
structure SRules (N : Nat) (keep : List Nat) (W : List KI → St → Prop) : Prop where
  src : ∀ (all l : List Oper) (o : Oper) (k : List KI) (S : St), sRes N keep S o (fun S' => W (.run all l :: k) S') → W (.run all (o :: l) :: k) S
section
variable {C : Cx} {S : St} {a : Act} {w w' : World} {o : Oper} {all l : List Oper} {k : List KI}
theorem srules_wp (hC : C.Ok) (hP : C.P = Try.prog) : SRules C.N C.keep (WP C) := by
  refine ⟨fun all l o k S h a w hat => ?_⟩
  obtain ⟨kp, hn, β, ϕ, sat, h0⟩ := hat
  show wpList C.P all.toArray (xt C k) (o :: l) a w
  unfold wpList
  unfold sRes at h
  have hgd : o.guard = none → Region.wanted o (yielded all.toArray a.tmps) = true := fun hg => guard_sound (g := true) (by rw [hg]; rfl) sat
  split at h
  · rename_i c ho
    split at h
    · rename_i f x hc hargs
      split at h
      · rename_i g i hf hx
        split at h
        · rename_i rs es p hl
          obtain ⟨rfl, hg, hd, hk⟩ := h
          rw [if_pos (hgd hg)]
          obtain ⟨x1, x2⟩ := ev_sound hx sat
          have hxv := (x2 rfl).1
          have hilt : i < S.n := x1 rfl
          obtain ⟨_, f2⟩ := ev_sound hf sat
          obtain ⟨f3, _⟩ := f2 rfl
          have hrun := call_enter (P := C.P) (w := w) (ob := True) (vs := [.sl i]) ho hc f3 (by rw [hargs]; simp [SV.vals, hxv]) (by rw [hP]; exact Try.func26) (by kernel_rfl) (by kernel_rfl)
          have hLv : Lv w [.list (.int .u8)] [.list es] [(β i).v] (ϕ i) := sat.hp.sat _ _ hl
          refine .inl ?_
          unfold Oper.wp
          rw [hrun, Oper.upon_enter, hP]
          have hcall := k_src es w (β i).v (ϕ i) hLv (sat.gl.now sat.fr (by simp))
          have harr : (SV.vals β ([SV.sl i] ++ [])).toArray = #[(β i).v] := by simp [SV.vals, SV.val]
          rw [harr]
          refine hcall.mono fun e w' he => ?_
          obtain ⟨b, t, pre, post, rfl, hge, hblk, hF⟩ := he
          have hold : ∀ b, b < w.heap.size → w'.heap[b]? = w.heap[b]? := fun b hb => hF.block b hb (by simp)
          have hub : upd β S.n ⟨.pointer (some ⟨b, pre.length, none⟩), pre, post⟩ i = β i := upd_lt _ _ _ hilt
          have hadd := sat.hp.addNew (n := S.n) (hl0 := .box true 83 [.sl i, .int .i64 0, .int .i64 (seed0 es)]) (g := ⟨.pointer (some ⟨b, pre.length, none⟩), pre, post⟩) (f := [b]) (w' := w') sat.hb sat.fr hold rfl
            ⟨b, t, rfl, rfl, by rw [hblk]; simp [SV.vals, SV.val, hub]⟩ (by simpa using hge) trivial rfl trivial
          have hfr : Fr C.w0 C.X w' := sat.fr.trans hF (fun x hx => hx) (by simp)
          show wpList Try.prog all.toArray (xt C k) l (a.put o.dst (.pointer (some ⟨b, pre.length, none⟩))) w'
          rw [← hP]
          refine hk _ _ (at_taken (v := .pointer (some ⟨b, pre.length, none⟩)) kp hn sat h0 hd ⟨fun _ => ?_, fun h hh => upd_lt _ _ _ hh, hadd, hb_add sat.hb ?_, ?_, ?_, Nat.le_succ _, hfr⟩)
          · simp [SV.val, upd_eq]
          · refine ⟨⟨Nat.lt_succ_of_lt hilt, trivial, trivial, trivial⟩, trivial, ?_, ?_, trivial⟩
            · show inR .i64 0; decide
            · show inR .i64 (seed0 es)
              have : (seed0 es) < 1000 ∧ 0 ≤ seed0 es := ⟨by unfold seed0; exact Int.tmod_lt_of_pos _ (by decide), by unfold seed0; exact Int.tmod_nonneg _ (by omega)⟩
              simp [inR, IntKind.min, IntKind.max, IntKind.signed, IntKind.bits]; omega
          · show SV.lt _ (SV.ptr _ _)
            simp [SV.lt]
          · exact ⟨b, pre.length, by simp [upd_eq]⟩
        · exact h.elim
      · exact h.elim
    · exact h.elim
  · exact h.elim
end
theorem sG {N : Nat} {keep : List Nat} (C : Cx) (hC : C.Ok) (hP : C.P = Try.prog) (hN : C.N = N) (hk : C.keep = keep) : SRules N keep (WP C) := by
  subst hN hk
  exact srules_wp hC hP
end Go.Proofs.Ytkofjkjcbljkdaa
end

section
namespace Go.Proofs.Ytkofjkjcbljkdaa
variable [LaidG]
set_option maxRecDepth 100000
set_option linter.unusedSimpArgs false

def inB (n lo hi : Int) : Bool := decide (n ≥ lo) && decide (n ≤ hi)

def c_within : FSpec := ⟨[(.rd, .int .i64), (.rd, .int .i64), (.rd, .int .i64)], [.bool], true, fun _ => True, fun ps => [.bool (inB (nth ps 0).I (nth ps 1).I (nth ps 2).I)], fun _ => []⟩
theorem k_within : FnOk Try.prog 39 c_within := by
  refine fn_mk [0, 1, 2, 6] [.tmp 6] (env_nil (tyTab_ok [])) mixed Try.func39 rfl (by decide) rfl (by decide) rfl ?_
  intro ps hT hpre W hW
  simp only [c_within, TyA, Ty, Tys] at hT hpre
  obtain ⟨_, _, rfl, ⟨a, rfl, ha⟩, _, _, rfl, ⟨b, rfl, hb⟩, _, _, rfl, ⟨c, rfl, hc⟩, rfl⟩ := hT
  refine hW.vc [] _ _ ?_
  simp [-List.getD_eq_getElem?_getD, c_within, inB]
  try rfl

def c_l01In : FSpec := c_within
theorem k_l01In : FnOk Try.prog 41 c_l01In := by
  refine fn_mk [0, 1, 2, 6] [.tmp 6] (env_nil (tyTab_ok [])) mixed Try.func41 rfl (by decide) rfl (by decide) rfl ?_
  intro ps hT hpre W hW
  simp only [c_l01In, TyA, Ty, Tys] at hT hpre
  simp only [c_within, TyA, Ty] at hT
  obtain ⟨_, _, rfl, ⟨a, rfl, ha⟩, _, _, rfl, ⟨b, rfl, hb⟩, _, _, rfl, ⟨c, rfl, hc⟩, rfl⟩ := hT
  refine hW.vc [] _ _ ?_
  simp [-List.getD_eq_getElem?_getD, c_l01In, c_within, c_within, inB]
  try rfl

def sizeB (w h : Int) : Bool := inB w 2 24 && inB h 2 10
def c_isSize : FSpec := ⟨[(.rd, .int .i64), (.rd, .int .i64)], [.bool], true, fun _ => True, fun ps => [.bool (sizeB (nth ps 0).I (nth ps 1).I)], fun _ => []⟩
theorem k_isSize : FnOk Try.prog 88 c_isSize := by
  refine fn_mk [0, 1, 4] [.tmp 4] (env_cons (cs := []) k_within (env_nil (tyTab_ok []))) mixed Try.func88 rfl (by decide) rfl (by decide) rfl ?_
  intro ps hT hpre W hW
  simp only [c_isSize, TyA, Ty, Tys] at hT hpre
  obtain ⟨_, _, rfl, ⟨a, rfl, ha⟩, _, _, rfl, ⟨b, rfl, hb⟩, rfl⟩ := hT
  refine hW.vc [] _ _ ?_
  simp [-List.getD_eq_getElem?_getD, c_isSize, c_within, sizeB]

def c_l04Size : FSpec := c_isSize
theorem k_l04Size : FnOk Try.prog 45 c_l04Size := by
  refine fn_mk [0, 1, 4] [.tmp 4] (env_cons (cs := []) k_l01In (env_nil (tyTab_ok []))) mixed Try.func45 rfl (by decide) rfl (by decide) rfl ?_
  intro ps hT hpre W hW
  simp only [c_l04Size, TyA, Ty, Tys] at hT hpre
  simp only [c_isSize, TyA, Ty] at hT
  obtain ⟨_, _, rfl, ⟨a, rfl, ha⟩, _, _, rfl, ⟨b, rfl, hb⟩, rfl⟩ := hT
  refine hW.vc [] _ _ ?_
  simp [-List.getD_eq_getElem?_getD, c_l04Size, c_l01In, c_isSize, c_within, c_within, c_isSize, sizeB]

end Go.Proofs.Ytkofjkjcbljkdaa
end

section
namespace Go.Proofs.Ytkofjkjcbljkdaa
variable [LaidG]
set_option maxRecDepth 100000
set_option linter.unusedSimpArgs false

/-- A source's place and seed. -/
structure Src where
  p : Int
  q : Int
@[simp] theorem Src.eta (s : Src) : (⟨s.p, s.q⟩ : Src) = s := rfl
def srcOk (p q k : Int) : Prop := 0 ≤ p ∧ p + k ≤ 1000000000000000000 ∧ 0 ≤ q ∧ q < 2147483648
def codeOk (es : List PV) : Prop := ∀ e ∈ es, 0 ≤ e.I ∧ e.I ≤ 255
theorem codeOk_ty {es : List PV} (h : ∀ e ∈ es, ∃ n, e = .int .u8 n ∧ inR .u8 n) : codeOk es := by
  intro e he
  obtain ⟨n, rfl, hn⟩ := h e he
  simpa [inR, IntKind.min, IntKind.max, IntKind.signed, IntKind.bits, PV.I] using hn
/-- One byte. -/
def srcB (es : List PV) (s : Src) : Int × Src :=
  if s.p + 1 ≤ es.length then ((nth es s.p.toNat).I, ⟨s.p + 1, (s.q * 31 + (nth es s.p.toNat).I + 7).tmod 2147483648⟩)
  else if 3000 < s.p + 1 then (0, ⟨s.p + 1, s.q⟩)
  else (((((s.q * 1103515245 + 12345).tmod 2147483648).tdiv 65536).tmod 256), ⟨s.p + 1, (s.q * 1103515245 + 12345).tmod 2147483648⟩)
theorem tm_ok (a b : Int) (ha : 0 ≤ a) (hb : 0 < b) : 0 ≤ a.tmod b ∧ a.tmod b < b := ⟨Int.tmod_nonneg _ ha, Int.tmod_lt_of_pos _ hb⟩
theorem srcB_ok {es : List PV} {s : Src} {k : Int} (hc : codeOk es) (h : srcOk s.p s.q k) (hk : 1 ≤ k) : srcOk (srcB es s).2.p (srcB es s).2.q (k - 1) ∧ 0 ≤ (srcB es s).1 ∧ (srcB es s).1 ≤ 255 := by
  obtain ⟨h1, h2, h3, h4⟩ := h
  unfold srcB
  split
  · rename_i hl
    have := hc _ (nth_mem (show s.p.toNat < es.length by omega))
    have := tm_ok (s.q * 31 + (nth es s.p.toNat).I + 7) 2147483648 (by omega) (by omega)
    exact ⟨⟨by simp only; omega, by simp only; omega, this.1, this.2⟩, by omega, by omega⟩
  · split
    · exact ⟨⟨by simp only; omega, by simp only; omega, h3, h4⟩, by simp, by simp⟩
    · have := tm_ok (s.q * 1103515245 + 12345) 2147483648 (by omega) (by omega)
      have h5 := tm_ok (((s.q * 1103515245 + 12345).tmod 2147483648).tdiv 65536) 256 (Int.tdiv_nonneg this.1 (by omega)) (by omega)
      exact ⟨⟨by simp only; omega, by simp only; omega, this.1, this.2⟩, h5.1, by simp only; omega⟩
/-- One of 0 to n - 1. -/
def srcN (es : List PV) (s : Src) (n : Int) : Int × Src :=
  if n ≤ 1 then (0, s) else if n ≤ 256 then ((srcB es s).1.tmod n, (srcB es s).2)
  else ((((srcB es s).1 * 65536 + (srcB es (srcB es s).2).1 * 256 + (srcB es (srcB es (srcB es s).2).2).1).tmod n), (srcB es (srcB es (srcB es s).2).2).2)
theorem srcOk.mono {p q k k' : Int} (h : srcOk p q k) (hk : k' ≤ k) : srcOk p q k' := ⟨h.1, by have := h.2.1; omega, h.2.2⟩
theorem srcN_ok {es : List PV} {s : Src} {n k : Int} (hc : codeOk es) (h : srcOk s.p s.q k) (hk : 3 ≤ k) : srcOk (srcN es s n).2.p (srcN es s n).2.q (k - 3) ∧ 0 ≤ (srcN es s n).1 ∧ (1 ≤ n → (srcN es s n).1 < n) := by
  obtain ⟨a1, a2, a3⟩ := srcB_ok hc h (by omega)
  unfold srcN
  split
  · exact ⟨h.mono (by omega), by simp, by simp only; omega⟩
  · split
    · have := tm_ok (srcB es s).1 n a2 (by omega)
      exact ⟨a1.mono (by omega), this.1, fun _ => this.2⟩
    · obtain ⟨b1, b2, b3⟩ := srcB_ok hc a1 (by omega)
      obtain ⟨c1, c2, c3⟩ := srcB_ok hc b1 (by omega)
      have := tm_ok ((srcB es s).1 * 65536 + (srcB es (srcB es s).2).1 * 256 + (srcB es (srcB es (srcB es s).2).2).1) n (by omega) (by omega)
      exact ⟨c1.mono (by omega), this.1, fun _ => this.2⟩
def c_srcByte : FSpec := ⟨[(.bs, .box [.list (.int .u8), .int .i64, .int .i64])], [.int .i64], true, fun ps => srcOk (nth (nth ps 0).A 1).I (nth (nth ps 0).A 2).I 1,
  fun ps => [.int .i64 (srcB (nth (nth ps 0).A 0).L ⟨(nth (nth ps 0).A 1).I, (nth (nth ps 0).A 2).I⟩).1],
  fun ps => [.agg [.list [], .int .i64 (srcB (nth (nth ps 0).A 0).L ⟨(nth (nth ps 0).A 1).I, (nth (nth ps 0).A 2).I⟩).2.p, .int .i64 (srcB (nth (nth ps 0).A 0).L ⟨(nth (nth ps 0).A 1).I, (nth (nth ps 0).A 2).I⟩).2.q]]⟩
theorem k_srcByte : FnOk Try.prog 104 c_srcByte := by
  refine fn_mk [0, 2] [.tmp 2] (env_nil (tyTab_ok [])) mixed Try.func104 rfl (by decide) rfl (by decide) rfl ?_
  intro ps hT hpre W hW
  simp only [c_srcByte, TyA, Ty, Tys] at hT hpre
  obtain ⟨_, _, rfl, ⟨_, rfl, _, _, rfl, ⟨es, rfl, hes, tes⟩, _, _, rfl, ⟨p, rfl, hp⟩, _, _, rfl, ⟨q, rfl, hq⟩, rfl⟩, rfl⟩ := hT
  simp only [nth_zero, nth_succ, pv_A, pv_I] at hpre
  obtain ⟨h1, h2, h3, h4⟩ := hpre
  refine hW.vc [(2, [], .take 0 <| .take 1 <| .take 2 <| .take 3 <| .take 4 <| .take 5 <| .take 6 <| .take 7 <| .take 8 <| .take 9 <| .done), (3, [23], .take 0 <| .take 1 <| .take 2 <| .take 3 <| .take 4 <| .take 5 <| .take 6 <| .take 7 <| .take 8 <| .take 9 <| .take 10 <| .take 11 <| .take 12 <| .take 13 <| .take 14 <| .take 15 <| .take 16 <| .take 17 <| .take 18 <| .take 19 <| .take 20 <| .take 21 <| .take 22 <| .alt 23 (.done) .stop), (4, [], .take 0 <| .take 1 <| .take 2 <| .take 3 <| .take 4 <| .take 5 <| .take 6 <| .take 7 <| .take 8 <| .take 9 <| .take 10 <| .take 11 <| .alt 12 (.done) .stop)] _ _ ?_
  simp [-List.getD_eq_getElem?_getD, c_srcByte]
  have hc := codeOk_ty ‹_›
  rw [wrap64 (n := p + 1) (by omega), show p + 1 - 1 = p by omega, wrap64 (n := p) (by omega), wrap64 (n := q * 31) (by omega), wrap64 (n := q * 1103515245) (by omega), wrap64 (n := q * 1103515245 + 12345) (by omega)]
  refine ⟨by decide +kernel, fun _ => ⟨fun h5 => ⟨by decide +kernel, ⟨by omega, by omega⟩, by omega, fun _ => ⟨by decide +kernel, ⟨by omega, by omega⟩, by omega, fun _ => ?_⟩⟩, fun h5 => ⟨fun h6 => ?_, fun h6 => ?_⟩⟩⟩
  · have h7 := hc _ (nth_mem (show p.toNat < es.length by omega))
    rw [wrap64 (n := (nth es p.toNat).I) (by omega), wrap64 (n := q * 31 + (nth es p.toNat).I) (by omega), wrap64 (n := q * 31 + (nth es p.toNat).I + 7) (by omega)]
    simp [srcB, h5]
  · simp [srcB, h6, show ¬ p + 1 ≤ (es.length : Int) by omega]
  · have h7 := tm_ok (q * 1103515245 + 12345) 2147483648 (by omega) (by omega)
    have h8 := Int.tdiv_nonneg h7.1 (show (0 : Int) ≤ 65536 by omega)
    have h9 := Int.tdiv_le_self 65536 h7.1
    rw [wrap64 (n := ((q * 1103515245 + 12345).tmod 2147483648).tdiv 65536) (by omega)]
    simp [srcB, show ¬ 3000 < p + 1 by omega, show ¬ p + 1 ≤ (es.length : Int) by omega]
def c_srcNext : FSpec := ⟨[(.bs, .box [.list (.int .u8), .int .i64, .int .i64]), (.rd, .int .i64)], [.int .i64], true, fun ps => srcOk (nth (nth ps 0).A 1).I (nth (nth ps 0).A 2).I 3,
  fun ps => [.int .i64 (srcN (nth (nth ps 0).A 0).L ⟨(nth (nth ps 0).A 1).I, (nth (nth ps 0).A 2).I⟩ (nth ps 1).I).1],
  fun ps => [.agg [.list [], .int .i64 (srcN (nth (nth ps 0).A 0).L ⟨(nth (nth ps 0).A 1).I, (nth (nth ps 0).A 2).I⟩ (nth ps 1).I).2.p, .int .i64 (srcN (nth (nth ps 0).A 0).L ⟨(nth (nth ps 0).A 1).I, (nth (nth ps 0).A 2).I⟩ (nth ps 1).I).2.q]]⟩
theorem k_srcNext : FnOk Try.prog 56 c_srcNext := by
  refine fn_mk [0, 1, 4, 5, 6, 7] [.tmp 4] (env_cons (cs := []) k_srcByte (env_nil (tyTab_ok []))) mixed Try.func56 rfl (by decide) rfl (by decide) rfl ?_
  intro ps hT hpre W hW
  simp only [c_srcNext, TyA, Ty, Tys] at hT hpre
  obtain ⟨_, _, rfl, ⟨_, rfl, _, _, rfl, ⟨es, rfl, hes, tes⟩, _, _, rfl, ⟨p, rfl, hp⟩, _, _, rfl, ⟨q, rfl, hq⟩, rfl⟩, _, _, rfl, ⟨n, rfl, hn⟩, rfl⟩ := hT
  simp only [nth_zero, nth_succ, pv_A, pv_I] at hpre
  refine hW.vc [] _ _ ?_
  simp [-List.getD_eq_getElem?_getD, c_srcNext, c_srcByte]
  have hc := codeOk_ty ‹_›
  have hb := srcB_ok (s := ⟨p, q⟩) hc hpre (by omega)
  have hb2 := srcB_ok hc hb.1 (by omega)
  have hb3 := srcB_ok hc hb2.1 (by omega)
  refine ⟨fun h => by simp [srcN, h], fun h => ⟨fun h2 => ⟨hpre.mono (by omega), by omega, by simp [srcN, h2, show ¬ n ≤ 1 by omega]⟩, fun h2 => ⟨hpre.mono (by omega), hb.1.mono (by omega), hb2.1.mono (by omega), by omega, ?_⟩⟩⟩
  rw [wrap64 (n := (srcB es ⟨p, q⟩).1 * 65536) (by omega), wrap64 (n := (srcB es (srcB es ⟨p, q⟩).2).1 * 256) (by omega), wrap64 (n := (srcB es ⟨p, q⟩).1 * 65536 + (srcB es (srcB es ⟨p, q⟩).2).1 * 256) (by omega), wrap64 (n := (srcB es ⟨p, q⟩).1 * 65536 + (srcB es (srcB es ⟨p, q⟩).2).1 * 256 + (srcB es (srcB es (srcB es ⟨p, q⟩).2).2).1) (by omega)]
  simp [srcN, show ¬ n ≤ 1 by omega, show ¬ n ≤ 256 by omega]
/-- Some bytes more. -/
def srcL (es : List PV) : Nat → Src → List PV → List PV × Src
  | 0, s, acc => (acc, s)
  | k + 1, s, acc => srcL es k (srcN es s 256).2 (acc ++ [.int .u8 (IntKind.u8.wrap (srcN es s 256).1)])
/-- Up to n bytes. -/
def srcBs (es : List PV) (s : Src) (n : Int) : List PV × Src := srcL es (srcN es s (n + 1)).1.toNat (srcN es s (n + 1)).2 []
def c_srcBytes : FSpec := ⟨[(.bs, .box [.list (.int .u8), .int .i64, .int .i64]), (.rd, .int .i64)], [.list (.int .u8)], true, fun ps => srcOk (nth (nth ps 0).A 1).I (nth (nth ps 0).A 2).I 30000 ∧ 0 ≤ (nth ps 1).I ∧ (nth ps 1).I ≤ 9000,
  fun ps => [.list (srcBs (nth (nth ps 0).A 0).L ⟨(nth (nth ps 0).A 1).I, (nth (nth ps 0).A 2).I⟩ (nth ps 1).I).1],
  fun ps => [.agg [.list [], .int .i64 (srcBs (nth (nth ps 0).A 0).L ⟨(nth (nth ps 0).A 1).I, (nth (nth ps 0).A 2).I⟩ (nth ps 1).I).2.p, .int .i64 (srcBs (nth (nth ps 0).A 0).L ⟨(nth (nth ps 0).A 1).I, (nth (nth ps 0).A 2).I⟩ (nth ps 1).I).2.q]]⟩
def c_BytesOf : FSpec := ⟨[(.rd, .list (.int .u8)), (.rd, .int .i64)], [.list (.int .u8)], true, fun ps => 0 ≤ (nth ps 1).I ∧ (nth ps 1).I ≤ 9000, fun ps => [.list (srcBs (nth ps 0).L ⟨0, seed0 (nth ps 0).L⟩ (nth ps 1).I).1], fun _ => []⟩
end Go.Proofs.Ytkofjkjcbljkdaa
end

section
namespace Go.Proofs.Ytkofjkjcbljkdaa
variable [LaidG]
set_option maxRecDepth 100000
set_option linter.unusedSimpArgs false

def szGo (l : Int) : List PV → Int
  | [] => l
  | e :: es => if l - e.S.length < 0 then -1 else szGo (l - e.S.length) es
def szStr (es : List PV) (l : Int) : Int := if l - es.length < 0 then -1 else szGo (l - es.length) es

def c_szStringS : FSpec := ⟨[(.rd, .list .str), (.rd, .int .i64)], [.int .i64], true, fun ps => 0 ≤ (nth ps 1).I, fun ps => [.int .i64 (szStr (nth ps 0).L (nth ps 1).I)], fun _ => []⟩
theorem set_take {out es : List PV} {i : Nat} {x : PV} (h1 : out.take i = es.take i) (h2 : out.length = es.length) (h3 : i < es.length) (h4 : x = nth es i) : (out.set i x).take (i + 1) = es.take (i + 1) := by
  rw [take_nth h3, ← h1, take_nth (by simp; omega), List.take_set_of_le (Nat.le_refl _), nth_eq (by simp; omega), List.getElem_set_self, h4]

def c_toStringS : FSpec := ⟨[(.rd, .list .str)], [.list .str], true, fun ps => (nth ps 0).L.length ≤ 1048576, fun ps => [.list (nth ps 0).L], fun _ => []⟩
/-- Two rows are the same by their elements. -/
def eqL (f : PV → PV → Bool) : List PV → List PV → Bool
  | [], [] => true
  | a :: l, b :: m => f a b && eqL f l m
  | _, _ => false
theorem eqL_len {f : PV → PV → Bool} : ∀ {a b : List PV}, a.length ≠ b.length → eqL f a b = false
  | [], [], h => absurd rfl h
  | [], _ :: _, _ => rfl
  | _ :: _, [], _ => rfl
  | x :: a, y :: b, h => by simp only [eqL, eqL_len (a := a) (b := b) (by simpa using h), Bool.and_false]

def c_eqStringS : FSpec := ⟨[(.rd, .list .str), (.rd, .list .str)], [.bool], true, fun _ => True, fun ps => [.bool (eqL (fun x y => x.S == y.S) (nth ps 0).L (nth ps 1).L)], fun _ => []⟩
end Go.Proofs.Ytkofjkjcbljkdaa
end

