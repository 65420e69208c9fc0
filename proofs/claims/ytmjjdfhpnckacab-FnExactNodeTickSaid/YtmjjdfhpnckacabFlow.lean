/-
  What is left to do as data; the conditions that a stack of it asks; what they mean.
  Conditions: none.
-/
import Derived.Test.YtmjjdfhpnckacabCode
import Derived.Orders
namespace Go.Proofs.Ytmjjdfhpnckacab
set_option linter.unusedVariables false

/-- What is left to do. -/
inductive KI where
  | code (c : Code)
  | run (all l : List Oper)
  | blk (id : Nat)
  | post (p : St → Prop)

def csz : Code → Nat
  | .seq a b => csz a + csz b + 2
  | .cond _ a b => csz a + csz b + 1
  | .block _ b => csz b + 3
  | .loop b => csz b + 1
  | .scope b => csz b + 1
  | .rangeFunc _ _ a b => csz a + csz b + 1
  | .region _ ops _ => ops.toList.length + 2
  | _ => 1

def ksz : List KI → Nat
  | [] => 0
  | .code c :: k => csz c + ksz k + 1
  | .run _ l :: k => l.length + ksz k + 1
  | _ :: k => ksz k + 1

def unwd (id : Nat) : List KI → Option (List KI)
  | [] => none
  | .blk i :: k => if i = id then some k else unwd id k
  | _ :: k => unwd id k

theorem unwd_sz {id : Nat} : ∀ {k k' : List KI}, unwd id k = some k' → ksz k' ≤ ksz k
  | [], _, h => by cases h
  | .blk i :: k, k', h => by
    simp only [unwd] at h
    split at h
    · cases h; simp [ksz]
    · have := unwd_sz h; simp only [ksz]; omega
  | .code c :: k, k', h => by have := unwd_sz (k := k) h; simp only [ksz]; omega
  | .run _ _ :: k, k', h => by have := unwd_sz (k := k) h; simp only [ksz]; omega
  | .post _ :: k, k', h => by have := unwd_sz (k := k) h; simp only [ksz]; omega

def dstOk (N : Nat) (keep : List Nat) (g : Bool) : Option Nat → Prop
  | none => True
  | some d => d < N ∧ (keep.contains d = true → g = true)

def putS (keep : List Nat) (S : St) (g : Bool) (dst : Option Nat) (R : RR) : St :=
  match dst with
  | none => { Lp := S.Lp, Lt := S.Lt, A := R.A, n := R.n }
  | some d => if keep.contains d then { Lp := set1 S.Lp d R.sv, Lt := S.Lt, A := R.A, n := R.n } else { Lp := S.Lp, Lt := (d, g, R.sv) :: S.Lt, A := R.A, n := R.n }

/-- What stays the same throughout a function. -/
structure Cx where
  P : Program
  E : Env
  N : Nat
  w0 : World
  X : List Nat
  F : List Nat
  keep : List Nat
  n0 : Nat
  β0 : Nat → GV
  Q : Exit → Act → World → Prop
  fin : St → Prop

def Kp (keep : List Nat) (S : St) : Prop := (∀ t v, lk S.Lp t = some v → keep.contains t = true) ∧ (∀ t x, lk S.Lt t = some x → keep.contains t = false)

def At (C : Cx) (S : St) (a : Act) (w : World) : Prop :=
  Kp C.keep S ∧ C.n0 ≤ S.n ∧ ∃ β ϕ, Sat C.N C.w0 C.X C.F S β ϕ a w ∧ ∀ h, h < C.n0 → β h = C.β0 h

structure Cx.Ok (C : Cx) : Prop where
  env : EnvOk C.P C.E
  mix : C.P.follows .mixedOrders = true
  fin : ∀ S a w, At C S a w → C.fin S → C.Q .normal a w ∧ C.Q .ret a w
  pan : ∀ c a d v w, C.Q (.panic c) (a.put d v) w → C.Q (.panic c) a w

def xt (C : Cx) : List KI → Exit → Act → World → Prop
  | [] => C.Q
  | .code c :: k => Exit.then (c.wp C.P (xt C k)) (xt C k)
  | .run all l :: k => Exit.then (wpList C.P all.toArray (xt C k) l) (xt C k)
  | .blk id :: k => Exit.inBlock id (xt C k)
  | .post p :: k => Exit.then (fun a w => ∃ S, At C S a w ∧ p S) (xt C k)

def WP (C : Cx) (k : List KI) (S : St) : Prop := ∀ a w, At C S a w → xt C k .normal a w

theorem xt_ret {C : Cx} {a : Act} {w : World} : ∀ {k : List KI}, C.Q .ret a w → xt C k .ret a w
  | [], h => h
  | .code c :: k, h => xt_ret (k := k) h
  | .run _ _ :: k, h => xt_ret (k := k) h
  | .blk _ :: k, h => xt_ret (k := k) h
  | .post _ :: k, h => xt_ret (k := k) h

theorem xt_exit {C : Cx} {id : Nat} {a : Act} {w : World} : ∀ {k k' : List KI}, unwd id k = some k' → xt C k' .normal a w → xt C k (.exit id) a w
  | [], k', h, _ => by cases h
  | .code c :: k, k', h, hx => xt_exit (k := k) h hx
  | .run _ _ :: k, k', h, hx => xt_exit (k := k) h hx
  | .post _ :: k, k', h, hx => xt_exit (k := k) h hx
  | .blk i :: k, k', h, hx => by
    simp only [unwd] at h
    simp only [xt, Exit.inBlock]
    split at h
    · rename_i e; cases h; subst e; rw [if_pos rfl]; exact hx
    · rename_i e; rw [if_neg (Ne.symm e)]; exact xt_exit h hx

section
variable {C : Cx} {S : St} {a : Act} {w : World} {o : Oper} {R : RR} {g : Bool} {all l : List Oper} {k : List KI}

theorem guard_sound {β : Nat → GV} {ϕ : Nat → List Nat} {N : Nat} {w0 : World} {X F : List Nat} (h : guardOf S all o.guard = some g) (sat : Sat N w0 X F S β ϕ a w) : Region.wanted o (yielded all.toArray a.tmps) = g := by
  unfold Region.wanted
  unfold guardOf at h
  split at h
  · rename_i hg; rw [hg]; cases h; rfl
  · rename_i j wt hg
    rw [hg]
    simp only
    split at h
    · rename_i o' ho'
      split at h
      · rename_i d hd
        split at h
        · rename_i g' x hs
          cases h
          obtain ⟨_, s2, s3⟩ := slot_sound hs sat
          have hy : ((all.toArray[j]?).bind (·.dst)).bind (a.tmps[·]?) = a.tmps[d]? := by simp [ho', hd]
          unfold yielded
          rw [hy]
          cases g' with
          | true => rw [(s2 rfl).1]; cases wt <;> cases x <;> simp [SV.val]
          | false => rw [s3 rfl]; simp [undef]
        · cases h
      · cases h
    · cases h

theorem at_taken {β : Nat → GV} {ϕ : Nat → List Nat} {β' : Nat → GV} {ϕ' : Nat → List Nat} {v : Value} {w' : World} (kp : Kp C.keep S) (hn : C.n0 ≤ S.n) (sat : Sat C.N C.w0 C.X C.F S β ϕ a w) (h0 : ∀ h, h < C.n0 → β h = C.β0 h)
    (hd : dstOk C.N C.keep true o.dst) (hp : Post C.w0 C.X C.F S R β ϕ o.dst v w' β' ϕ') : At C (putS C.keep S true o.dst R) (a.put o.dst v) w' := by
  have hval : ∀ x, SV.lt S.n x → SV.val β' x = SV.val β x := fun x hx => SV.val_congr hp.bt x hx
  have h0' : ∀ h, h < C.n0 → β' h = C.β0 h := fun h hh =>
    (hp.bt h (Nat.lt_of_lt_of_le hh hn)).trans (h0 h hh)
  have oldp : ∀ t v, lk S.Lp t = some v → a.tmps[t]? = some (SV.val β' v) ∧ SV.lt R.n v ∧ SV.ok β' v := by
    intro t v ht
    obtain ⟨q1, q2, q3⟩ := sat.lp t v ht
    exact ⟨by rw [hval v q2]; exact q1, SV.lt_mono hp.n v q2, SV.ok_congr hp.bt v q2 q3⟩
  have oldt : ∀ t g v, lk S.Lt t = some (g, v) → (g = true → SV.lt R.n v) ∧ (g = true → a.tmps[t]? = some (SV.val β' v) ∧ SV.ok β' v) ∧ (g = false → a.tmps[t]? = some undef) := by
    intro t g v ht
    obtain ⟨q1, q2, q3⟩ := sat.lt t g v ht
    exact ⟨fun hg => SV.lt_mono hp.n v (q1 hg), fun hg => ⟨by rw [hval v (q1 hg)]; exact (q2 hg).1, SV.ok_congr hp.bt v (q1 hg) (q2 hg).2⟩, q3⟩
  cases hdst : o.dst with
  | none =>
    exact ⟨kp, Nat.le_trans hn hp.n, β', ϕ', ⟨sat.df, sat.sz, oldp, oldt, hp.hp, hp.hb, hp.fr⟩, h0'⟩
  | some d =>
    rw [hdst] at hd
    obtain ⟨hdN, _⟩ := hd
    have hv := hp.v (by rw [hdst]; simp)
    have hget : (a.put (some d) v).tmps[d]? = some (SV.val β' R.sv) := by
      simp only [Act.put]; rw [Array.getElem?_setIfInBounds_self_of_lt (by rw [sat.sz]; exact hdN), hv]
    have hoth : ∀ t, d ≠ t → (a.put (some d) v).tmps[t]? = a.tmps[t]? := fun t ht => by
      simp only [Act.put]; exact Array.getElem?_setIfInBounds_ne ht
    have hsz : (a.put (some d) v).tmps.size = C.N := by simp only [Act.put, Array.size_setIfInBounds]; exact sat.sz
    by_cases hk : C.keep.contains d = true
    · simp only [putS, hk, if_true]
      refine ⟨⟨?_, ?_⟩, Nat.le_trans hn hp.n, β', ϕ', ⟨sat.df, hsz, ?_, ?_, hp.hp, hp.hb, hp.fr⟩, h0'⟩
      · intro t u ht
        simp only [lk_set1] at ht
        split at ht
        · rename_i e; subst e; exact hk
        · exact kp.1 t u ht
      · exact kp.2
      · intro t u ht
        simp only [lk_set1] at ht
        split at ht
        · rename_i e; subst e; cases ht; exact ⟨hget, hp.lt, hp.ok⟩
        · rename_i e; rw [hoth t e]; exact oldp t u ht
      · intro t g u ht
        have : d ≠ t := fun e => by subst e; have := kp.2 _ _ ht; rw [hk] at this; cases this
        rw [hoth t this]; exact oldt t g u ht
    · simp only [putS, hk, Bool.false_eq_true, if_false]
      refine ⟨⟨kp.1, ?_⟩, Nat.le_trans hn hp.n, β', ϕ', ⟨sat.df, hsz, ?_, ?_, hp.hp, hp.hb, hp.fr⟩, h0'⟩
      · intro t u ht
        simp only [lk] at ht
        split at ht
        · rename_i e; subst e; simpa using hk
        · exact kp.2 t u ht
      · intro t u ht
        have : d ≠ t := fun e => by subst e; exact hk (kp.1 _ _ ht)
        rw [hoth t this]; exact oldp t u ht
      · intro t g u ht
        simp only [lk] at ht
        split at ht
        · rename_i e; subst e; cases ht
          exact ⟨fun _ => hp.lt, fun _ => ⟨hget, hp.ok⟩, fun h => by cases h⟩
        · rename_i e; rw [hoth t e]; exact oldt t g u ht

theorem at_skipped {β : Nat → GV} {ϕ : Nat → List Nat} (kp : Kp C.keep S) (hn : C.n0 ≤ S.n) (sat : Sat C.N C.w0 C.X C.F S β ϕ a w) (h0 : ∀ h, h < C.n0 → β h = C.β0 h)
    (hd : dstOk C.N C.keep false o.dst) (hA : R.A = S.A) (hRn : R.n = S.n) : At C (putS C.keep S false o.dst R) (a.put o.dst undef) w := by
  cases hdst : o.dst with
  | none =>
    simp only [putS, hA, hRn]
    exact ⟨kp, hn, β, ϕ, ⟨sat.df, sat.sz, sat.lp, sat.lt, sat.hp, sat.hb, sat.fr⟩, h0⟩
  | some d =>
    rw [hdst] at hd
    obtain ⟨hdN, hk⟩ := hd
    have hk : C.keep.contains d = false := by
      cases h : C.keep.contains d with
      | false => rfl
      | true => exact absurd (hk h) (by simp)
    have hget : (a.put (some d) undef).tmps[d]? = some undef := by
      simp only [Act.put]; rw [Array.getElem?_setIfInBounds_self_of_lt (by rw [sat.sz]; exact hdN)]
    have hoth : ∀ t, d ≠ t → (a.put (some d) undef).tmps[t]? = a.tmps[t]? := fun t ht => by
      simp only [Act.put]; exact Array.getElem?_setIfInBounds_ne ht
    have hsz : (a.put (some d) undef).tmps.size = C.N := by simp only [Act.put, Array.size_setIfInBounds]; exact sat.sz
    simp only [putS, hk, Bool.false_eq_true, if_false, hA, hRn]
    refine ⟨⟨kp.1, ?_⟩, hn, β, ϕ, ⟨sat.df, hsz, ?_, ?_, sat.hp, sat.hb, sat.fr⟩, h0⟩
    · intro t u ht
      simp only [lk] at ht
      split at ht
      · rename_i e; subst e; exact hk
      · exact kp.2 t u ht
    · intro t u ht
      have : d ≠ t := fun e => by subst e; have := kp.1 _ _ ht; rw [hk] at this; cases this
      rw [hoth t this]; exact sat.lp t u ht
    · intro t g u ht
      simp only [lk] at ht
      split at ht
      · rename_i e; subst e; cases ht
        exact ⟨fun h => (by cases h), fun h => (by cases h), fun _ => hget⟩
      · rename_i e; rw [hoth t e]; exact sat.lt t g u ht

theorem kp_lt (kp : Kp C.keep S) : Kp C.keep { S with Lt := [] } := ⟨kp.1, fun t x h => (by cases h)⟩

theorem at_lt (h : At C S a w) : At C { S with Lt := [] } a w := by
  obtain ⟨kp, hn, β, ϕ, sat, h0⟩ := h
  exact ⟨kp_lt kp, hn, β, ϕ, ⟨sat.df, sat.sz, sat.lp, fun t g v h => (by cases h), sat.hp, sat.hb, sat.fr⟩, h0⟩

end
end Go.Proofs.Ytmjjdfhpnckacab
