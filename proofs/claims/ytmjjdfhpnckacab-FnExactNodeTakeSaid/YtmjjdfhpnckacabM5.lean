/-
  Part 5 of the proof of FnExactNodeTake: a verification-condition generator over the program and the contracts of its functions, in the order of their use.
  Conditions: none.
-/
import Derived.Test.YtmjjdfhpnckacabM4
import Derived.Test.YtmjjdfhpnckacabChecked
set_option linter.unusedVariables false
set_option linter.unusedSimpArgs false

section
namespace Go.Proofs.Ytmjjdfhpnckacab
set_option linter.unusedVariables false

def rn (ρ : List (Nat × Nat)) (h : Nat) : Nat := match lk ρ h with | some i => i | none => h

mutual
/-- The same value, the handles of the second renamed. -/
def entV (ρ : List (Nat × Nat)) : SV → SV → Prop
  | x, .int k n => match x with | .int k' n' => k' = k ∧ n' = n | _ => False
  | x, .bool b => match x with | .bool b' => b' = b | _ => False
  | x, .str l => match x with | .str l' => l' = l | _ => False
  | x, .sl h => match x with | .sl h' => h' = rn ρ h | _ => False
  | x, .ptr h o => match x with | .ptr h' o' => h' = rn ρ h ∧ o' = o | _ => False
  | x, .elp h i d o => match x with | .elp h' i' d' o' => h' = rn ρ h ∧ i' = i ∧ d' = d ∧ o' = o | _ => False
  | x, .agg ys => match x with | .agg xs => entVs ρ xs ys | _ => False
  | x, .tup ys => match x with | .tup xs => entVs ρ xs ys | _ => False
  | x, .fn f ys => match x with | .fn f' xs => f' = f ∧ entVs ρ xs ys | _ => False
  | x, .nils => match x with | .nils => True | _ => False
  | x, .nilp => match x with | .nilp => True | _ => False
def entVs (ρ : List (Nat × Nat)) : List SV → List SV → Prop
  | xs, [] => match xs with | [] => True | _ => False
  | xs, y :: ys => match xs with | x :: xs => entV ρ x y ∧ entVs ρ xs ys | _ => False
end

/-- Which of the second state's handles stand for some of the first's. -/
def entR (ρ : List (Nat × Nat)) (D : List Nat) (rs rs' : List Nat) : Prop :=
  (∀ i ∈ D, memB rs (rn ρ i) = true → memB rs' i = true) ∧ ∀ r ∈ rs', memB D r = true ∧ memB rs (rn ρ r) = true

/-- How an array is held says less. -/
def entO (ρ : List (Nat × Nat)) (D : List Nat) : Own → Own → Prop
  | .vw rs, .vw rs' => entR ρ D rs rs'
  | .sh, .sh => True
  | .dp, .dp => True
  | .cs k, .cs k' => k = k'
  | .dp, .cs k => k = 0
  | .dp, .vw [] => True
  | .sh, .vw [] => True
  | _, _ => False

def entH (ρ : List (Nat × Nat)) (D : List Nat) : HL → HL → Prop
  | .arr o T es _, .arr o' T' es' p' => entO ρ D o o' ∧ T = T' ∧ es = es' ∧ p' = .no
  | .box ow _ cs, .box ow' _ cs' => ow = ow' ∧ entVs ρ cs cs'
  | .abx ow T es, .abx ow' T' es' => ow = ow' ∧ T = T' ∧ es = es'
  | .bld T e l, .bld T' e' l' => T = T' ∧ e = e' ∧ l = l'
  | _, _ => False

def hlts (n : Nat) : HL → Prop | .box _ _ cs => SV.lts n cs | _ => True

def domH : Hp → List Nat
  | [] => []
  | (h, _) :: r => h :: domH r

def entA (ρ : List (Nat × Nat)) (A : Hp) (B : List Nat) (n : Nat) : Hp → Prop
  | [] => True
  | (h, hl') :: r => (match lk A (rn ρ h) with | some hl => entH ρ B hl hl' | none => False) ∧ h < n ∧ hlts n hl' ∧ entA ρ A B n r

def entL (ρ : List (Nat × Nat)) (keep : List Nat) (n : Nat) (L : List (Nat × SV)) : List (Nat × SV) → Prop
  | [] => True
  | (t, v') :: r => (match lk L t with | some v => entV ρ v v' | none => False) ∧ keep.contains t = true ∧ SV.lt n v' ∧ entL ρ keep n L r

/-- A state says less than another, by a renaming of handles. -/
def ent (keep : List Nat) (n0 : Nat) (ρ : List (Nat × Nat)) (S T : St) : Prop :=
  T.Lt = [] ∧ n0 ≤ T.n ∧ (∀ p ∈ ρ, n0 ≤ p.1) ∧ (T.A.map fun p => rn ρ p.1).Nodup ∧ entL ρ keep T.n S.Lp T.Lp ∧ entA ρ S.A (domH T.A) T.n T.A

mutual
theorem entV_val {ρ : List (Nat × Nat)} (β : Nat → GV) : ∀ (x y : SV), entV ρ x y → SV.val (fun h => β (rn ρ h)) y = SV.val β x
  | x, .int k n, h => by cases x <;> simp only [entV] at h <;> obtain ⟨rfl, rfl⟩ := h; rfl
  | x, .bool b, h => by cases x <;> simp only [entV] at h; subst h; rfl
  | x, .str l, h => by cases x <;> simp only [entV] at h; subst h; rfl
  | x, .sl i, h => by cases x <;> simp only [entV] at h; subst h; rfl
  | x, .ptr i o, h => by cases x <;> simp only [entV] at h <;> obtain ⟨rfl, rfl⟩ := h; rfl
  | x, .elp i j d o, h => by cases x <;> simp only [entV] at h <;> obtain ⟨rfl, rfl, rfl, rfl⟩ := h; rfl
  | x, .agg ys, h => by cases x <;> simp only [entV] at h; simp only [SV.val]; rw [entVs_val β _ ys h]
  | x, .tup ys, h => by cases x <;> simp only [entV] at h; simp only [SV.val]; rw [entVs_val β _ ys h]
  | x, .fn f ys, h => by cases x <;> simp only [entV] at h <;> obtain ⟨rfl, h⟩ := h; simp only [SV.val]; rw [entVs_val β _ ys h]
  | x, .nils, h => by cases x <;> simp only [entV] at h; rfl
  | x, .nilp, h => by cases x <;> simp only [entV] at h; rfl
theorem entVs_val {ρ : List (Nat × Nat)} (β : Nat → GV) : ∀ (xs ys : List SV), entVs ρ xs ys → SV.vals (fun h => β (rn ρ h)) ys = SV.vals β xs
  | xs, [], h => by cases xs <;> simp only [entVs] at h; rfl
  | xs, y :: ys, h => by cases xs <;> simp only [entVs] at h; simp only [SV.vals]; rw [entV_val β _ y h.1, entVs_val β _ ys h.2]
end

mutual
theorem entV_ok {ρ : List (Nat × Nat)} (β : Nat → GV) : ∀ (x y : SV), entV ρ x y → SV.ok β x → SV.ok (fun h => β (rn ρ h)) y
  | x, .int k n, h, hk => by cases x <;> simp only [entV] at h <;> obtain ⟨rfl, rfl⟩ := h; exact hk
  | x, .bool b, h, hk => trivial
  | x, .str l, h, hk => by cases x <;> simp only [entV] at h; subst h; exact hk
  | x, .sl i, h, hk => trivial
  | x, .ptr i o, h, hk => by cases x <;> simp only [entV] at h <;> obtain ⟨rfl, rfl⟩ := h; exact hk
  | x, .elp i j d o, h, hk => by cases x <;> simp only [entV] at h <;> obtain ⟨rfl, rfl, rfl, rfl⟩ := h; exact hk
  | x, .agg ys, h, hk => by cases x <;> simp only [entV] at h; exact entVs_ok β _ ys h hk
  | x, .tup ys, h, hk => by cases x <;> simp only [entV] at h; exact entVs_ok β _ ys h hk
  | x, .fn f ys, h, hk => by cases x <;> simp only [entV] at h <;> obtain ⟨rfl, h⟩ := h; exact entVs_ok β _ ys h hk
  | x, .nils, h, hk => trivial
  | x, .nilp, h, hk => trivial
theorem entVs_ok {ρ : List (Nat × Nat)} (β : Nat → GV) : ∀ (xs ys : List SV), entVs ρ xs ys → SV.oks β xs → SV.oks (fun h => β (rn ρ h)) ys
  | xs, [], h, hk => trivial
  | xs, y :: ys, h, hk => by cases xs <;> simp only [entVs] at h; exact ⟨entV_ok β _ y h.1 hk.1, entVs_ok β _ ys h.2 hk.2⟩
end

section
variable {C : Cx} {S T : St} {a : Act} {w : World} {ρ : List (Nat × Nat)} {k : List KI}

theorem rn_low {n0 h : Nat} (hρ : ∀ p ∈ ρ, n0 ≤ p.1) (hh : h < n0) : rn ρ h = h := by
  unfold rn
  have : lk ρ h = none := by
    induction ρ with
    | nil => rfl
    | cons p ρ ih =>
      obtain ⟨i, j⟩ := p
      simp only [lk]
      have := hρ (i, j) (by simp)
      rw [if_neg (by simp at this; omega)]
      exact ih fun p hp => hρ p (by simp [hp])
  rw [this]

theorem entL_lk {keep : List Nat} {n : Nat} {L : List (Nat × SV)} : ∀ {L' : List (Nat × SV)}, entL ρ keep n L L' → ∀ t v', lk L' t = some v' → ∃ v, lk L t = some v ∧ entV ρ v v' ∧ keep.contains t = true ∧ SV.lt n v'
  | [], _, t, v', h => by cases h
  | (i, x) :: r, hL, t, v', h => by
    obtain ⟨h1, h2, h3, h4⟩ := hL
    simp only [lk] at h
    split at h
    · rename_i e; subst e; cases h
      split at h1
      · rename_i v hv; exact ⟨v, hv, h1, h2, h3⟩
      · exact h1.elim
    · exact entL_lk h4 t v' h

theorem entA_lk {A : Hp} {B : List Nat} {n : Nat} : ∀ {A' : Hp}, entA ρ A B n A' → ∀ i hl', lk A' i = some hl' → ∃ hl, lk A (rn ρ i) = some hl ∧ entH ρ B hl hl' ∧ i < n ∧ hlts n hl' ∧ ∃ p ∈ A', p.1 = i
  | [], _, t, v', h => by cases h
  | (i, x) :: r, hL, t, v', h => by
    obtain ⟨h1, h2, h3, h4⟩ := hL
    simp only [lk] at h
    split at h
    · rename_i e; subst e; cases h
      split at h1
      · rename_i hl hv; exact ⟨hl, hv, h1, h2, h3, (i, x), by simp, rfl⟩
      · exact h1.elim
    · obtain ⟨hl, q1, q2, q3, q4, p, q5, q6⟩ := entA_lk h4 t v' h
      exact ⟨hl, q1, q2, q3, q4, p, by simp [q5], q6⟩

theorem nodup_inj {α β : Type} {f : α → β} : ∀ {l : List α}, (l.map f).Nodup → ∀ x ∈ l, ∀ y ∈ l, f x = f y → x = y
  | [], _, x, hx, _, _, _ => by cases hx
  | z :: l, h, x, hx, y, hy, e => by
    simp only [List.map_cons, List.nodup_cons] at h
    rcases List.mem_cons.1 hx with hx1 | hx2 <;> rcases List.mem_cons.1 hy with hy1 | hy2
    · rw [hx1, hy1]
    · subst hx1; exact absurd (List.mem_map.2 ⟨y, hy2, e.symm⟩) h.1
    · subst hy1; exact absurd (List.mem_map.2 ⟨x, hx2, e⟩) h.1
    · exact nodup_inj h.2 x hx2 y hy2 e

theorem domH_lk {A : Hp} {i : Nat} : i ∈ domH A ↔ ∃ hl, lk A i = some hl := by
  induction A with
  | nil => simp [domH, lk]
  | cons p A ih =>
    obtain ⟨h, x⟩ := p
    simp only [domH, List.mem_cons, lk]
    by_cases e : h = i
    · simp [e]
    · simp only [if_neg e, ← ih]
      exact ⟨fun h => h.resolve_left (Ne.symm e), .inr⟩

theorem entH_arr {D : List Nat} {o : Own} {T : PTy} {es : List PV} {p : Pth} : ∀ {hl : HL}, entH ρ D hl (.arr o T es p) → ∃ o' p', hl = .arr o' T es p' ∧ entO ρ D o' o ∧ p = .no
  | .arr o' T' es' p', h => by obtain ⟨ho, rfl, rfl, hp⟩ := h; exact ⟨_, _, rfl, ho, hp⟩
  | .dead, h => by simp [entH] at h
  | .box _ _ _, h => by simp [entH] at h
  | .abx _ _ _, h => by simp [entH] at h
  | .bld _ _ _, h => by simp [entH] at h

theorem entH_box {D : List Nat} {ow : Bool} {t : TypeId} {cs : List SV} : ∀ {hl : HL}, entH ρ D hl (.box ow t cs) → ∃ t' cs', hl = .box ow t' cs' ∧ entVs ρ cs' cs
  | .box ow t' cs', h => by obtain ⟨rfl, h⟩ := h; exact ⟨_, _, rfl, h⟩
  | .dead, h => by simp [entH] at h
  | .arr _ _ _ _, h => by simp [entH] at h
  | .abx _ _ _, h => by simp [entH] at h
  | .bld _ _ _, h => by simp [entH] at h

theorem entH_abx {D : List Nat} {ow : Bool} {T : PTy} {es : List PV} : ∀ {hl : HL}, entH ρ D hl (.abx ow T es) → hl = .abx ow T es
  | .abx ow' T' es', h => by obtain ⟨rfl, rfl, rfl⟩ := h; rfl
  | .dead, h => by simp [entH] at h
  | .arr _ _ _ _, h => by simp [entH] at h
  | .box _ _ _, h => by simp [entH] at h
  | .bld _ _ _, h => by simp [entH] at h

theorem entH_bld {D : List Nat} {T e : Nat} {l : List UInt8} : ∀ {hl : HL}, entH ρ D hl (.bld T e l) → hl = .bld T e l
  | .bld T' e' l', h => by obtain ⟨rfl, rfl, rfl⟩ := h; rfl
  | .dead, h => by simp [entH] at h
  | .arr _ _ _ _, h => by simp [entH] at h
  | .box _ _ _, h => by simp [entH] at h
  | .abx _ _ _, h => by simp [entH] at h

theorem entH_dead {D : List Nat} : ∀ {hl : HL}, ¬ entH ρ D hl .dead
  | .arr o' T' es' _, h => by simp [entH] at h
  | .dead, h => by simp [entH] at h
  | .box _ _ _, h => by simp [entH] at h
  | .abx _ _ _, h => by simp [entH] at h
  | .bld _ _ _, h => by simp [entH] at h

/-- What is said less of one handle. -/
theorem entH_all {D : List Nat} {w : World} {g : GV} {β : Nat → GV} {f : List Nat} {hl hl' : HL} (h : entH ρ D hl hl') :
    (HLSat w g β f hl → HLSat w g (fun h => β (rn ρ h)) f hl') ∧ (∀ b ∈ owned f hl', b ∈ owned f hl) ∧ (isA hl' → isA hl) ∧ (ndOk f hl → ndOk f hl') ∧ hl ≠ .dead ∧ (∀ i ∈ D, rn ρ i ∈ roots hl → i ∈ roots hl') ∧ (∀ r ∈ roots hl', r ∈ D ∧ rn ρ r ∈ roots hl) ∧ (∀ A β' w' g', pathOk A β' w' g' hl') := by
  cases hl' with
  | dead => exact (entH_dead h).elim
  | box ow t cs =>
    obtain ⟨t', cs', rfl, q⟩ := entH_box h
    refine ⟨?_, fun b hb => by cases ow with | true => simpa [owned] using hb | false => simp [owned] at hb, fun h => by cases ow <;> exact h, fun _ => trivial, by simp, by simp [roots], by simp [roots], fun _ _ _ _ => trivial⟩
    rintro ⟨b, t', s1, s2, s3⟩
    exact ⟨b, t', s1, s2, by rw [entVs_val β _ _ q]; exact s3⟩
  | bld T e l =>
    have := entH_bld h
    subst this
    exact ⟨fun h => h, fun b hb => hb, fun h => h, fun h => h, by simp, by simp [roots], by simp [roots], fun _ _ _ _ => trivial⟩
  | abx ow T es =>
    have := entH_abx h
    subst this
    exact ⟨fun h => h, fun b hb => hb, fun h => h, fun h => h, by simp, by simp [roots], by simp [roots], fun _ _ _ _ => trivial⟩
  | arr o T es p =>
    obtain ⟨o', p', rfl, ho, rfl⟩ := entH_arr h
    have hpath : ∀ A β' w' g', pathOk A β' w' g' (.arr o T es .no) := fun A β' w' g' => by cases o <;> trivial
    cases o' with
    | vw rs =>
      cases o <;> simp only [entO] at ho
      rename_i rs'
      refine ⟨fun h => h, fun b hb => by simp [owned] at hb, fun h => h, fun h => h, by simp, fun i hi hm => memB_iff.1 (ho.1 i hi (memB_iff.2 hm)), fun r hr => ⟨memB_iff.1 (ho.2 r hr).1, memB_iff.1 (ho.2 r hr).2⟩, hpath⟩
    | sh =>
      cases o with
      | sh => exact ⟨fun h => h, fun b hb => hb, fun h => h, fun h => h, by simp, by simp [roots], by simp [roots], hpath⟩
      | vw rs =>
        cases rs with
        | nil => exact ⟨fun h => OwnS.lv h, fun b hb => by simp [owned] at hb, fun h => h, fun _ => trivial, by simp, by simp [roots], by simp [roots], hpath⟩
        | cons => simp [entO] at ho
      | _ => simp [entO] at ho
    | cs k =>
      cases o <;> simp only [entO] at ho
      subst ho
      exact ⟨fun h => h, fun b hb => hb, fun h => h, fun h => h, by simp, by simp [roots], by simp [roots], hpath⟩
    | dp =>
      cases o with
      | dp => exact ⟨fun h => h, fun b hb => hb, fun h => h, fun h => h, by simp, by simp [roots], by simp [roots], hpath⟩
      | vw rs =>
        cases rs with
        | nil => exact ⟨fun h => OwnD.lv h, fun b hb => by simp [owned] at hb, fun h => h, fun _ => trivial, by simp, by simp [roots], by simp [roots], hpath⟩
        | cons => simp [entO] at ho
      | cs k =>
        simp only [entO] at ho
        subst ho
        refine ⟨fun h => ?_, fun b hb => hb, fun h => h, fun h => h, by simp, by simp [roots], by simp [roots], hpath⟩
        rcases h with h | ⟨b, f1, cs, rfl, hr, hs, hv⟩
        · exact .inl h
        · exact .inr ⟨b, f1, [], cs, rfl, by simpa using hr, by simp, hs, by simpa using hv⟩
      | sh => simp [entO] at ho

theorem ent_at (h : ent C.keep C.n0 ρ S T) (hat : At C S a w) : At C T a w := by
  obtain ⟨e1, e2, e3, e4, e5, e6⟩ := h
  obtain ⟨kp, hn, β, ϕ, sat, h0⟩ := hat
  have hlk := fun i hl' hi => entA_lk e6 i hl' hi
  have inj : ∀ i j hl hl', lk T.A i = some hl → lk T.A j = some hl' → rn ρ i = rn ρ j → i = j := by
    intro i j hl hl' hi hj e
    obtain ⟨_, _, _, _, _, p, p1, p2⟩ := hlk i hl hi
    obtain ⟨_, _, _, _, _, q, q1, q2⟩ := hlk j hl' hj
    have := nodup_inj e4 p p1 q q1 (by rw [p2, q2]; exact e)
    rw [← p2, ← q2, this]
  refine ⟨⟨fun t v h => (entL_lk e5 t v h).elim fun _ q => q.2.2.1, fun t x h => by rw [e1] at h; cases h⟩, e2, fun h => β (rn ρ h), fun h => ϕ (rn ρ h), ⟨sat.df, sat.sz, ?_, ?_, ?_, ?_, sat.fr⟩, ?_⟩
  · intro t v' ht
    obtain ⟨v, q1, q2, q3, q4⟩ := entL_lk e5 t v' ht
    obtain ⟨s1, s2, s3⟩ := sat.lp t v q1
    exact ⟨by rw [entV_val β v v' q2]; exact s1, q4, entV_ok β v v' q2 s3⟩
  · intro t g v ht; rw [e1] at ht; cases ht
  · refine ⟨fun h => sat.hp.pl _, ?_, ?_, ?_, ?_, ?_, ?_, ?_⟩
    · intro i hl' hi
      obtain ⟨hl, q1, q2, q3, q4, _⟩ := hlk i hl' hi
      exact (entH_all q2).1 (sat.hp.sat _ _ q1)
    · intro i hl' hi b hb
      obtain ⟨hl, q1, q2, q3, q4, _⟩ := hlk i hl' hi
      exact sat.hp.own _ _ q1 b ((entH_all (w := w) (g := β 0) (β := β) q2).2.1 b hb)
    · intro i hl' hi ha b hb
      obtain ⟨hl, q1, q2, q3, q4, _⟩ := hlk i hl' hi
      exact sat.hp.all _ _ q1 ((entH_all (w := w) (g := β 0) (β := β) (f := []) q2).2.2.1 ha) b hb
    · intro i hl' hi
      obtain ⟨hl, q1, q2, q3, q4, _⟩ := hlk i hl' hi
      exact (entH_all (w := w) (g := β 0) (β := β) q2).2.2.2.1 (sat.hp.nd _ _ q1)
    · intro i j hl hl' hi hj hne hnv hdd b hb
      obtain ⟨hl1, q1, q2, q3, q4, _⟩ := hlk i hl hi
      obtain ⟨hl2, r1, r2, r3, r4, _⟩ := hlk j hl' hj
      have k1 := entH_all (w := w) (g := β 0) (β := β) (f := ϕ (rn ρ i)) q2
      have k2 := entH_all (w := w) (g := β 0) (β := β) (f := []) r2
      exact sat.hp.dj _ _ _ _ q1 r1 (fun e => hne (inj _ _ _ _ hi hj e)) (fun hm => hnv (k2.2.2.2.2.2.1 i (domH_lk.2 ⟨_, hi⟩) hm)) k2.2.2.2.2.1 b (k1.2.1 b hb)
    · intro i hl' hi
      obtain ⟨hl, q1, q2, q3, q4, _⟩ := hlk i hl' hi
      exact (entH_all (w := w) (g := β 0) (β := β) (f := []) q2).2.2.2.2.2.2.2 _ _ _ _
    · intro i hl' hi r hr o t cs hc
      obtain ⟨hl, q1, q2, q3, q4, _⟩ := hlk i hl' hi
      obtain ⟨_, k2⟩ := (entH_all (w := w) (g := β 0) (β := β) (f := []) q2).2.2.2.2.2.2.1 r hr
      obtain ⟨hl0, r1, r2, _⟩ := hlk r _ hc
      obtain ⟨t', cs', rfl, _⟩ := entH_box r2
      exact sat.hp.rt _ _ q1 _ k2 _ _ _ r1
  · intro i hl' hi
    obtain ⟨hl, q1, q2, q3, q4, _⟩ := hlk i hl' hi
    refine ⟨q3, ?_⟩
    cases hl' with
    | box ow t cs =>
      obtain ⟨t', cs', rfl, q5⟩ := entH_box q2
      exact ⟨q4, entVs_ok β _ _ q5 (sat.hb _ _ q1).2.2⟩
    | arr o T' es p =>
      cases o <;> (try trivial)
      intro r hr
      obtain ⟨k1, _⟩ := (entH_all (w := w) (g := β 0) (β := β) (f := []) q2).2.2.2.2.2.2.1 r hr
      obtain ⟨hl0, k3⟩ := domH_lk.1 k1
      obtain ⟨_, _, _, k4, _⟩ := hlk r _ k3
      exact k4
    | abx _ _ _ => trivial
    | bld _ _ _ => trivial
    | dead => trivial
  · intro h hh
    show β (rn ρ h) = _
    rw [rn_low e3 hh]
    exact h0 h hh

/-- A loop by a family of states. -/
theorem wp_loopF {c : Code} {Y : Type} (st : Y → St) (Φ : Y → Prop) (μ : Y → Nat) (h0 : ∃ y ρ, Φ y ∧ ent C.keep C.n0 ρ S (st y))
    (round : ∀ y, Φ y → WP C (.code c :: .post (fun S' => ∃ y' ρ, Φ y' ∧ μ y' < μ y ∧ ent C.keep C.n0 ρ S' (st y')) :: k) (st y)) : WP C (.code (.loop c) :: k) S := by
  classical
  intro a w hat
  let M : Act → World → Nat → Prop := fun a w n => ∃ y, Φ y ∧ At C (st y) a w ∧ μ y = n
  have least : ∀ a w n, M a w n → ∃ m, M a w m ∧ ∀ j, M a w j → m ≤ j := by
    intro a w n hn
    induction n using Nat.strongRecOn with
    | ind n ih =>
      by_cases h : ∃ j, M a w j ∧ j < n
      · obtain ⟨j, h1, h2⟩ := h; exact ih j h2 h1
      · exact ⟨n, hn, fun j hj => Nat.le_of_not_lt fun hl => h ⟨j, hj, hl⟩⟩
  let mu : Act → World → Nat := fun a w => if h : ∃ m, M a w m ∧ ∀ j, M a w j → m ≤ j then h.choose else 0
  refine wp_loop (fun a w => ∃ y, Φ y ∧ At C (st y) a w) mu ?_ ?_
  · obtain ⟨y, ρ, h1, h2⟩ := h0
    exact ⟨y, h1, ent_at h2 hat⟩
  · intro a w ⟨y, hy, hay⟩
    have hex := least a w _ ⟨y, hy, hay, rfl⟩
    have hmu : mu a w = hex.choose := dif_pos hex
    obtain ⟨⟨y1, hy1, hay1, he1⟩, hmin⟩ := hex.choose_spec
    have hr := round y1 hy1 a w hay1
    refine Code.wp_mono ?_ hr
    intro e a' w' hq
    cases e with
    | normal =>
      obtain ⟨S', hS', y', ρ, p1, p2, p3⟩ := hq
      have hay' := ent_at p3 hS'
      refine ⟨⟨y', p1, hay'⟩, ?_⟩
      have hex' := least a' w' _ ⟨y', p1, hay', rfl⟩
      have hmu' : mu a' w' = hex'.choose := dif_pos hex'
      have := hex'.choose_spec.2 _ ⟨y', p1, hay', rfl⟩
      rw [hmu, hmu', ← he1]
      omega
    | _ => exact hq

theorem xt_lift {k1 k2 : List KI} (h : ∀ e a w, xt C k1 e a w → xt C k2 e a w) : ∀ (l : List KI) e a w, xt C (l ++ k1) e a w → xt C (l ++ k2) e a w
  | [], e, a, w, hx => h e a w hx
  | .code c :: l, e, a, w, hx => by
    have ih := xt_lift h l
    cases e <;> first | exact Code.wp_mono (fun e a w q => ih e a w q) hx | exact ih _ _ _ hx
  | .blk i :: l, e, a, w, hx => by
    have ih := xt_lift h l
    cases e with
    | exit j =>
      simp only [List.cons_append, xt, Exit.inBlock] at hx ⊢
      split
      · rename_i e; rw [if_pos e] at hx; exact ih _ _ _ hx
      · rename_i e; rw [if_neg e] at hx; exact ih _ _ _ hx
    | _ => exact ih _ _ _ hx
  | .post p :: l, e, a, w, hx => by
    have ih := xt_lift h l
    cases e <;> first | exact hx | exact ih _ _ _ hx
  | .run all m :: l, e, a, w, hx => by
    have ih := xt_lift h l
    cases e with
    | normal =>
      have mono : ∀ (m : List Oper) a w, wpList C.P all.toArray (xt C (l ++ k1)) m a w → wpList C.P all.toArray (xt C (l ++ k2)) m a w := by
        intro m
        induction m with
        | nil => intro a w h; exact ih _ _ _ h
        | cons o m ihm =>
          intro a w h
          unfold wpList at h ⊢
          split
          · rename_i hw
            rw [if_pos hw] at h
            rcases h with h | ⟨h, a', w', hl⟩
            · refine .inl ?_
              unfold Oper.wp at *
              generalize (execOp a.eval o).run C.P w = r at *
              cases r with
              | ok n w' =>
                cases n <;> simp only [Oper.upon] at h ⊢ <;>
                  first
                    | exact ihm _ _ h
                    | exact Calls.mono h (fun e w'' he => by cases e <;> first | exact ihm _ _ he | exact ih _ _ _ he | (obtain ⟨a', w', he⟩ := he; exact ⟨a', w', ih _ _ _ he⟩))
                    | exact Rows.mono h (fun _ _ he => ihm _ _ he)
              | halt x w' => cases x <;> simp only [Oper.upon] at h ⊢ <;> exact ih _ _ _ h
            · exact .inr ⟨h, a', w', ih _ _ _ hl⟩
          · rename_i hw
            rw [if_neg hw] at h
            exact ihm _ _ h
      exact mono m a w hx
    | _ => exact ih _ _ _ hx

/-- A cut. -/
theorem wp_cut {p : St → Prop} (l : List KI) (h1 : WP C (l ++ .post p :: k) S) (h2 : ∀ S', p S' → WP C k S') : WP C (l ++ k) S := by
  intro a w hat
  refine xt_lift (k1 := .post p :: k) ?_ l _ _ _ (h1 a w hat)
  intro e a w hx
  cases e with
  | normal => obtain ⟨S', h, hp⟩ := hx; exact h2 S' hp a w h
  | _ => exact hx

theorem wp_ent (h : ent C.keep C.n0 ρ S T) (h1 : WP C k T) : WP C k S := fun a w hat => h1 a w (ent_at h hat)

/-- The orders that a drawing region may take. -/
def ords (all : List Oper) : Nat → List Bool → List (List Nat)
  | 0, _ => [[]]
  | f + 1, m => match (List.range all.length).filter fun i => !(m.getD i true) && (match all[i]? with | some o => o.after.toList.all fun e => !Region.binds .any e || m.getD e.on false | none => false) with
    | [] => [[]]
    | r => r.flatMap fun i => (ords all f (m.set i true)).map fun l => i :: l

def pickOps (all : List Oper) (l : List Nat) : List Oper := l.filterMap fun i => all[i]?

theorem ords_spec (all : List Oper) : ∀ (f t : Nat) (m : List Bool), Region.linearise.go .any all.toArray f t m.toArray [] ∈ ords all f m := by
  intro f
  induction f with
  | zero => intro t m; simp [Region.linearise.go, ords]
  | succ f ih =>
    intro t m
    have hrs : ((List.range all.toArray.size).filter fun i => !m.toArray.getD i true && ((all.toArray[i]?).map (·.after.all fun e => !Region.binds .any e || m.toArray.getD e.on false)).getD false)
        = (List.range all.length).filter fun i => !(m.getD i true) && (match all[i]? with | some o => o.after.toList.all fun e => !Region.binds .any e || m.getD e.on false | none => false) := by
      simp only [List.size_toArray]
      apply List.filter_congr
      intro i _
      cases h : all[i]? <;> simp [h]
    simp only [Region.linearise.go, ords]
    rw [hrs]
    generalize ((List.range all.length).filter fun i => !(m.getD i true) && (match all[i]? with | some o => o.after.toList.all fun e => !Region.binds .any e || m.getD e.on false | none => false)) = r
    cases r with
    | nil => simp
    | cons x xs =>
      have hlt : t % (x :: xs).length < (x :: xs).length := Nat.mod_lt _ (by simp)
      have hg := List.getElem?_eq_getElem hlt
      rw [hg]
      simp only
      rw [linearise_go_acc, List.reverse_singleton, List.singleton_append]
      refine List.mem_flatMap.2 ⟨_, List.getElem_mem hlt, List.mem_map.2 ⟨_, ?_, rfl⟩⟩
      have := ih (t / (x :: xs).length) (m.set ((x :: xs)[t % (x :: xs).length]) true)
      simpa using this

theorem wpOps_pick {P : Program} {all : List Oper} {Q : Exit → Act → World → Prop} : ∀ (l : List Nat), wpOps P all.toArray Q l = wpList P all.toArray Q (pickOps all l)
  | [] => by funext a w; simp [wpOps, pickOps, wpList]
  | i :: l => by
    have ih := wpOps_pick (P := P) (all := all) (Q := Q) l
    funext a w
    cases h : all[i]? with
    | none => simp [wpOps, pickOps, h, ih]
    | some o =>
      have : pickOps all (i :: l) = o :: pickOps all l := by simp [pickOps, h]
      rw [this]
      simp [wpOps, h, wpList, ih]

theorem wp_draw {id : Nat} {ops : Array Oper} (hC : C.Ok) (h : ∀ l ∈ ords ops.toList ops.toList.length (List.replicate ops.toList.length false), WP C (.run ops.toList (pickOps ops.toList l) :: k) { S with Lt := [] }) : WP C (.code (.region id ops true) :: k) S := by
  intro a w hat
  refine wp_region_draw fun t => ?_
  have ho := ords_spec ops.toList ops.size t (List.replicate ops.size false)
  have h1 := h _ (by simpa using ho) a _ (at_lt (at_drew hat))
  have h2 : wpList C.P ops.toList.toArray (xt C k) _ a _ := h1
  have h3 : Region.schedule (C.P.follows .mixedOrders) ops t = Region.linearise.go .any ops.toList.toArray ops.size t (List.replicate ops.size false).toArray [] := by
    simp only [Region.schedule, hC.mix, Bool.true_or, if_true, Region.linearise]
    simp
  rw [h3]
  have h4 := wpOps_pick (P := C.P) (all := ops.toList) (Q := xt C k) (Region.linearise.go .any ops.toList.toArray ops.size t (List.replicate ops.size false).toArray [])
  simp only [Array.toArray_toList] at h4 h2 ⊢
  rw [h4]
  exact h2

end

/-- What a loop changes: a slot's value; the cells of a box in a slot; the elements of an owned array in a slot. -/
inductive It where
  | sl (t : Nat) (o : Own) (T : PTy)
  | bx (t : Nat) (Ts : List PTy)
  | ar (t : Nat) (T : PTy)
  | bl (t : Nat)

/-- The pure values now there. -/
def itVal (S : St) : List It → Option (Prop × List PV)
  | [] => some (True, [])
  | .sl t _ T :: r => match lk S.Lp t with
    | some x => (match resB S.A T x, itVal S r with | some (o, p), some (o', ps) => some (o ∧ o', p :: ps) | _, _ => none)
    | none => none
  | .bx t Ts :: r => match lk S.Lp t with
    | some (.ptr h _) => (match lk S.A h with
      | some (.box _ _ cs) => (match resLs S.A Ts cs, itVal S r with | some (o, p), some (o', ps) => some (o ∧ o', .agg p :: ps) | _, _ => none)
      | _ => none)
    | _ => none
  | .ar t T :: r => match lk S.Lp t with
    | some (.sl h) => (match resB S.A (.list T) (.sl h), itVal S r with | some (o, p), some (o', ps) => some (o ∧ o', p :: ps) | _, _ => none)
    | _ => none
  | .bl t :: r => match lk S.Lp t with
    | some (.ptr h 0) => (match lk S.A h, itVal S r with | some (.bld _ _ l), some (o', ps) => some (o', .str l :: ps) | _, _ => none)
    | _ => none

mutual
/-- The handles in a value. -/
def hsV : SV → List Nat
  | .sl h => [h]
  | .ptr h _ => [h]
  | .elp h _ _ _ => [h]
  | .agg xs => hsVs xs
  | .tup xs => hsVs xs
  | .fn _ xs => hsVs xs
  | _ => []
def hsVs : List SV → List Nat
  | [] => []
  | x :: xs => hsV x ++ hsVs xs
end

def itSlots : List It → List Nat
  | [] => []
  | .sl t _ _ :: r => t :: itSlots r
  | _ :: r => itSlots r
def itBoxes (S : St) : List It → List Nat
  | [] => []
  | .bx t _ :: r => match lk S.Lp t with | some (.ptr h _) => h :: itBoxes S r | _ => itBoxes S r
  | .ar t _ :: r => match lk S.Lp t with | some (.sl h) => h :: itBoxes S r | _ => itBoxes S r
  | .bl t :: r => match lk S.Lp t with | some (.ptr h _) => h :: itBoxes S r | _ => itBoxes S r
  | _ :: r => itBoxes S r
def dropL (ms : List Nat) : List (Nat × SV) → List (Nat × SV)
  | [] => []
  | (t, v) :: r => if memB ms t then dropL ms r else (t, v) :: dropL ms r
def hsL : List (Nat × SV) → List Nat
  | [] => []
  | (_, v) :: r => hsV v ++ hsL r
/-- The handles behind boxes. -/
def hsA (A : Hp) (bs : List Nat) : List Nat → List Nat
  | [] => []
  | h :: r => (if memB bs h then [] else match lk A h with | some (.box _ _ cs) => hsVs cs | _ => []) ++ hsA A bs r
def onlyR (R : List Nat) : List Nat → List Nat
  | [] => []
  | r :: l => if memB R r then r :: onlyR R l else onlyR R l
def gcH (R : List Nat) : HL → HL
  | .arr (.vw rs) T es _ => .arr (.vw (onlyR R rs)) T es .no
  | .arr o T es _ => .arr o T es .no
  | x => x
def gcA (R bs : List Nat) : Hp → Hp
  | [] => []
  | (h, x) :: r => if memB R h && !memB bs h then (match x with | .dead => gcA R bs r | x => (h, gcH R x) :: gcA R bs r) else gcA R bs r
def itReach (S : St) (its : List It) : List Nat :=
  hsL (dropL (itSlots its) S.Lp) ++ hsA S.A (itBoxes S its) (hsL (dropL (itSlots its) S.Lp)) ++ hsA S.A (itBoxes S its) (hsA S.A (itBoxes S its) (hsL (dropL (itSlots its) S.Lp)))
def itLay (S0 T : St) : List It → List PV → St
  | .sl t o ty :: r, p :: ps => itLay S0 ⟨T.Lp ++ [(t, (introV o noP 0 T.n ty p).1)], [], (introV o noP 0 T.n ty p).2.1 ++ T.A, (introV o noP 0 T.n ty p).2.2⟩ r ps
  | .bx t Ts :: r, p :: ps => match lk S0.Lp t with
    | some (.ptr h _) => (match lk S0.A h with
      | some (.box ow bt _) => itLay S0 ⟨T.Lp, [], (h, .box ow bt (introL .dp noP 0 T.n Ts p.A).1) :: ((introL .dp noP 0 T.n Ts p.A).2.1 ++ T.A), (introL .dp noP 0 T.n Ts p.A).2.2⟩ r ps
      | _ => T)
    | _ => T
  | .ar t E :: r, p :: ps => match lk S0.Lp t with
    | some (.sl h) => itLay S0 ⟨T.Lp, [], (h, .arr .dp E p.L .no) :: T.A, T.n⟩ r ps
    | _ => T
  | .bl t :: r, p :: ps => match lk S0.Lp t with
    | some (.ptr h _) => (match lk S0.A h with
      | some (.bld B e _) => itLay S0 ⟨T.Lp, [], (h, .bld B e p.S) :: T.A, T.n⟩ r ps
      | _ => T)
    | _ => T
  | _, _ => T
/-- A state in which some slots and boxes hold given pure values; what nothing reaches is dropped. -/
def itSt (S : St) (its : List It) (ps : List PV) : St :=
  itLay S ⟨dropL (itSlots its) S.Lp, [], gcA (itReach S its) (itBoxes S its) S.A, S.n⟩ its ps

mutual
def mr : SV → SV → List (Nat × Nat)
  | .sl h', .sl h => if h' = h then [] else [(h', h)]
  | .agg xs, .agg ys => mrs xs ys
  | .tup xs, .tup ys => mrs xs ys
  | _, _ => []
def mrs : List SV → List SV → List (Nat × Nat)
  | x :: xs, y :: ys => mr x y ++ mrs xs ys
  | _, _ => []
end
/-- Which handle stands for which. -/
def itRho (T S : St) : List It → List (Nat × Nat)
  | [] => []
  | .sl t _ _ :: r => (match lk T.Lp t, lk S.Lp t with | some x, some y => mr x y | _, _ => []) ++ itRho T S r
  | .bx t _ :: r => (match lk T.Lp t with | some (.ptr h _) => (match lk T.A h, lk S.A h with | some (.box _ _ xs), some (.box _ _ ys) => mrs xs ys | _, _ => []) | _ => []) ++ itRho T S r
  | .ar _ _ :: r => itRho T S r
  | .bl _ :: r => itRho T S r

/-- A state is the one with its own pure values, and these are so. -/
def itOk (keep : List Nat) (n0 : Nat) (S : St) (its : List It) (Φ : List PV → Prop) (S' : St) : Prop :=
  match itVal S' its with
  | some (o, ps) => o ∧ Φ ps ∧ ent keep n0 (itRho (itSt S its ps) S' its) S' (itSt S its ps)
  | none => False

theorem itOk_ex {keep : List Nat} {n0 : Nat} {S S' : St} {its : List It} {Φ : List PV → Prop} (h : itOk keep n0 S its Φ S') : ∃ ps ρ, Φ ps ∧ ent keep n0 ρ S' (itSt S its ps) := by
  unfold itOk at h
  split at h
  · exact ⟨_, _, h.2.1, h.2.2⟩
  · exact h.elim

/-- What may be used of the code's meaning: nothing else is told of W. -/
structure Rules (E : Env) (N : Nat) (keep : List Nat) (n0 : Nat) (fin : St → Prop) (W : List KI → St → Prop) : Prop where
  vc : ∀ (pls : List (Nat × List Nat × Pl)) (k : List KI) (S : St), vcK E N keep fin W pls [] k S → W k S
  loop : ∀ (c : Code) (k : List KI) (S : St) (Y : Type) (st : Y → St) (Φ : Y → Prop) (μ : Y → Nat), (∃ y ρ, Φ y ∧ ent keep n0 ρ S (st y)) →
    (∀ y, Φ y → W (.code c :: .post (fun S' => ∃ y' ρ, Φ y' ∧ μ y' < μ y ∧ ent keep n0 ρ S' (st y')) :: k) (st y)) → W (.code (.loop c) :: k) S
  loopS : ∀ (c : Code) (k : List KI) (S : St) (its : List It) (Φ : List PV → Prop) (μ : List PV → Nat), itOk keep n0 S its Φ S →
    (∀ ys, Φ ys → W (.code c :: .post (itOk keep n0 S its fun ps => Φ ps ∧ μ ps < μ ys) :: k) (itSt S its ys)) → W (.code (.loop c) :: k) S
  cutS : ∀ (l k : List KI) (S : St) (its : List It) (Φ : List PV → Prop), W (l ++ .post (itOk keep n0 S its Φ) :: k) S → (∀ ys, Φ ys → W k (itSt S its ys)) → W (l ++ k) S
  cut : ∀ (l k : List KI) (S : St) (p : St → Prop), W (l ++ .post p :: k) S → (∀ S', p S' → W k S') → W (l ++ k) S
  ent : ∀ (k : List KI) (S T : St) (ρ : List (Nat × Nat)), ent keep n0 ρ S T → W k T → W k S
  draw : ∀ (id : Nat) (ops : Array Oper) (k : List KI) (S : St), (∀ l ∈ ords ops.toList ops.toList.length (List.replicate ops.toList.length false), W (.run ops.toList (pickOps ops.toList l) :: k) { S with Lt := [] }) →
    W (.code (.region id ops true) :: k) S

theorem rules_wp {C : Cx} (hC : C.Ok) : Rules C.E C.N C.keep C.n0 C.fin (WP C) := by
  refine ⟨fun pls k S h => vcK_sound hC (fun _ _ h => h) _ k S (Nat.le_refl _) h, fun c k S Y st Φ μ h0 hr => wp_loopF st Φ μ h0 hr, fun c k S its Φ μ h0 hr => ?_, fun l k S its Φ h1 h2 => ?_, fun l k S p h1 h2 => wp_cut l h1 h2, fun k S T ρ h h1 => wp_ent h h1,
    fun id ops k S h => wp_draw hC h⟩
  · refine wp_loopF (Y := List PV) (itSt S its) Φ μ (itOk_ex h0) fun y hy => ?_
    have h1 := hr y hy
    intro a w hat
    have := h1 a w hat
    refine xt_lift (k1 := .post (itOk C.keep C.n0 S its fun ps => Φ ps ∧ μ ps < μ y) :: k) ?_ [.code c] _ _ _ this
    intro e a w hx
    cases e with
    | normal =>
      obtain ⟨S', h, hp⟩ := hx
      obtain ⟨ps, ρ, q1, q2⟩ := itOk_ex hp
      exact ⟨S', h, ps, ρ, q1.1, q1.2, q2⟩
    | _ => exact hx
  · refine wp_cut l h1 fun S' hS' => ?_
    obtain ⟨ps, ρ, q1, q2⟩ := itOk_ex hS'
    exact wp_ent q2 (h2 ps q1)

end Go.Proofs.Ytmjjdfhpnckacab
end

section
namespace Go.Proofs.Ytmjjdfhpnckacab
set_option linter.unusedVariables false

/-- Arguments that are only read: a struct or an array behind a pointer, or a value. -/
def introB (n : Nat) : PTy → PV → SV × Hp × Nat
  | .box ts, p => (.ptr (introL (.vw []) noP 0 n ts p.A).2.2 0, ((introL (.vw []) noP 0 n ts p.A).2.2, .box false 0 (introL (.vw []) noP 0 n ts p.A).1) :: (introL (.vw []) noP 0 n ts p.A).2.1, (introL (.vw []) noP 0 n ts p.A).2.2 + 1)
  | .abx T, p => (.ptr n 0, [(n, .abx false T p.L)], n + 1)
  | .agg ts, p => (.agg (introL (.vw []) noP 0 n ts p.A).1, (introL (.vw []) noP 0 n ts p.A).2.1, (introL (.vw []) noP 0 n ts p.A).2.2)
  | T, p => ((introL (.vw []) noP 0 n [T] [p]).1.headD .nilp, (introL (.vw []) noP 0 n [T] [p]).2.1, (introL (.vw []) noP 0 n [T] [p]).2.2)

def introBs (n : Nat) : List PTy → List PV → List SV × Hp × Nat
  | t :: ts, p :: ps => ((introB n t p).1 :: (introBs (introB n t p).2.2 ts ps).1, (introBs (introB n t p).2.2 ts ps).2.1 ++ (introB n t p).2.1, (introBs (introB n t p).2.2 ts ps).2.2)
  | _, _ => ([], [], n)

def introR (n : Nat) : PTy → PV → SV × Hp × Nat
  | .fn f ts, p => (.fn f (introBs n ts p.A).1, (introBs n ts p.A).2.1, (introBs n ts p.A).2.2)
  | T, p => introB n T p

/-- What may be changed behind a pointer. -/
def introX (n : Nat) : PTy → PV → SV × Hp × Nat
  | .box ts, p => (.ptr (introL .dp noP 0 n ts p.A).2.2 0, ((introL .dp noP 0 n ts p.A).2.2, .box true 0 (introL .dp noP 0 n ts p.A).1) :: (introL .dp noP 0 n ts p.A).2.1, (introL .dp noP 0 n ts p.A).2.2 + 1)
  | .abx T, p => (.ptr n 0, [(n, .abx true T p.L)], n + 1)
  | _, _ => (.nilp, [], n)

def introT (n : Nat) : Md → PTy → PV → SV × Hp × Nat
  | .rd, T, p => introR n T p
  | .mt, T, p => introV .dp noP 0 n T p
  | .ow, T, p => introV .dp noP 0 n T p
  | .bx, T, p => introX n T p

def introTs (n : Nat) : List (Md × PTy) → List PV → List SV × Hp × Nat
  | (m, t) :: ts, p :: ps => ((introT n m t p).1 :: (introTs (introT n m t p).2.2 ts ps).1, (introTs (introT n m t p).2.2 ts ps).2.1 ++ (introT n m t p).2.1, (introTs (introT n m t p).2.2 ts ps).2.2)
  | _, _ => ([], [], n)

mutual
/-- A pure value is of a type. -/
def Ty : PTy → PV → Prop
  | .int k, p => ∃ n, p = .int k n ∧ inR k n
  | .bool, p => ∃ b, p = .bool b
  | .str, p => ∃ l, p = .str l ∧ l.length ≤ LIM
  | .list T, p => ∃ es, p = .list es ∧ es.length ≤ LIM ∧ ∀ e ∈ es, Ty T e
  | .agg ts, p => ∃ qs, p = .agg qs ∧ Tys ts qs
  | .box ts, p => ∃ qs, p = .agg qs ∧ Tys ts qs
  | .abx T, p => ∃ es, p = .list es ∧ ∀ e ∈ es, Ty T e
  | .fn _ ts, p => ∃ qs, p = .agg qs ∧ Tys ts qs
  | .opq, _ => True
def Tys : List PTy → List PV → Prop
  | [], ps => ps = []
  | t :: ts, ps => ∃ p qs, ps = p :: qs ∧ Ty t p ∧ Tys ts qs
end

def TyA : List (Md × PTy) → List PV → Prop
  | [], ps => ps = []
  | (_, t) :: ts, ps => ∃ p qs, ps = p :: qs ∧ Ty t p ∧ TyA ts qs

section
variable {P : Program} {E : Env} {N : Nat} {w0 : World} {X F : List Nat} {S : St} {β : Nat → GV} {ϕ : Nat → List Nat} {a : Act} {w w' : World} {o : Oper} {R : RR} {A : Hp} {B : Nat}

theorem Tys_append : ∀ {ts ts' : List PTy} {ps ps' : List PV}, ts.length = ps.length → (Tys (ts ++ ts') (ps ++ ps') ↔ Tys ts ps ∧ Tys ts' ps')
  | [], ts', [], ps', _ => by simp [Tys]
  | [], ts', p :: ps, ps', h => by simp at h
  | t :: ts, ts', [], ps', h => by simp at h
  | t :: ts, ts', p :: ps, ps', h => by
    have ih := Tys_append (ts := ts) (ts' := ts') (ps := ps) (ps' := ps') (by simpa using h)
    simp only [List.cons_append, Tys]
    constructor
    · rintro ⟨_, _, e, h1, h2⟩
      cases e
      obtain ⟨h3, h4⟩ := ih.1 h2
      exact ⟨⟨_, _, rfl, h1, h3⟩, h4⟩
    · rintro ⟨⟨_, _, e, h1, h2⟩, h3⟩
      cases e
      exact ⟨_, _, rfl, h1, ih.2 ⟨h2, h3⟩⟩

theorem Tys_elems {T : PTy} (hT : ∀ t ∈ T.leaves, t.leaves = [t]) : ∀ (es : List PV), (∀ e ∈ es, Shp T e) → Tys (flatT T es.length) (flatP es) → ∀ e ∈ es, Ty T e
  | [], _, _, e, he => by cases he
  | p :: es, hs, h, e, he => by
    have hs1 := hs p (by simp)
    have e1 : flatT T (p :: es).length = T.leaves ++ flatT T es.length := by simp [flatT, List.replicate_succ]
    have e2 : flatP (p :: es) = p.leaves ++ flatP es := by simp [flatP]
    have hlen : T.leaves.length = p.leaves.length := by
      cases T <;> simp only [Shp] at hs1
      case agg ts => obtain ⟨qs, rfl, hq⟩ := hs1; simp [PTy.leaves, PV.leaves, hq]
      all_goals (cases p <;> simp [PTy.leaves, PV.leaves] at hs1 ⊢)
    rw [e1, e2, Tys_append hlen] at h
    rcases List.mem_cons.1 he with rfl | he
    · have h1 := h.1
      cases T <;> simp only [Shp] at hs1
      case agg ts => obtain ⟨qs, rfl, hq⟩ := hs1; exact ⟨qs, rfl, h1⟩
      all_goals (cases e <;> simp only [PTy.leaves, PV.leaves, Tys] at h1 hs1 <;> first | (obtain ⟨_, _, e, h1, _⟩ := h1; cases e; exact h1) | exact absurd rfl (hs1 _))
    · exact Tys_elems hT es (fun e he => hs e (by simp [he])) h.2 e he

theorem Lv.tys {w : World} {Ts : List PTy} {ps : List PV} {vs : List Value} {fp : List Nat} (h : Lv w Ts ps vs fp) : Tys Ts ps := by
  induction h with
  | nil => simp [Tys]
  | int h1 _ ih => exact ⟨_, _, rfl, ⟨_, rfl, h1⟩, ih⟩
  | bool _ ih => exact ⟨_, _, rfl, ⟨_, rfl⟩, ih⟩
  | str h1 _ ih => exact ⟨_, _, rfl, ⟨_, rfl, h1⟩, ih⟩
  | empty _ ih => exact ⟨_, _, rfl, ⟨[], rfl, by simp, by simp⟩, ih⟩
  | @list T es b o cap c t fr cs f1 Ts ps vs fp hb hs hl hv hc _ ih1 ih2 =>
    refine ⟨_, _, rfl, ⟨es, rfl, hl.1, ?_⟩, ih2⟩
    intro e he
    have hT : ∀ t ∈ T.leaves, t.leaves = [t] := by
      intro t ht
      refine hv.ty_of t ?_
      simp only [flatT, List.mem_flatten, List.mem_replicate]
      exact ⟨T.leaves, ⟨(by intro h0; have := List.length_eq_zero_iff.1 h0; subst this; cases he), rfl⟩, ht⟩
    exact Tys_elems hT es hs ih1 e he

theorem flat_tys {w : World} {T : PTy} {es : List PV} {cs : List Value} {f : List Nat} (hT : flatB T = true) (hs : ∀ e ∈ es, Shp T e) (h : Lv w (flatT T es.length) (flatP es) cs f) : ∀ e ∈ es, Ty T e := by
  intro e he
  have hT : ∀ t ∈ T.leaves, t.leaves = [t] := by
    intro t ht
    refine h.ty_of t ?_
    simp only [flatT, List.mem_flatten, List.mem_replicate]
    exact ⟨T.leaves, ⟨(by intro h0; have := List.length_eq_zero_iff.1 h0; subst this; cases he), rfl⟩, ht⟩
  exact Tys_elems hT es hs h.tys e he

theorem ArgB.ty {T : PTy} {p : PV} {v : Value} {f fl : List Nat} (h : ArgB w T p v f fl) : Ty T p := by
  have leaf : Lv w [T] [p] [v] f → Ty T p := fun hL => by
    have := hL.tys
    simp only [Tys] at this
    obtain ⟨_, _, e, h1, _⟩ := this
    cases e
    exact h1
  cases T with
  | agg ts => obtain ⟨qs, cs, rfl, _, hL, _⟩ := h; exact ⟨qs, rfl, hL.tys⟩
  | box ts => obtain ⟨qs, cs, b, t, pre, post, rfl, _, _, hL, _⟩ := h; exact ⟨qs, rfl, hL.tys⟩
  | abx T => obtain ⟨es, b, t, c, rfl, _, _, h1, h2, h3, _⟩ := h; exact ⟨es, rfl, flat_tys h1 h2 h3⟩
  | fn _ _ => exact h.elim
  | _ => exact leaf h.1

theorem ArgBs.tys {ts : List PTy} {ps : List PV} {vs : List Value} {f fl : List Nat} (h : ArgBs w ts ps vs f fl) : Tys ts ps := by
  induction h with
  | nil => simp [Tys]
  | cons h1 _ ih => exact ⟨_, _, rfl, h1.ty, ih⟩

theorem ArgV.ty {T : PTy} {p : PV} {v : Value} {f fl : List Nat} (h : ArgV w T p v f fl) : Ty T p := by
  cases T with
  | fn g ts => obtain ⟨qs, cs, rfl, _, hL⟩ := h; exact ⟨qs, rfl, hL.tys⟩
  | _ => exact ArgB.ty h

theorem ArgM.ty {T : PTy} {p : PV} {v : Value} {f : List Nat} (h : ArgM w T p v f) : Ty T p := by
  cases T with
  | agg ts => obtain ⟨qs, cs, fs, rfl, _, hL, _⟩ := h; exact ⟨qs, rfl, hL.lv.tys⟩
  | list T =>
    obtain ⟨es, rfl, hO⟩ := h
    have := hO.lv.tys
    simp only [Tys] at this
    obtain ⟨_, _, e, h1, _⟩ := this
    cases e
    exact h1
  | _ => exact h.elim

theorem ArgX.ty {T : PTy} {p : PV} {v : Value} {f : List Nat} (h : ArgX w T p v f) : Ty T p := by
  cases T with
  | box ts => obtain ⟨qs, cs, fs, b, t, pre, post, rfl, _, _, hL, _⟩ := h; exact ⟨qs, rfl, hL.lv.tys⟩
  | abx T => obtain ⟨es, b, t, c, rfl, _, _, h1, h2, h3, _⟩ := h; exact ⟨es, rfl, flat_tys h1 h2 h3⟩
  | _ => exact h.elim

theorem ArgsV.ty {ts : List (Md × PTy)} {ps : List PV} {vs : List Value} {f fl ms : List Nat} (h : ArgsV w ts ps vs f fl ms) : TyA ts ps := by
  induction h with
  | nil => simp [TyA]
  | rd h1 _ ih => exact ⟨_, _, rfl, h1.ty, ih⟩
  | mt h1 _ ih => exact ⟨_, _, rfl, h1.ty, ih⟩
  | ow h1 _ ih => exact ⟨_, _, rfl, h1.ty, ih⟩
  | bx h1 _ ih => exact ⟨_, _, rfl, h1.ty, ih⟩

theorem apart_add {n : Nat} {hl0 : HL} {f G : List Nat} (hb : Bd n β A) (h : Apart A ϕ G) (hf : ∀ b ∈ f, b ∉ G) : Apart ((n, hl0) :: A) (upd ϕ n f) G :=
  apart_put h (fun i => lk_cons' A i) hf

theorem viewOk_rd {f : List Nat} {n : Nat} (hp : Holds B X F A β ϕ w) (hB : w.heap.size = B) (hf : ∀ b ∈ f, b < w.heap.size) (hX : ∀ b ∈ f, b ∉ X) (hF : ∀ b ∈ f, b ∈ F) : ViewOk B F A ϕ n f [] := by
  refine ⟨?_, fun b hb => .inl (hF b hb), by simp, by simp⟩
  intro i hl hi _ b hb hm
  rcases hp.own i hl hi b hb with h | h
  · exact hX b hm h
  · have := hf b hm; omega

theorem introL_rd : ∀ (Ts : List PTy) (ps : List PV) (vs : List Value) (f G : List Nat) (j n : Nat) (A : Hp) (β : Nat → GV) (ϕ : Nat → List Nat), Lv w Ts ps vs f → Holds B X F A β ϕ w → Bd n β A → w.heap.size = B → (∀ b ∈ f, b ∉ X) → (∀ b ∈ f, b ∈ F) → Apart A ϕ G → (∀ b ∈ f, b ∉ G) →
    ∃ β' ϕ', Laid B X F ((introL (.vw []) noP j n Ts ps).2.1 ++ A) β β' ϕ ϕ' w n (introL (.vw []) noP j n Ts ps).2.2 (introL (.vw []) noP j n Ts ps).1 vs G := by
  intro Ts
  induction Ts with
  | nil =>
    intro ps vs f G j n A β ϕ hL hp hb hB hX hF hG hf
    cases hL
    exact ⟨β, ϕ, hp, hb, fun _ _ => rfl, fun _ _ => rfl, rfl, trivial, trivial, Nat.le_refl _, hG⟩
  | cons T Ts ih =>
    intro ps vs f G j n A β ϕ hL hp hb hB hX hF hG hf
    cases ps with
    | nil => have := hL.lens.1; simp at this
    | cons p ps =>
      obtain ⟨v, vs', f1, f2, rfl, rfl, h1, h2⟩ := hL.cons_inv
      have scal : ∀ (x : SV), (introL (.vw []) noP j n (T :: Ts) (p :: ps)) = (x :: (introL (.vw []) noP (j + 1) n Ts ps).1, (introL (.vw []) noP (j + 1) n Ts ps).2.1, (introL (.vw []) noP (j + 1) n Ts ps).2.2) → (∀ β, SV.val β x = v) → (∀ m, SV.lt m x) → (∀ β, SV.ok β x) →
          ∃ β' ϕ', Laid B X F ((introL (.vw []) noP j n (T :: Ts) (p :: ps)).2.1 ++ A) β β' ϕ ϕ' w n (introL (.vw []) noP j n (T :: Ts) (p :: ps)).2.2 (introL (.vw []) noP j n (T :: Ts) (p :: ps)).1 (v :: vs') G := by
        intro x he hx hlt hok
        obtain ⟨β', ϕ', a1, a2, a3, a4, a5, a6, a7, a8, a9⟩ := ih ps vs' f2 G (j + 1) n A β ϕ h2 hp hb hB (fun b hb => hX b (by simp [hb])) (fun b hb => hF b (by simp [hb])) hG (fun b hb => hf b (by simp [hb]))
        rw [he]
        exact ⟨β', ϕ', a1, a2, a3, a4, by simp [SV.vals, hx, a5], ⟨hlt _, a6⟩, ⟨hok _, a7⟩, a8, a9⟩
      cases T with
      | int k =>
        obtain ⟨m, rfl, rfl, hr, rfl⟩ := h1.int_inv
        exact scal (.int k m) rfl (fun _ => rfl) (fun _ => trivial) (fun _ => hr)
      | bool =>
        obtain ⟨m, rfl, rfl, rfl⟩ := h1.bool_inv
        exact scal (.bool m) rfl (fun _ => rfl) (fun _ => trivial) (fun _ => trivial)
      | str =>
        obtain ⟨m, rfl, rfl, hr, rfl⟩ := h1.str_inv
        exact scal (.str m) rfl (fun _ => rfl) (fun _ => trivial) (fun _ => hr)
      | list T =>
        obtain ⟨es, rfl⟩ : ∃ es, p = .list es := by cases h1 <;> exact ⟨_, rfl⟩
        have hv1 : ViewOk B F A ϕ n f1 [] := viewOk_rd hp hB h1.inb (fun b hb => hX b (by simp [hb])) (fun b hb => hF b (by simp [hb]))
        obtain ⟨c1, c2⟩ := add_view (T := T) (es := es) (v := v) (p := .no) hp hb h1 hv1 trivial
        have hG' := apart_add (hl0 := .arr (.vw []) T es .no) hb hG (fun b hb => hf b (by simp [hb]) : ∀ b ∈ f1, b ∉ G)
        obtain ⟨β', ϕ', a1, a2, a3, a4, a5, a6, a7, a8, a9⟩ := ih ps vs' f2 G (j + 1) (n + 1) _ _ _ h2 c1 c2 hB (fun b hb => hX b (by simp [hb])) (fun b hb => hF b (by simp [hb])) hG' (fun b hb => hf b (by simp [hb]))
        refine ⟨β', ϕ', ?_, ?_, fun k hk => (a3 k (by omega)).trans (upd_lt _ _ _ hk), fun k hk => (a4 k (by omega)).trans (upd_lt _ _ _ hk), ?_, ?_, ?_, ?_, ?_⟩
        · simpa [introL, noP, PV.L, List.append_assoc] using a1
        · simpa [introL, noP, PV.L, List.append_assoc] using a2
        · simp only [introL, SV.vals, SV.val, a5, a3 n (by omega), upd_eq]; rfl
        · exact ⟨by simp only [SV.lt, introL]; omega, a6⟩
        · exact ⟨trivial, a7⟩
        · simp only [introL]; omega
        · simpa [introL, noP, PV.L, List.append_assoc] using a9
      | agg ts => cases h1
      | box ts => cases h1
      | abx t => cases h1
      | fn f ts => cases h1
      | opq => cases h1

theorem introB_rd {T : PTy} {p : PV} {v : Value} {f fl G : List Nat} {n : Nat} (hL : ArgB w T p v f fl) (hp : Holds B X F A β ϕ w) (hb : Bd n β A) (hB : w.heap.size = B) (hX : ∀ b ∈ f, b ∉ X) (hF : ∀ b ∈ fl, b ∈ F) (hG : Apart A ϕ G) (hf : ∀ b ∈ f, b ∉ G) :
    ∃ β' ϕ', Laid B X F ((introB n T p).2.1 ++ A) β β' ϕ ϕ' w n (introB n T p).2.2 [(introB n T p).1] [v] G := by
  have leaf : (introB n T p = ((introL (.vw []) noP 0 n [T] [p]).1.headD .nilp, (introL (.vw []) noP 0 n [T] [p]).2.1, (introL (.vw []) noP 0 n [T] [p]).2.2)) → Lv w [T] [p] [v] f → fl = f →
      ∃ β' ϕ', Laid B X F ((introB n T p).2.1 ++ A) β β' ϕ ϕ' w n (introB n T p).2.2 [(introB n T p).1] [v] G := by
    intro he hL' hfl
    subst hfl
    obtain ⟨β', ϕ', a1, a2, a3, a4, a5, a6, a7, a8, a9⟩ := introL_rd [T] [p] [v] fl G 0 n A β ϕ hL' hp hb hB hX hF hG hf
    have hx : (introL (.vw []) noP 0 n [T] [p]).1 = [(introL (.vw []) noP 0 n [T] [p]).1.headD .nilp] := by cases T <;> simp [introL]
    rw [he]
    rw [hx] at a5 a6 a7
    exact ⟨β', ϕ', a1, a2, a3, a4, a5, a6, a7, a8, a9⟩
  cases T with
  | agg ts =>
    obtain ⟨qs, cs, rfl, rfl, hL, rfl⟩ := hL
    obtain ⟨β', ϕ', a1, a2, a3, a4, a5, a6, a7, a8, a9⟩ := introL_rd ts qs cs fl G 0 n A β ϕ hL hp hb hB hX hF hG hf
    exact ⟨β', ϕ', a1, a2, a3, a4, by simp [introB, SV.vals, SV.val, PV.A, a5], ⟨a6, trivial⟩, ⟨a7, trivial⟩, a8, a9⟩
  | box ts =>
    obtain ⟨qs, cs, b, t, pre, post, rfl, rfl, hblk, hL, rfl⟩ := hL
    obtain ⟨β', ϕ', a1, a2, a3, a4, a5, a6, a7, a8, a9⟩ := introL_rd ts qs cs fl G 0 n A β ϕ hL hp hb hB (fun c hc => hX c (by simp [hc])) hF hG (fun c hc => hf c (by simp [hc]))
    have hbb : b < w.heap.size := (Array.getElem?_eq_some_iff.1 hblk).1
    have hbc : ∀ k, k < (introL (.vw []) noP 0 n ts qs).2.2 → upd β' (introL (.vw []) noP 0 n ts qs).2.2 ⟨.pointer (some ⟨b, pre.length, none⟩), pre, post⟩ k = β' k := fun k hk => upd_lt _ _ _ hk
    have hadd := a1.add (n := (introL (.vw []) noP 0 n ts qs).2.2) (hl0 := .box false 0 (introL (.vw []) noP 0 n ts qs).1) (g := ⟨.pointer (some ⟨b, pre.length, none⟩), pre, post⟩) (f := [b]) a2 rfl
      ⟨b, t, rfl, rfl, by rw [SV.vals_congr hbc _ a6, a5]; exact hblk⟩ (by simp [owned]) (fun h => h.elim) trivial (by intro i hl hi hd c hc hm; simp [owned] at hm)
      (fun i hl hi _ c hc hm => by
        simp only [List.mem_singleton] at hm
        subst hm
        rcases a1.own i hl hi c hc with h | h
        · exact hX c (by simp) h
        · omega) trivial (by simp [roots]) (by simp [roots])
    refine ⟨_, _, hadd, hb_add a2 ⟨SV.lts_mono (Nat.le_succ (introL (.vw []) noP 0 n ts qs).2.2) _ a6, SV.oks_congr hbc _ a6 a7⟩, fun k hk => (upd_lt _ _ _ (show k < (introL (.vw []) noP 0 n ts qs).2.2 by omega)).trans (a3 k hk), fun k hk => (upd_lt _ _ _ (show k < (introL (.vw []) noP 0 n ts qs).2.2 by omega)).trans (a4 k hk), ?_, ?_, ?_, ?_, ?_⟩
    · simp [introB, SV.vals, SV.val, PV.A, upd_eq]
    · exact ⟨by simp [introB, SV.lt, PV.A], trivial⟩
    · exact ⟨⟨b, pre.length, by simp [PV.A, upd_eq]⟩, trivial⟩
    · show n ≤ (introL (.vw []) noP 0 n ts qs).2.2 + 1; omega
    · exact apart_add a2 a9 (fun c hc => by simp only [List.mem_singleton] at hc; subst hc; exact hf c (by simp))
  | abx T =>
    obtain ⟨es, b, t, c, rfl, rfl, hblk, h1, h2, h3, rfl, rfl⟩ := hL
    have hbb : b < w.heap.size := (Array.getElem?_eq_some_iff.1 hblk).1
    have hadd := hp.add (n := n) (hl0 := .abx false T es) (g := ⟨.pointer (some ⟨b, 0, none⟩), [], []⟩) (f := [b]) hb rfl
      ⟨h1, h2, b, t, c, rfl, rfl, hblk, h3⟩ (by simp [owned]) (fun h => h.elim) trivial (by intro i hl hi hd c hc hm; simp [owned] at hm)
      (fun i hl hi _ c hc hm => by
        simp only [List.mem_singleton] at hm
        subst hm
        rcases hp.own i hl hi c hc with h | h
        · exact hX c (by simp) h
        · omega) trivial (by simp [roots]) (by simp [roots])
    refine ⟨_, _, hadd, hb_add hb trivial, fun k hk => upd_lt _ _ _ hk, fun k hk => upd_lt _ _ _ hk, ?_, ?_, ?_, ?_, ?_⟩
    · simp [introB, SV.vals, SV.val, upd_eq]
    · exact ⟨by simp [introB, SV.lt], trivial⟩
    · exact ⟨⟨b, 0, by simp [upd_eq]⟩, trivial⟩
    · show n ≤ n + 1; omega
    · exact apart_add hb hG (fun c hc => by simp only [List.mem_singleton] at hc; subst hc; exact hf c (by simp))
  | fn g ts => exact hL.elim
  | int k => exact leaf rfl hL.1 hL.2
  | bool => exact leaf rfl hL.1 hL.2
  | str => exact leaf rfl hL.1 hL.2
  | list T => exact leaf rfl hL.1 hL.2
  | opq => exact leaf rfl hL.1 hL.2

theorem introBs_rd : ∀ (Ts : List PTy) (ps : List PV) (vs : List Value) (f fl G : List Nat) (n : Nat) (A : Hp) (β : Nat → GV) (ϕ : Nat → List Nat), ArgBs w Ts ps vs f fl → Holds B X F A β ϕ w → Bd n β A → w.heap.size = B → (∀ b ∈ f, b ∉ X) → (∀ b ∈ fl, b ∈ F) → Apart A ϕ G → (∀ b ∈ f, b ∉ G) →
    ∃ β' ϕ', Laid B X F ((introBs n Ts ps).2.1 ++ A) β β' ϕ ϕ' w n (introBs n Ts ps).2.2 (introBs n Ts ps).1 vs G := by
  intro Ts
  induction Ts with
  | nil =>
    intro ps vs f fl G n A β ϕ hL hp hb hB hX hF hG hf
    cases hL
    exact ⟨β, ϕ, hp, hb, fun _ _ => rfl, fun _ _ => rfl, rfl, trivial, trivial, Nat.le_refl _, hG⟩
  | cons T Ts ih =>
    intro ps vs f fl G n A β ϕ hL hp hb hB hX hF hG hf
    cases hL with
    | @cons _ _ p ps' v vs' f g fl1 gl h1 h2 =>
      obtain ⟨β1, ϕ1, b1, b2, b3, b4, b5, b6, b7, b8, b9⟩ := introB_rd (n := n) h1 hp hb hB (fun b hb => hX b (by simp [hb])) (fun b hb => hF b (by simp [hb])) hG (fun b hb => hf b (by simp [hb]))
      obtain ⟨β', ϕ', a1, a2, a3, a4, a5, a6, a7, a8, a9⟩ := ih ps' vs' g gl G _ _ _ _ h2 b1 b2 hB (fun b hb => hX b (by simp [hb])) (fun b hb => hF b (by simp [hb])) b9 (fun b hb => hf b (by simp [hb]))
      refine ⟨β', ϕ', ?_, ?_, fun k hk => (a3 k (by omega)).trans (b3 k hk), fun k hk => (a4 k (by omega)).trans (b4 k hk), ?_, ?_, ?_, ?_, ?_⟩
      · simpa [introBs, List.append_assoc] using a1
      · simpa [introBs, List.append_assoc] using a2
      · simp only [introBs, SV.vals, a5]
        simp only [SV.vals, List.cons.injEq, and_true] at b5
        rw [SV.val_congr a3 _ b6.1, b5]
      · exact ⟨SV.lt_mono a8 _ b6.1, a6⟩
      · exact ⟨SV.ok_congr a3 _ b6.1 b7.1, a7⟩
      · simp only [introBs]; omega
      · simpa [introBs, List.append_assoc] using a9

theorem introR_rd {T : PTy} {p : PV} {v : Value} {f fl G : List Nat} {n : Nat} (hL : ArgV w T p v f fl) (hp : Holds B X F A β ϕ w) (hb : Bd n β A) (hB : w.heap.size = B) (hX : ∀ b ∈ f, b ∉ X) (hF : ∀ b ∈ fl, b ∈ F) (hG : Apart A ϕ G) (hf : ∀ b ∈ f, b ∉ G) :
    ∃ β' ϕ', Laid B X F ((introR n T p).2.1 ++ A) β β' ϕ ϕ' w n (introR n T p).2.2 [(introR n T p).1] [v] G := by
  cases T with
  | fn g ts =>
    obtain ⟨qs, cs, rfl, rfl, hL⟩ := hL
    obtain ⟨β', ϕ', a1, a2, a3, a4, a5, a6, a7, a8, a9⟩ := introBs_rd ts qs cs f fl G n A β ϕ hL hp hb hB hX hF hG hf
    exact ⟨β', ϕ', a1, a2, a3, a4, by simp [introR, SV.vals, SV.val, PV.A, a5], ⟨a6, trivial⟩, ⟨a7, trivial⟩, a8, a9⟩
  | _ => exact introB_rd hL hp hb hB hX hF hG hf

/-- What lay behind a lent pointer at first. -/
def OldX1 (w : World) (β : Nat → GV) (T : PTy) (x : SV) : Prop :=
  match T, x with
  | .box l, .ptr h 0 => ∃ b t cs0, (β h).v = .pointer (some ⟨b, (β h).pre.length, none⟩) ∧ w.heap[b]? = some (.cells ((β h).pre ++ cs0 ++ (β h).post).toArray t (0, 0)) ∧ cs0.length = l.length
  | _, _ => True
def OldX (w : World) (β : Nat → GV) : List (Md × PTy) → List SV → Prop
  | (.bx, t) :: ts, x :: xs => OldX1 w β t x ∧ OldX w β ts xs
  | _ :: ts, _ :: xs => OldX w β ts xs
  | _, _ => True
theorem OldX1.congr {β β' : Nat → GV} {n : Nat} {T : PTy} {x : SV} (h : OldX1 w β T x) (hβ : ∀ k, k < n → β' k = β k) (hx : SV.lt n x) : OldX1 w β' T x := by
  unfold OldX1 at h ⊢
  split at h
  · rename_i l i
    rw [hβ i hx]; exact h
  · trivial
theorem OldX.congr {β β' : Nat → GV} {n : Nat} (hβ : ∀ k, k < n → β' k = β k) : ∀ {ts : List (Md × PTy)} {xs : List SV}, OldX w β ts xs → SV.lts n xs → OldX w β' ts xs
  | [], xs, h, hx => by cases xs <;> trivial
  | (m, t) :: ts, [], h, hx => by cases m <;> trivial
  | (m, t) :: ts, x :: xs, h, hx => by
    cases m with
    | bx => exact ⟨h.1.congr hβ hx.1, OldX.congr hβ h.2 hx.2⟩
    | _ => exact OldX.congr (ts := ts) (xs := xs) hβ h hx.2

theorem introX_own {T : PTy} {p : PV} {v : Value} {f G : List Nat} {n : Nat} (hL : ArgX w T p v f) (hp : Holds B X F A β ϕ w) (hb : Bd n β A) (hn : (f ++ G).Nodup) (hw : ∀ b ∈ f, (b ∈ X ∨ B ≤ b) ∧ (b ∈ F ∨ B ≤ b)) (hd : Apart A ϕ (f ++ G)) :
    ∃ β' ϕ', Laid B X F ((introX n T p).2.1 ++ A) β β' ϕ ϕ' w n (introX n T p).2.2 [(introX n T p).1] [v] G ∧ OldX1 w β' T (introX n T p).1 := by
  cases T with
  | box ts =>
    obtain ⟨qs, cs, fs, b, t, pre, post, rfl, rfl, hblk, hL, rfl⟩ := hL
    have hn' : (fs.flatten ++ (b :: G)).Nodup := by
      simp only [List.cons_append, List.nodup_cons, List.mem_append, not_or, List.nodup_append, List.mem_cons] at hn ⊢
      obtain ⟨⟨q1, q2⟩, q3, q4, q5⟩ := hn
      refine ⟨q3, ⟨q2, q4⟩, ?_⟩
      rintro a ha b' (rfl | hb') e
      · subst e; exact q1 ha
      · exact q5 a ha b' hb' e
    obtain ⟨β', ϕ', a1, a2, a3, a4, a5, a6, a7, a8, a9⟩ := introL_own noP (fun _ => rfl) ts qs cs fs (b :: G) 0 n A β ϕ hL hp hb hn' (fun c hc => hw c (by simp only [List.mem_cons]; exact .inr hc)) (hd.mono fun c hc => by simp only [List.mem_append, List.mem_cons] at hc ⊢; rcases hc with h | h | h <;> simp [h])
    have hbc : ∀ k, k < (introL .dp noP 0 n ts qs).2.2 → upd β' (introL .dp noP 0 n ts qs).2.2 ⟨.pointer (some ⟨b, pre.length, none⟩), pre, post⟩ k = β' k := fun k hk => upd_lt _ _ _ hk
    have hadd := a1.add (n := (introL .dp noP 0 n ts qs).2.2) (hl0 := .box true 0 (introL .dp noP 0 n ts qs).1) (g := ⟨.pointer (some ⟨b, pre.length, none⟩), pre, post⟩) (f := [b]) a2 rfl
      ⟨b, t, rfl, rfl, by rw [SV.vals_congr hbc _ a6, a5]; exact hblk⟩ (fun c hc => by simp only [owned, List.mem_singleton] at hc; subst hc; exact (hw c (by simp)).1) (fun _ c hc => by simp only [List.mem_singleton] at hc; subst hc; exact (hw c (by simp)).2) trivial
      (a9.mono fun c hc => by simp only [owned, List.mem_singleton] at hc; simp [hc])
      (fun i hl hi _ c hc hm => by
        simp only [List.mem_singleton] at hm
        subst hm
        by_cases hdd : hl = .dead
        · subst hdd; simp [owned] at hc
        · exact a9 i hl hi hdd c (owned_sub c hc) (by simp)) trivial (by simp [roots]) (by simp [roots])
    refine ⟨_, _, ⟨hadd, hb_add a2 ⟨SV.lts_mono (Nat.le_succ (introL .dp noP 0 n ts qs).2.2) _ a6, SV.oks_congr hbc _ a6 a7⟩, fun k hk => (upd_lt _ _ _ (show k < (introL .dp noP 0 n ts qs).2.2 by omega)).trans (a3 k hk), fun k hk => (upd_lt _ _ _ (show k < (introL .dp noP 0 n ts qs).2.2 by omega)).trans (a4 k hk), ?_, ?_, ?_, ?_, ?_⟩, ⟨b, t, cs, by simp [PV.A, upd_eq], by simpa [PV.A, upd_eq] using hblk, hL.lv.lens.2.trans hL.lv.lens.1.symm⟩⟩
    · simp [introX, SV.vals, SV.val, PV.A, upd_eq]
    · exact ⟨by simp [introX, SV.lt, PV.A], trivial⟩
    · exact ⟨⟨b, pre.length, by simp [PV.A, upd_eq]⟩, trivial⟩
    · show n ≤ (introL .dp noP 0 n ts qs).2.2 + 1; omega
    · refine apart_add a2 (a9.mono fun c hc => by simp [hc]) (fun c hc hm => ?_)
      simp only [List.mem_singleton] at hc
      subst hc
      simp only [List.cons_append, List.nodup_cons, List.mem_append, not_or] at hn
      exact hn.1.2 hm
  | abx T =>
    obtain ⟨es, b, t, c, rfl, rfl, hblk, h1, h2, h3, rfl⟩ := hL
    have hadd := hp.add (n := n) (hl0 := .abx true T es) (g := ⟨.pointer (some ⟨b, 0, none⟩), [], []⟩) (f := [b]) hb rfl
      ⟨h1, h2, b, t, c, rfl, rfl, hblk, h3⟩ (fun c hc => (hw c (by simpa [owned] using hc)).1) (fun _ c hc => (hw c hc).2) trivial
      (hd.mono fun c hc => by simp only [owned, List.mem_singleton] at hc; simp [hc])
      (fun i hl hi _ c hc hm => by
        simp only [List.mem_singleton] at hm
        subst hm
        by_cases hdd : hl = .dead
        · subst hdd; simp [owned] at hc
        · exact hd i hl hi hdd c (owned_sub c hc) (by simp)) trivial (by simp [roots]) (by simp [roots])
    refine ⟨_, _, ⟨hadd, hb_add hb trivial, fun k hk => upd_lt _ _ _ hk, fun k hk => upd_lt _ _ _ hk, ?_, ?_, ?_, ?_, ?_⟩, trivial⟩
    · simp [introX, SV.vals, SV.val, upd_eq]
    · exact ⟨by simp [introX, SV.lt], trivial⟩
    · exact ⟨⟨b, 0, by simp [upd_eq]⟩, trivial⟩
    · show n ≤ n + 1; omega
    · refine apart_add hb (hd.mono fun c hc => by simp [hc]) (fun c hc hm => ?_)
      simp only [List.mem_singleton] at hc
      subst hc
      simp only [List.cons_append, List.nil_append, List.nodup_cons] at hn
      exact hn.1 hm
  | _ => exact hL.elim

theorem ArgM.ret {t : PTy} {p : PV} {v : Value} {f : List Nat} (h : ArgM w t p v f) : RetV w t p v f := by
  cases t with
  | agg ts => exact h
  | list T => obtain ⟨es, rfl, hO⟩ := h; exact ⟨[f], .list hO .nil, by simp⟩
  | _ => exact h.elim

theorem introTs_sound : ∀ (Ts : List (Md × PTy)) (ps : List PV) (vs : List Value) (fs fl ms : List Nat) (n : Nat) (A : Hp) (β : Nat → GV) (ϕ : Nat → List Nat), ArgsV w Ts ps vs fs fl ms → Holds B X F A β ϕ w → Bd n β A → w.heap.size = B →
    (∀ b ∈ fs, b ∉ X) → (∀ b ∈ fl, b ∈ F) → (∀ b ∈ ms, b ∈ X ∧ b ∈ F) → ms.Nodup → Apart A ϕ ms →
    ∃ β' ϕ', Laid B X F ((introTs n Ts ps).2.1 ++ A) β β' ϕ ϕ' w n (introTs n Ts ps).2.2 (introTs n Ts ps).1 vs [] ∧ OldX w β' Ts (introTs n Ts ps).1 := by
  intro Ts
  induction Ts with
  | nil =>
    intro ps vs fs fl ms n A β ϕ hL hp hb hB hX hF hM hn hG
    cases hL
    exact ⟨β, ϕ, ⟨hp, hb, fun _ _ => rfl, fun _ _ => rfl, rfl, trivial, trivial, Nat.le_refl _, hG.mono (by simp)⟩, trivial⟩
  | cons T Ts ih =>
    intro ps vs fs fl ms n A β ϕ hL hp hb hB hX hF hM hn hG
    have comb : ∀ {m t p ps' v vs'} {K : SV × Hp × Nat} {β1 ϕ1} {fs' fl' ms'}, introT n m t p = K → (m = .bx → OldX1 w β1 t K.1) → Laid B X F (K.2.1 ++ A) β β1 ϕ ϕ1 w n K.2.2 [K.1] [v] ms' → ArgsV w Ts ps' vs' fs' fl' ms' → (∀ b ∈ fs', b ∉ X) → (∀ b ∈ fl', b ∈ F) → (∀ b ∈ ms', b ∈ X ∧ b ∈ F) → ms'.Nodup →
        ∃ β' ϕ', Laid B X F ((introTs n ((m, t) :: Ts) (p :: ps')).2.1 ++ A) β β' ϕ ϕ' w n (introTs n ((m, t) :: Ts) (p :: ps')).2.2 (introTs n ((m, t) :: Ts) (p :: ps')).1 (v :: vs') [] ∧ OldX w β' ((m, t) :: Ts) (introTs n ((m, t) :: Ts) (p :: ps')).1 := by
      rintro m t p ps' v vs' K β1 ϕ1 fs' fl' ms' rfl hold ⟨b1, b2, b3, b4, b5, b6, b7, b8, b9⟩ h2 g1 g2 g3 g4
      obtain ⟨β', ϕ', ⟨a1, a2, a3, a4, a5, a6, a7, a8, a9⟩, ho⟩ := ih ps' vs' fs' fl' ms' _ _ _ _ h2 b1 b2 hB g1 g2 g3 g4 b9
      refine ⟨β', ϕ', ⟨?_, ?_, fun k hk => (a3 k (by omega)).trans (b3 k hk), fun k hk => (a4 k (by omega)).trans (b4 k hk), ?_, ?_, ?_, ?_, ?_⟩, by
        cases m with
        | bx => exact ⟨(hold rfl).congr a3 b6.1, ho⟩
        | _ => exact ho⟩
      · simpa [introTs, List.append_assoc] using a1
      · simpa [introTs, List.append_assoc] using a2
      · simp only [introTs, SV.vals, a5]
        simp only [SV.vals, List.cons.injEq, and_true] at b5
        rw [SV.val_congr a3 _ b6.1, b5]
      · exact ⟨SV.lt_mono a8 _ b6.1, a6⟩
      · exact ⟨SV.ok_congr a3 _ b6.1 b7.1, a7⟩
      · simp only [introTs]; omega
      · simpa [introTs, List.append_assoc] using a9
    cases hL with
    | rd h1 h2 =>
      obtain ⟨β1, ϕ1, hl⟩ := introR_rd (n := n) h1 hp hb hB (fun b hb => hX b (by simp [hb])) (fun b hb => hF b (by simp [hb])) hG (fun b hb hm => hX b (by simp [hb]) (hM b hm).1)
      exact comb rfl (fun e => by cases e) hl h2 (fun b hb => hX b (by simp [hb])) (fun b hb => hF b (by simp [hb])) hM hn
    | mt h1 h2 =>
      obtain ⟨β1, ϕ1, hl⟩ := introV_own (n := n) h1.ret hp hb hn (fun b hb => ⟨.inl (hM b (by simp [hb])).1, .inl (hM b (by simp [hb])).2⟩) hG
      exact comb rfl (fun e => by cases e) hl h2 hX hF (fun b hb => hM b (by simp [hb])) (List.nodup_append.1 hn).2.1
    | ow h1 h2 =>
      obtain ⟨β1, ϕ1, hl⟩ := introV_own (n := n) h1.ret hp hb hn (fun b hb => ⟨.inl (hM b (by simp [hb])).1, .inl (hM b (by simp [hb])).2⟩) hG
      exact comb rfl (fun e => by cases e) hl h2 hX hF (fun b hb => hM b (by simp [hb])) (List.nodup_append.1 hn).2.1
    | bx h1 h2 =>
      obtain ⟨β1, ϕ1, hl, hold⟩ := introX_own (n := n) h1 hp hb hn (fun b hb => ⟨.inl (hM b (by simp [hb])).1, .inl (hM b (by simp [hb])).2⟩) hG
      exact comb rfl (fun _ => hold) hl h2 hX hF (fun b hb => hM b (by simp [hb])) (List.nodup_append.1 hn).2.1

end
end Go.Proofs.Ytmjjdfhpnckacab
end

section
namespace Go.Proofs.Ytmjjdfhpnckacab
set_option linter.unusedVariables false

/-- The values in the result variables. -/
def lkAll (E : Env) (S : St) : List ResultVar → Option (List SV)
  | [] => some []
  | .tmp t :: ts => match lk S.Lp t, lkAll E S ts with | some x, some xs => some (x :: xs) | _, _ => none
  | .cell t ty :: ts => match lk S.Lp t, lkAll E S ts with
    | some (.ptr h 0), some xs => (match lk S.A h, lk E.ty ty with
      | some (.box _ _ cs), some ti => if ti.agg && cs.length == ti.sz then some (.agg cs :: xs) else none
      | _, _ => none)
    | _, _ => none

def numb : Nat → List SV → List (Nat × SV)
  | _, [] => []
  | i, x :: xs => (i, x) :: numb (i + 1) xs

/-- The values now in the arguments that may be changed. -/
def resMs (A : Hp) : List (Md × PTy) → List SV → Option (Prop × List PV)
  | (.mt, t) :: ts, x :: xs => match resB A t x, resMs A ts xs with | some (o, p), some (o', ps) => some (o ∧ o', p :: ps) | _, _ => none
  | (.rd, _) :: ts, _ :: xs => resMs A ts xs
  | (.ow, _) :: ts, _ :: xs => resMs A ts xs
  | (.bx, .box l) :: ts, .ptr h 0 :: xs => (match lk A h with
    | some (.box true _ cs) => (match resLs A l cs, resMs A ts xs with | some (o, p), some (o', ps) => some ((o ∧ cs.length = l.length) ∧ o', .agg p :: ps) | _, _ => none)
    | _ => none)
  | (.bx, .abx T) :: ts, .ptr h 0 :: xs => (match lk A h with
    | some (.abx true T' es) => (match resMs A ts xs with | some (o', ps) => some (T' = T ∧ o', .list es :: ps) | none => none)
    | _ => none)
  | [], [] => some (True, [])
  | _, _ => none

def retOk : List PTy → Prop
  | [] => True
  | .agg _ :: ts => retOk ts
  | .int _ :: ts => retOk ts
  | .bool :: ts => retOk ts
  | .str :: ts => retOk ts
  | .list _ :: ts => retOk ts
  | _ :: _ => False

def mtTy : List (Md × PTy) → Prop
  | [] => True
  | (.mt, .agg _) :: ts => mtTy ts
  | (.mt, .list _) :: ts => mtTy ts
  | (.mt, _) :: _ => False
  | _ :: ts => mtTy ts

/-- The slices of the changed arguments. -/
def bxCs (A : Hp) : SV → List SV
  | .ptr h _ => (match lk A h with | some (.box _ _ cs) => cs | _ => [])
  | _ => []
def mtSls (A : Hp) : List (Md × PTy) → List SV → List Nat
  | (.mt, _) :: ts, x :: xs => slsOf x.cells ++ mtSls A ts xs
  | (.bx, _) :: ts, x :: xs => slsOf (bxCs A x) ++ mtSls A ts xs
  | _ :: ts, _ :: xs => mtSls A ts xs
  | _, _ => []
/-- with the pointers -/
def mtHs (A : Hp) : List (Md × PTy) → List SV → List Nat
  | (.mt, _) :: ts, x :: xs => slsOf x.cells ++ mtHs A ts xs
  | (.bx, _) :: ts, .ptr h _ :: xs => h :: (slsOf (bxCs A (.ptr h 0)) ++ mtHs A ts xs)
  | _ :: ts, _ :: xs => mtHs A ts xs
  | _, _ => []

/-- New memory is given back. -/
def finFr (s : FSpec) (xs xs0 : List SV) (ps : List PV) (A : Hp) : Prop :=
  match resBs A s.ret xs, resMs A s.args xs0 with
  | some (o, rs), some (o', qs) => o ∧ rs = s.res ps ∧ o' ∧ qs = s.out ps ∧ dpAll A (slsAll xs ++ mtSls A s.args xs0) = true
  | _, _ => False

/-- The state at the end gives what the contract says. -/
def finOf (E : Env) (outs : List ResultVar) (s : FSpec) (xs0 : List SV) (ps : List PV) (S : St) : Prop :=
  match lkAll E S outs with
  | none => False
  | some xs => retOk s.ret ∧
      (if s.fresh then mtTy s.args ∧ ndB (slsAll xs ++ mtHs (proms S.A (slsAll xs ++ mtSls S.A s.args xs0)) s.args xs0) = true ∧ finFr s xs xs0 ps (proms S.A (slsAll xs ++ mtSls S.A s.args xs0))
      else allRd s.args = true ∧ (match resBs S.A s.ret xs with | some (o, rs) => o ∧ rs = s.res ps | none => False))

section
variable {P : Program} {E : Env} {N : Nat} {w0 : World} {X F : List Nat} {S : St} {β : Nat → GV} {ϕ : Nat → List Nat} {a : Act} {w w' : World} {o : Oper} {R : RR} {A : Hp} {B : Nat}

theorem resB_own {T : PTy} {x : SV} {ob : Prop} {p : PV} (h : resB A T x = some (ob, p)) (hob : ob) (hp : Holds B X F A β ϕ w) (hk : SV.ok β x) (ho : dpAll A (slsOf x.cells) = true) (hT : retOk [T]) :
    RetV w T p (SV.val β x) ((slsOf x.cells).map ϕ).flatten := by
  have lists : ∀ {us : List PTy} {ys : List SV} {o : Prop} {rs : List PV}, resLs A us ys = some (o, rs) → o → SV.oks β ys → dpAll A (slsOf ys) = true → LoD w us rs (SV.vals β ys) (fsOf ϕ ys) := by
    intro us ys o rs q1 q2 q3 q4
    refine resLs_own q1 q2 q3 fun h hh o T es p hA => ?_
    obtain ⟨T', es', p', e⟩ := dpB_iff.1 (dpAll_iff.1 q4 h hh)
    rw [hA] at e; cases e
    exact hp.sat _ _ hA
  have leaf : ∀ (h' : resL A T x = some (ob, p)), (x.cells = [x]) → ∃ fs, LoD w [T] [p] [SV.val β x] fs ∧ ((slsOf x.cells).map ϕ).flatten = fs.flatten := by
    intro h' hc
    rw [hc] at ho ⊢
    exact ⟨_, lists (us := [T]) (ys := [x]) (o := ob ∧ True) (rs := [p]) (by simp [resLs, h']) ⟨hob, trivial⟩ ⟨hk, trivial⟩ ho, by rw [fsOf_flat]⟩
  cases T with
  | agg ts =>
    cases x with
    | agg xs =>
      simp only [resB] at h
      split at h
      · rename_i o ps hps
        simp only [Option.some.injEq, Prod.mk.injEq] at h
        obtain ⟨rfl, rfl⟩ := h
        exact ⟨ps, _, _, rfl, rfl, lists hps hob hk ho, by rw [fsOf_flat]; rfl⟩
      · cases h
    | _ => simp [resB, resL] at h
  | box ts => exact hT.elim
  | abx t => exact hT.elim
  | fn g ts => exact hT.elim
  | opq => exact hT.elim
  | int k => cases x <;> first | (simp [resB, resL] at h; done) | exact leaf (by simpa [resB] using h) rfl
  | bool => cases x <;> first | (simp [resB, resL] at h; done) | exact leaf (by simpa [resB] using h) rfl
  | str => cases x <;> first | (simp [resB, resL] at h; done) | exact leaf (by simpa [resB] using h) rfl
  | list T => cases x <;> first | (simp [resB, resL] at h; done) | exact leaf (by simpa [resB] using h) rfl

theorem retOk_cons {t : PTy} {ts : List PTy} (h : retOk (t :: ts)) : retOk [t] ∧ retOk ts := by
  cases t <;> first | exact ⟨trivial, h⟩ | exact h.elim

theorem dpAll_append {l l' : List Nat} : dpAll A (l ++ l') = true ↔ dpAll A l = true ∧ dpAll A l' = true := by
  simp only [dpAll_iff, List.mem_append]
  exact ⟨fun h => ⟨fun i hi => h i (.inl hi), fun i hi => h i (.inr hi)⟩, fun h i hi => hi.elim (h.1 i) (h.2 i)⟩

theorem resBs_own : ∀ {ts : List PTy} {xs : List SV} {ob : Prop} {ps : List PV}, resBs A ts xs = some (ob, ps) → ob → Holds B X F A β ϕ w → SV.oks β xs → dpAll A (slsAll xs) = true → retOk ts →
    RetVs w ts ps (SV.vals β xs) ((slsAll xs).map ϕ).flatten
  | [], [], ob, ps, h, hob, hp, hk, ho, hT => by cases h; exact .nil
  | [], x :: xs, ob, ps, h, hob, hp, hk, ho, hT => by cases h
  | t :: ts, [], ob, ps, h, hob, hp, hk, ho, hT => by cases h
  | t :: ts, x :: xs, ob, ps, h, hob, hp, hk, ho, hT => by
    simp only [resBs] at h
    split at h
    · rename_i o1 p o2 qs h1 h2
      cases h
      obtain ⟨hT1, hT2⟩ := retOk_cons hT
      simp only [slsAll, dpAll_append] at ho
      simp only [slsAll, List.map_append, List.flatten_append, SV.vals]
      exact .cons (resB_own h1 hob.1 hp hk.1 ho.1 hT1) (resBs_own h2 hob.2 hp hk.2 ho.2 hT2)
    · cases h

theorem RetV.arg {t : PTy} {p : PV} {v : Value} {f : List Nat} (h : RetV w t p v f) (ht : (∃ ts, t = .agg ts) ∨ ∃ T, t = .list T) : ArgM w t p v f := by
  rcases ht with ⟨ts, rfl⟩ | ⟨T, rfl⟩
  · exact h
  · obtain ⟨fs, hL, rfl⟩ := h
    cases hL with
    | list hO hr => cases hr; exact ⟨_, rfl, by simpa using hO⟩

theorem resMs_own {w' : World} : ∀ {ts : List (Md × PTy)} {xs : List SV} {ob : Prop} {ps : List PV}, resMs A ts xs = some (ob, ps) → ob → Holds B X F A β ϕ w → SV.oks β xs → (∀ i o t cs, lk A i = some (.box o t cs) → SV.oks β cs) → dpAll A (mtSls A ts xs) = true → mtTy ts → OldX w' β ts xs →
    OutV w' w ts ps (SV.vals β xs) ((mtHs A ts xs).map ϕ).flatten ∧ ∀ h ∈ mtHs A ts xs, Lent A ϕ h
  | [], [], ob, ps, h, hob, hp, hk, hbx, ho, hT, hX => by cases h; exact ⟨.nil, by simp [mtHs]⟩
  | [], x :: xs, ob, ps, h, hob, hp, hk, hbx, ho, hT, hX => by cases h
  | (m, t) :: ts, [], ob, ps, h, hob, hp, hk, hbx, ho, hT, hX => by cases m <;> (try cases h) <;> cases t <;> cases h
  | (m, t) :: ts, x :: xs, ob, ps, h, hob, hp, hk, hbx, ho, hT, hX => by
    cases m with
    | rd =>
      obtain ⟨r1, r2⟩ := resMs_own (ts := ts) (xs := xs) h hob hp hk.2 hbx ho (by cases t <;> exact hT) hX
      exact ⟨.rd r1, r2⟩
    | ow =>
      obtain ⟨r1, r2⟩ := resMs_own (ts := ts) (xs := xs) h hob hp hk.2 hbx ho (by cases t <;> exact hT) hX
      exact ⟨.ow r1, r2⟩
    | bx =>
      have hT2 : mtTy ts := by cases t <;> exact hT
      cases t with
      | box l =>
        cases x with
        | ptr i off =>
          cases off with
          | zero =>
            simp only [resMs] at h
            split at h
            case h_2 => cases h
            rename_i tt cs hA
            split at h
            case h_2 => cases h
            rename_i o1 p o2 qs h1 h2
            simp only [Option.some.injEq, Prod.mk.injEq] at h
            obtain ⟨rfl, rfl⟩ := h
            simp only [mtSls, bxCs, hA, dpAll_append] at ho
            obtain ⟨r1, r2⟩ := resMs_own h2 hob.2 hp hk.2 hbx ho.2 hT2 hX.2
            obtain ⟨b, t', hb, hϕ, hblk⟩ := hp.sat _ _ hA
            obtain ⟨b2, t2, cs0, hb2, hblk2, hl0⟩ := hX.1
            have : b2 = b := by
              rw [hb] at hb2; simp only [Value.pointer.injEq, Option.some.injEq, Addr.mk.injEq] at hb2; exact hb2.1.symm
            subst this
            have hLo : LoD w l p (SV.vals β cs) (fsOf ϕ cs) := resLs_own h1 hob.1.1 (hbx _ _ _ _ hA) fun h hh o T es p' hA' => by
              obtain ⟨T', es', p2, e⟩ := dpB_iff.1 (dpAll_iff.1 ho.1 h hh)
              rw [e] at hA'; cases hA'
              exact hp.sat _ _ e
            constructor
            · have hx : OutX w' w (.box l) (.agg p) (SV.val β (.ptr i 0)) (b2 :: (fsOf ϕ cs).flatten) :=
                ⟨p, cs0, SV.vals β cs, fsOf ϕ cs, b2, t2, t', (β i).pre, (β i).post, rfl, by simp [SV.val, hb], hblk2, hl0, hblk, hLo, rfl⟩
              have := OutV.bx hx r1
              simp only [mtHs, bxCs, hA, List.map_append, List.map_cons, List.flatten_append, List.flatten_cons, hϕ, ← fsOf_flat, List.cons_append, List.append_assoc, List.nil_append, SV.vals] at this ⊢
              exact this
            · intro h hh
              simp only [mtHs, bxCs, hA, List.mem_cons, List.mem_append] at hh
              rcases hh with rfl | hh | hh
              · exact ⟨_, hA, by simp, rfl, by rw [hϕ]; simp, rfl⟩
              · exact lent_dp hp (dpAll_iff.1 ho.1 h hh)
              · exact r2 h hh
          | succ n => simp [resMs] at h
        | _ => simp [resMs] at h
      | abx T =>
        cases x with
        | ptr i off =>
          cases off with
          | zero =>
            simp only [resMs] at h
            split at h
            case h_2 => cases h
            rename_i T' es hA
            split at h
            case h_2 => cases h
            rename_i o2 qs h2
            simp only [Option.some.injEq, Prod.mk.injEq] at h
            obtain ⟨rfl, rfl⟩ := h
            simp only [mtSls, bxCs, hA, slsOf, List.nil_append] at ho
            obtain ⟨r1, r2⟩ := resMs_own h2 hob.2 hp hk.2 hbx ho hT2 hX.2
            have := hob.1
            subst this
            obtain ⟨g1, g2, b, t', c, hv, hϕ, hblk, hL⟩ := hp.sat _ _ hA
            constructor
            · have hx : OutX w' w (.abx T') (.list es) (SV.val β (.ptr i 0)) [b] := ⟨es, b, t', c, rfl, by simp [SV.val, hv], hblk, g1, g2, hL, rfl⟩
              have := OutV.bx hx r1
              simp only [mtHs, bxCs, hA, slsOf, List.map_cons, List.flatten_cons, hϕ, List.nil_append, SV.vals] at this ⊢
              exact this
            · intro h hh
              simp only [mtHs, bxCs, hA, slsOf, List.nil_append, List.mem_cons] at hh
              rcases hh with rfl | hh
              · exact ⟨_, hA, by simp, rfl, by rw [hϕ]; simp, rfl⟩
              · exact r2 h hh
          | succ n => simp [resMs] at h
        | _ => simp [resMs] at h
      | _ => cases x <;> simp [resMs] at h
    | mt =>
      simp only [resMs] at h
      split at h
      · rename_i o1 p o2 qs h1 h2
        cases h
        simp only [mtSls, dpAll_append] at ho
        have ht : (∃ ts, t = .agg ts) ∨ ∃ T, t = .list T := by cases t <;> first | exact hT.elim | exact .inl ⟨_, rfl⟩ | exact .inr ⟨_, rfl⟩
        have hT1 : retOk [t] := by rcases ht with ⟨ts, rfl⟩ | ⟨T, rfl⟩ <;> trivial
        have hT2 : mtTy ts := by cases t <;> first | exact hT.elim | exact hT
        obtain ⟨r1, r2⟩ := resMs_own h2 hob.2 hp hk.2 hbx ho.2 hT2 hX
        constructor
        · simp only [mtHs, List.map_append, List.flatten_append, SV.vals]
          exact .mt ((resB_own h1 hob.1 hp hk.1 ho.1 hT1).arg ht) r1
        · intro h hh
          simp only [mtHs, List.mem_append] at hh
          rcases hh with hh | hh
          · exact lent_dp hp (dpAll_iff.1 ho.1 h hh)
          · exact r2 h hh
      · cases h

/-- Results that may share memory. -/
theorem resB_ret {T : PTy} {x : SV} {ob : Prop} {p : PV} (h : resB A T x = some (ob, p)) (hob : ob) (hp : Holds B X F A β ϕ w) (hk : SV.ok β x) (hT : retOk [T]) :
    ∃ f, RetN w T p (SV.val β x) f ∧ ∀ b ∈ f, b ∈ F ∨ B ≤ b := by
  have lists : ∀ {us : List PTy} {ys : List SV} {o : Prop} {rs : List PV}, resLs A us ys = some (o, rs) → o → SV.oks β ys → ∃ f, Lv w us rs (SV.vals β ys) f ∧ ∀ b ∈ f, b ∈ F ∨ B ≤ b := by
    intro us ys o rs q1 q2 q3
    obtain ⟨f, q4, q5⟩ := resLs_sound q1 q2 hp q3
    refine ⟨f, q4, fun b hb => ?_⟩
    obtain ⟨i, hi, hl, e1, e2, e3⟩ := q5 b hb
    obtain ⟨hl', e4, e5⟩ := resLs_isA q1 i hi
    rw [e1] at e4; cases e4
    exact hp.all i hl e1 e5.isA b e3
  have leaf : ∀ (h' : resL A T x = some (ob, p)), ∃ f, Lv w [T] [p] [SV.val β x] f ∧ ∀ b ∈ f, b ∈ F ∨ B ≤ b := fun h' =>
    lists (us := [T]) (ys := [x]) (o := ob ∧ True) (rs := [p]) (by simp [resLs, h']) ⟨hob, trivial⟩ ⟨hk, trivial⟩
  cases T with
  | agg ts =>
    cases x with
    | agg xs =>
      simp only [resB] at h
      split at h
      · rename_i o ps hps
        simp only [Option.some.injEq, Prod.mk.injEq] at h
        obtain ⟨rfl, rfl⟩ := h
        obtain ⟨f, q1, q2⟩ := lists hps hob hk
        exact ⟨f, ⟨ps, _, rfl, rfl, q1⟩, q2⟩
      · cases h
    | _ => simp [resB, resL] at h
  | box ts => exact hT.elim
  | abx t => exact hT.elim
  | fn g ts => exact hT.elim
  | opq => exact hT.elim
  | int k => cases x <;> first | (simp [resB, resL] at h; done) | exact leaf (by simpa [resB] using h)
  | bool => cases x <;> first | (simp [resB, resL] at h; done) | exact leaf (by simpa [resB] using h)
  | str => cases x <;> first | (simp [resB, resL] at h; done) | exact leaf (by simpa [resB] using h)
  | list T => cases x <;> first | (simp [resB, resL] at h; done) | exact leaf (by simpa [resB] using h)

theorem resBs_ret : ∀ {ts : List PTy} {xs : List SV} {ob : Prop} {ps : List PV}, resBs A ts xs = some (ob, ps) → ob → Holds B X F A β ϕ w → SV.oks β xs → retOk ts →
    ∃ f, RetNs w ts ps (SV.vals β xs) f ∧ ∀ b ∈ f, b ∈ F ∨ B ≤ b
  | [], [], ob, ps, h, hob, hp, hk, hT => by cases h; exact ⟨[], .nil, by simp⟩
  | [], x :: xs, ob, ps, h, hob, hp, hk, hT => by cases h
  | t :: ts, [], ob, ps, h, hob, hp, hk, hT => by cases h
  | t :: ts, x :: xs, ob, ps, h, hob, hp, hk, hT => by
    simp only [resBs] at h
    split at h
    · rename_i o1 p o2 qs h1 h2
      cases h
      obtain ⟨hT1, hT2⟩ := retOk_cons hT
      obtain ⟨f, q1, q2⟩ := resB_ret h1 hob.1 hp hk.1 hT1
      obtain ⟨g, q3, q4⟩ := resBs_ret h2 hob.2 hp hk.2 hT2
      exact ⟨f ++ g, .cons q1 q3, fun b hb => (List.mem_append.1 hb).elim (q2 b) (q4 b)⟩
    · cases h

theorem lkAll_run (hE : EnvTy P E) (sat : Sat N w0 X F S β ϕ a w) (g : ResultVar → Sem Value) (hg : ∀ t, g (.tmp t) = pure (a.tmps.getD t undef)) (hc : ∀ t ty, g (.cell t ty) = asAddr (a.tmps.getD t undef) >>= fun x => loadVar ty x) :
    ∀ {outs : List ResultVar} {xs : List SV}, lkAll E S outs = some xs → (outs.mapM g).run P w = .ok (SV.vals β xs) w ∧ SV.oks β xs ∧ SV.lts S.n xs ∧ xs.length = outs.length
  | [], xs, h => by cases h; exact ⟨rfl, trivial, trivial, rfl⟩
  | .tmp t :: ts, xs, h => by
    simp only [lkAll] at h
    split at h
    · rename_i x ys hx hy
      cases h
      obtain ⟨h1, h2, h3, h4⟩ := lkAll_run hE sat g hg hc hy
      obtain ⟨q1, q2, q3⟩ := sat.lp t x hx
      refine ⟨?_, ⟨q3, h2⟩, ⟨q2, h3⟩, by simp [h4]⟩
      simp only [List.mapM_cons, Sem.run_bind, Sem.run_pure, Result.andThen_ok, h1, hg, SV.vals, Array.getD_eq_getD_getElem?, q1, Option.getD_some]
    · cases h
  | .cell t ty :: ts, xs, h => by
    simp only [lkAll] at h
    split at h
    · rename_i i ys hx hy
      split at h
      · rename_i ow bt cs ti hl hti
        split at h
        · rename_i hcond
          cases h
          simp only [Bool.and_eq_true, beq_iff_eq] at hcond
          obtain ⟨hA, hlen⟩ := hcond
          obtain ⟨h1, h2, h3, h4⟩ := lkAll_run hE sat g hg hc hy
          obtain ⟨q1, q2, b, oo, hb⟩ := sat.lp t _ hx
          obtain ⟨b', bt', hb', hϕ, hold⟩ := sat.hp.sat _ _ hl
          rw [hb] at hb'
          simp only [Value.pointer.injEq, Option.some.injEq, Addr.mk.injEq, and_true] at hb'
          obtain ⟨rfl, rfl⟩ := hb'
          simp only [SV.val, hb, Nat.add_zero] at q1
          obtain ⟨k1, k2⟩ := (sat.hb _ _ hl).2
          have hag := run_isAgg (hE _ _ hti)
          have hsz := run_size (hE _ _ hti)
          have hcl : (SV.vals β cs).length = cs.length := by simp [SV.vals_map]
          have hlc := run_loadCells_row (P := P) b ((β i).pre.length + 0) ti.sz _ bt' (0, 0) hold (by simp [hcl, hlen])
          rw [List.toList_toArray, mid_take _ _ _ (by rw [hcl]; omega)] at hlc
          have hall : ((SV.vals β cs).drop 0).take ti.sz = SV.vals β cs := by
            rw [List.drop_zero, List.take_of_length_le (by simp [SV.vals_map, hlen])]
          simp only [hall, Nat.add_zero] at hlc
          refine ⟨?_, ⟨k2, h2⟩, ⟨k1, h3⟩, by simp [h4]⟩
          simp only [List.mapM_cons, Sem.run_bind, Sem.run_pure, Result.andThen_ok, h1, hc, SV.vals, SV.val, Array.getD_eq_getD_getElem?, q1, Option.getD_some, asAddr, loadVar, hag, hsz, hA, if_true, hlc]
        · cases h
      · cases h
    · cases h

theorem results_run {fn : Func} {outs : List ResultVar} (h : fn.results = outs.toArray) (tmps : Array Value) (w : World) (g : ResultVar → Sem Value) (hg : ∀ t, g (.tmp t) = pure (tmps.getD t undef)) (hc : ∀ t ty, g (.cell t ty) = asAddr (tmps.getD t undef) >>= fun x => loadVar ty x)
    {vs : List Value} (hv : (outs.mapM g).run P w = .ok vs w) (hlen : vs.length = outs.length) : (results fn tmps).run P w = .ok (packR vs) w := by
  have hgg : ∀ g' : ResultVar → Sem Value, (∀ t, g' (.tmp t) = pure (tmps.getD t undef)) → (∀ t ty, g' (.cell t ty) = asAddr (tmps.getD t undef) >>= fun x => loadVar ty x) → outs.mapM g' = outs.mapM g := by
    intro g' h1 h2
    have : g' = g := by
      funext r
      cases r with
      | tmp t => rw [h1, hg]
      | cell a t => rw [h2, hc]
    rw [this]
  unfold results
  rw [h, List.mapM_toArray]
  simp only [Sem.run_bind, Sem.run_map, Result.andThen_ok]
  rw [hgg _ (fun _ => rfl) (fun _ _ => rfl), hv]
  simp only [Result.andThen_ok, Sem.run_pure]
  match vs with
  | [] => rfl
  | [x] => rfl
  | x :: y :: l => simp [packR]

theorem lk_numb : ∀ {xs : List SV} {i t : Nat} {v : SV}, lk (numb i xs) t = some v → i ≤ t ∧ xs[t - i]? = some v
  | [], i, t, v, h => by cases h
  | x :: xs, i, t, v, h => by
    simp only [numb, lk] at h
    split at h
    · rename_i e; subst e; cases h; simp
    · rename_i e
      obtain ⟨h1, h2⟩ := lk_numb h
      refine ⟨by omega, ?_⟩
      rw [show t - i = (t - (i + 1)) + 1 by omega]
      simpa using h2

theorem ArgsV.lens {ts : List (Md × PTy)} {ps : List PV} {vs : List Value} {f fl ms : List Nat} (h : ArgsV w ts ps vs f fl ms) : ts.length = vs.length := by
  induction h with
  | nil => rfl
  | rd _ _ ih => simp [ih]
  | mt _ _ ih => simp [ih]
  | ow _ _ ih => simp [ih]
  | bx _ _ ih => simp [ih]

theorem ArgsV.rdms {ts : List (Md × PTy)} {ps : List PV} {vs : List Value} {f fl ms : List Nat} (h : ArgsV w ts ps vs f fl ms) (hr : allRd ts = true) : ms = [] := by
  induction h with
  | nil => rfl
  | rd _ _ ih => exact ih hr
  | mt _ _ _ => simp [allRd] at hr
  | ow _ _ _ => simp [allRd] at hr
  | bx _ _ _ => simp [allRd] at hr

/-- A function keeps its contract if its code's conditions hold. -/
theorem meets_of_vc {fid : FuncId} {fn : Func} {c : Code} {s : FSpec} {keep : List Nat} {outs : List ResultVar} (G : (List KI → St → Prop) → Prop) (hG : ∀ C : Cx, C.Ok → C.P = P → C.N = fn.ntmps → C.keep = keep → G (WP C)) (hE : EnvOk P E) (hm : P.follows .mixedOrders = true) (hf : P.funcs[fid]? = some fn) (hb : fn.body = some c)
    (hr : fn.results = outs.toArray) (hp : s.args.length ≤ fn.ntmps) (hkeep : ∀ i, i < s.args.length → keep.contains i = true)
    (h : ∀ ps, TyA s.args ps → s.pre ps → ∀ W, Rules E fn.ntmps keep (introTs 0 s.args ps).2.2 (finOf E outs s (introTs 0 s.args ps).1 ps) W → G W →
      W [.code c] ⟨numb 0 (introTs 0 s.args ps).1, [], (introTs 0 s.args ps).2.1, (introTs 0 s.args ps).2.2⟩) : Meets P fid s := by
  intro w ps vs fs fl ms hA hnd hdis hpre
  have h0 : Holds w.heap.size ms (fl ++ ms) [] (fun _ => ⟨Value.bool false, [], []⟩) (fun _ => []) w :=
    ⟨fun _ => rfl, fun _ _ h => (by cases h), fun _ _ h => (by cases h), fun _ _ h => (by cases h), fun _ _ h => (by cases h), fun _ _ _ _ h => (by cases h), fun _ _ h => (by cases h), fun _ _ h => (by cases h)⟩
  obtain ⟨β, ϕ, ⟨e1, e2, e3, e4, e5, e6, e7, e8, e9⟩, hold⟩ := introTs_sound s.args ps vs fs fl ms 0 [] _ _ hA h0 (fun i hl h => (by cases h)) rfl (fun b hb hm => hdis b hm hb) (fun b hb => by simp [hb]) (fun b hb => ⟨hb, by simp [hb]⟩) hnd (fun i hl h => (by cases h))
  have hlen := hA.lens
  have hlen2 : (introTs 0 s.args ps).1.length = vs.length := by rw [← e5, SV.vals_map]; simp
  let fin := finOf E outs s (introTs 0 s.args ps).1 ps
  let Rr : Ending → World → Prop := fun e w' => ∃ rvs, e = .returned (packR rvs) ∧ Done w s ps vs fl ms rvs w'
  let C : Cx := ⟨P, E, fn.ntmps, w, ms, fl ++ ms, keep, (introTs 0 s.args ps).2.2, β, bodyPost P fn Rr, fin⟩
  have hfin : ∀ S a w', At C S a w' → fin S → a.defers = [] ∧ ∃ v, (results fn a.tmps).run P w' = .ok v w' ∧ Rr (.returned v) w' := by
    intro S a w' hat hS
    obtain ⟨kp, hn, β1, ϕ1, sat, hsame⟩ := hat
    unfold fin finOf at hS
    split at hS
    · exact hS.elim
    · rename_i xs hxs
      obtain ⟨hret, hS⟩ := hS
      let g : ResultVar → Sem Value := fun r => match r with | .tmp t => pure (a.tmps.getD t undef) | .cell t ty => asAddr (a.tmps.getD t undef) >>= fun x => loadVar ty x
      obtain ⟨v1, v2, v3, v4⟩ := lkAll_run hE.ty sat g (fun _ => rfl) (fun _ _ => rfl) hxs
      refine ⟨sat.df, _, results_run hr a.tmps w' g (fun _ => rfl) (fun _ _ => rfl) v1 (by simp [SV.vals_map, v4]), _, rfl, sat.fr, ?_⟩
      have hsame1 : SV.vals β1 (introTs 0 s.args ps).1 = vs := by
        rw [SV.vals_congr (fun k hk => hsame k hk) _ e6]; exact e5
      have hok1 : SV.oks β1 (introTs 0 s.args ps).1 := SV.oks_congr (fun k hk => hsame k hk) _ e6 e7
      cases hfs : s.fresh with
      | true =>
        rw [hfs] at hS
        simp only [if_true] at hS
        obtain ⟨f0, f1, f2⟩ := hS
        obtain ⟨ϕ2, p1, p2, _⟩ := proms_sound (slsAll xs ++ mtSls S.A s.args (introTs 0 s.args ps).1) sat.hp sat.hb
        unfold finFr at f2
        split at f2
        · rename_i o rs o' qs hrs hqs
          obtain ⟨g1, g2, g3, g4, g5⟩ := f2
          obtain ⟨g6, g7⟩ := dpAll_append.1 g5
          have hR := resBs_own hrs g1 p1 v2 g6 hret
          obtain ⟨hO, hLt⟩ := resMs_own (w' := w) hqs g3 p1 hok1 (fun i o t cs hi => (p2 _ _ hi).2.2) g7 f0 (hold.congr hsame e6)
          rw [hsame1, g4] at hO
          rw [g2] at hR
          have hLents : ∀ h ∈ slsAll xs ++ mtHs (proms S.A (slsAll xs ++ mtSls S.A s.args (introTs 0 s.args ps).1)) s.args (introTs 0 s.args ps).1, Lent (proms S.A (slsAll xs ++ mtSls S.A s.args (introTs 0 s.args ps).1)) ϕ2 h := by
            intro h hh
            rcases List.mem_append.1 hh with hh | hh
            · exact lent_dp p1 (dpAll_iff.1 g6 h hh)
            · exact hLt h hh
          refine .inl ⟨rfl, _, _, hR, hO, ?_, ?_⟩
          · rw [← List.flatten_append, ← List.map_append]
            exact lents_nodup p1 hLents (ndB_iff.1 f1)
          · rw [← List.flatten_append, ← List.map_append]
            intro b hb
            obtain ⟨i, hi, hl, e1, e2⟩ := lents_own hLents b hb
            exact p1.own i _ e1 b e2
        · exact f2.elim
      | false =>
        rw [hfs] at hS
        simp only [Bool.false_eq_true, if_false] at hS
        obtain ⟨f1, f2⟩ := hS
        split at f2
        · rename_i o rs hrs
          obtain ⟨g1, g2⟩ := f2
          obtain ⟨f, q1, q2⟩ := resBs_ret hrs g1 sat.hp v2 hret
          rw [g2] at q1
          have hms := hA.rdms f1
          refine .inr ⟨rfl, f1, f, q1, fun b hb => ?_⟩
          have := q2 b hb
          have hF : C.F = fl ++ ms := rfl
          rw [hF, hms, List.append_nil] at this
          exact this
        · exact f2.elim
  have hC : C.Ok := ⟨hE, hm, fun S a w' hat hS => ⟨hfin S a w' hat hS, hfin S a w' hat hS⟩, fun c a d v w h => ⟨by have h1 := h.1; cases d <;> exact h1, h.2⟩⟩
  refine calls_of_wp hf hb ?_
  have hW := h ps hA.ty hpre (WP C) (rules_wp hC) (hG C hC rfl rfl rfl)
  refine hW _ w ⟨⟨?_, fun t x h => (by cases h)⟩, Nat.le_refl _, β, ϕ, ⟨rfl, ?_, ?_, fun t g v h => (by cases h), by simpa using e1, (by simpa using e2 : Bd _ _ _), Fr.refl _ _⟩, fun h _ => rfl⟩
  · intro t v ht
    obtain ⟨h1, h2⟩ := lk_numb ht
    obtain ⟨h3, _⟩ := List.getElem?_eq_some_iff.1 h2
    exact hkeep t (by simp only [Nat.sub_zero] at h3; omega)
  · show (vs.toArray ++ Array.replicate (fn.ntmps - vs.toArray.size) undef).size = fn.ntmps
    simp; omega
  · intro t v ht
    obtain ⟨_, h2⟩ := lk_numb ht
    simp only [Nat.sub_zero] at h2
    have hm1 := List.mem_of_getElem? h2
    refine ⟨?_, SV.lts_iff.1 e6 v hm1, SV.oks_iff.1 e7 v hm1⟩
    obtain ⟨h3, _⟩ := List.getElem?_eq_some_iff.1 h2
    show (vs.toArray ++ Array.replicate (fn.ntmps - vs.toArray.size) undef)[t]? = _
    rw [Array.getElem?_append_left (by simp; omega)]
    rw [← e5, SV.vals_map]
    simp [h2]

end
def fldsOf : TypeDesc → List (Nat × Nat)
  | .struct fs => fs.toList.map fun f => (f.offset, f.type)
  | _ => []

def aggOf : TypeDesc → Bool
  | .struct _ => true
  | .array _ _ => true
  | _ => false

def lfB : PTy → Bool
  | .agg _ => false
  | .fn _ _ => false
  | _ => true

theorem tiok_mk {P : Program} {t : TypeId} {ti : TI} {i : TypeInfo} {z : Value} (h1 : P.underlying t = some ti.d) (h2 : P.info? t = some i) (h3 : i.size = ti.sz) (h4 : i.bytes = ti.bytes) (h5 : i.zero = some z)
    (h6 : z.cells = (ti.leaves.map zeroV).toArray) (h7 : ti.agg = aggOf ti.d) (h8 : ti.flds = fldsOf ti.d) (h9 : (ti.flds.all fun f => (P.info? f.2).isSome) = true) (h10 : 0 < ti.sz) (h11 : 0 < ti.bytes) (h12 : ti.agg = false → ti.sz = 1)
    (h13 : ti.leaves.all lfB = true) : TIok P t ti := by
  refine ⟨h1, ⟨i, h2, h3, h4, z, h5, h6⟩, ?_, ?_, ?_, h10, h11, h12, fun t ht => ?_, fun t ht f l e => ?_⟩
  · rw [h7]; cases ti.d <;> rfl
  · intro f off ft hf
    rw [h8] at hf
    cases hd : ti.d <;> rw [hd] at hf <;> simp only [fldsOf, List.getElem?_nil, reduceCtorEq] at hf
    rename_i fs
    simp only [List.getElem?_map, Option.map_eq_some_iff, Array.getElem?_toList, Prod.mk.injEq] at hf
    obtain ⟨fd, h, h1, h2⟩ := hf
    exact ⟨fs, fd, rfl, h, h1, h2⟩
  · intro fs hd f hf
    rw [h8, hd] at h9
    have := List.all_eq_true.1 h9 (f.offset, f.type) (by simp only [fldsOf, List.mem_map]; exact ⟨f, by simpa using hf, rfl⟩)
    exact Option.isSome_iff_exists.1 this
  · have := List.all_eq_true.1 h13 t ht
    cases t <;> first | rfl | (simp [lfB] at this)
  · have := List.all_eq_true.1 h13 t ht
    subst e
    simp [lfB] at this

/-- A function that may be called by its contract. -/
def FnOk (P : Program) (f : FuncId) (s : FSpec) : Prop := Meets P f s ∧ ∃ fn, P.funcs[f]? = some fn ∧ fn.body.isNone = false ∧ (fn.name == "runtime.NumGoroutine") = false

theorem env_nil {P : Program} {tab : List (Nat × TI)} (h : EnvTy P ⟨tab, []⟩) : EnvOk P ⟨tab, []⟩ := ⟨h, fun f cs s h => (by cases h)⟩

theorem env_cons {P : Program} {tab : List (Nat × TI)} {l : List ((Nat × List Nat) × FSpec)} {f : Nat} {cs : List Nat} {s : FSpec} (hf : FnOk P f s) (h : EnvOk P ⟨tab, l⟩) : EnvOk P ⟨tab, ((f, cs), s) :: l⟩ := by
  refine ⟨h.ty, fun g ds t hg => ?_⟩
  simp only [findFn] at hg
  split at hg
  · rename_i e
    cases hg
    obtain ⟨rfl, _⟩ := e
    exact hf
  · exact h.fn g ds t hg

theorem fn_mkG {P : Program} {E : Env} {fid : FuncId} {fn : Func} {c : Code} {s : FSpec} (keep : List Nat) (outs : List ResultVar) (G : (List KI → St → Prop) → Prop) (hG : ∀ C : Cx, C.Ok → C.P = P → C.N = fn.ntmps → C.keep = keep → G (WP C)) (hE : EnvOk P E) (hm : P.follows .mixedOrders = true) (hf : P.funcs[fid]? = some fn) (hb : fn.body = some c)
    (hn : (fn.name == "runtime.NumGoroutine") = false) (hr : fn.results = outs.toArray) (hp : s.args.length ≤ fn.ntmps) (hkeep : (List.range s.args.length).all (keep.contains ·) = true)
    (h : ∀ ps, TyA s.args ps → s.pre ps → ∀ W, Rules E fn.ntmps keep (introTs 0 s.args ps).2.2 (finOf E outs s (introTs 0 s.args ps).1 ps) W → G W →
      W [.code c] ⟨numb 0 (introTs 0 s.args ps).1, [], (introTs 0 s.args ps).2.1, (introTs 0 s.args ps).2.2⟩) : FnOk P fid s :=
  ⟨meets_of_vc G hG hE hm hf hb hr hp (fun i hi => List.all_eq_true.1 hkeep i (by simpa using hi)) h, fn, hf, by rw [hb]; rfl, hn⟩

theorem fn_mk {P : Program} {E : Env} {fid : FuncId} {fn : Func} {c : Code} {s : FSpec} (keep : List Nat) (outs : List ResultVar) (hE : EnvOk P E) (hm : P.follows .mixedOrders = true) (hf : P.funcs[fid]? = some fn) (hb : fn.body = some c)
    (hn : (fn.name == "runtime.NumGoroutine") = false) (hr : fn.results = outs.toArray) (hp : s.args.length ≤ fn.ntmps) (hkeep : (List.range s.args.length).all (keep.contains ·) = true)
    (h : ∀ ps, TyA s.args ps → s.pre ps → ∀ W, Rules E fn.ntmps keep (introTs 0 s.args ps).2.2 (finOf E outs s (introTs 0 s.args ps).1 ps) W →
      W [.code c] ⟨numb 0 (introTs 0 s.args ps).1, [], (introTs 0 s.args ps).2.1, (introTs 0 s.args ps).2.2⟩) : FnOk P fid s :=
  fn_mkG keep outs (fun _ => True) (fun _ _ _ _ _ => trivial) hE hm hf hb hn hr hp hkeep fun ps h1 h2 W hW _ => h ps h1 h2 W hW

end Go.Proofs.Ytmjjdfhpnckacab
end

section
namespace Go.Proofs.Ytmjjdfhpnckacab

def nth (es : List PV) (i : Nat) : PV := es.getD i PV.d
theorem nth_fold (es : List PV) (i : Nat) : es.getD i PV.d = nth es i := rfl
theorem nth_zero (a : PV) (l : List PV) : nth (a :: l) 0 = a := rfl
theorem nth_succ (a : PV) (l : List PV) (n : Nat) : nth (a :: l) (n + 1) = nth l n := rfl
theorem pv_I (k : IntKind) (n : Int) : (PV.int k n).I = n := rfl
theorem pv_B (n : Bool) : (PV.bool n).B = n := rfl
theorem pv_S (n : List UInt8) : (PV.str n).S = n := rfl
theorem pv_L (n : List PV) : (PV.list n).L = n := rfl
theorem pv_A (n : List PV) : (PV.agg n).A = n := rfl
theorem pv_at (p : PV) (i : Nat) : p.at i = nth p.A i := rfl
theorem lv_int (k : IntKind) (n : Int) : (PV.int k n).leaves = [.int k n] := rfl
theorem lv_bool (n : Bool) : (PV.bool n).leaves = [.bool n] := rfl
theorem lv_str (n : List UInt8) : (PV.str n).leaves = [.str n] := rfl
theorem lv_list (n : List PV) : (PV.list n).leaves = [.list n] := rfl
theorem lv_agg (n : List PV) : (PV.agg n).leaves = n := rfl

theorem nth_eq {es : List PV} {i : Nat} (h : i < es.length) : nth es i = es[i] := by simp [nth, h]
theorem nth_mem {es : List PV} {i : Nat} (h : i < es.length) : nth es i ∈ es := by rw [nth_eq h]; exact List.getElem_mem h
theorem drop_nth {es : List PV} {i : Nat} (h : i < es.length) : es.drop i = nth es i :: es.drop (i + 1) := by
  rw [nth_eq h]; exact (List.drop_eq_getElem_cons h)
theorem take_nth {es : List PV} {i : Nat} (h : i < es.length) : es.take (i + 1) = es.take i ++ [nth es i] := by
  rw [nth_eq h]; exact List.take_succ_eq_append_getElem h
theorem nth_map {α : Type} (f : α → PV) (l : List α) (i : Nat) (h : i < l.length) : nth (l.map f) i = f l[i] := by simp [nth, h]

theorem wrap64 {n : Int} (h : -9223372036854775808 ≤ n ∧ n ≤ 9223372036854775807) : IntKind.i64.wrap n = n := by
  simp [IntKind.wrap, IntKind.signed, IntKind.bits]; omega

theorem inR64 {n : Int} : inR .i64 n ↔ -9223372036854775808 ≤ n ∧ n ≤ 9223372036854775807 := by
  simp [inR, IntKind.min, IntKind.max, IntKind.signed, IntKind.bits]
theorem limN : LIM = 140737488355328 := rfl

end Go.Proofs.Ytmjjdfhpnckacab
end

section
namespace Go.Proofs.Ytmjjdfhpnckacab
set_option maxRecDepth 100000

/-- int64 -/
noncomputable def T2 : TI := ⟨false, [.int .i64], 0, [], 8, .int .i64⟩
theorem T2_ok : TIok Try.prog 2 T2 := tiok_mk (i := Try.t2) Try.underlying2 Try.type2 rfl rfl rfl rfl rfl rfl (by kernel_rfl) (by decide) (by decide) (by decide) rfl
theorem T2_sz : T2.sz = 1 := rfl
theorem T2_pty : T2.pty = .int .i64 := rfl
/-- int -/
noncomputable def T3 : TI := ⟨false, [.int .i64], 0, [], 8, .int .i64⟩
theorem T3_ok : TIok Try.prog 3 T3 := tiok_mk (i := Try.t3) Try.underlying3 Try.type3 rfl rfl rfl rfl rfl rfl (by kernel_rfl) (by decide) (by decide) (by decide) rfl
theorem T3_sz : T3.sz = 1 := rfl
theorem T3_pty : T3.pty = .int .i64 := rfl
/-- bool -/
noncomputable def T4 : TI := ⟨false, [.bool], 0, [], 1, .bool⟩
theorem T4_ok : TIok Try.prog 4 T4 := tiok_mk (i := Try.t4) Try.underlying4 Try.type4 rfl rfl rfl rfl rfl rfl (by kernel_rfl) (by decide) (by decide) (by decide) rfl
theorem T4_sz : T4.sz = 1 := rfl
theorem T4_pty : T4.pty = .bool := rfl
/-- uint8 -/
noncomputable def T5 : TI := ⟨false, [.int .u8], 0, [], 1, .int .u8⟩
theorem T5_ok : TIok Try.prog 5 T5 := tiok_mk (i := Try.t5) Try.underlying5 Try.type5 rfl rfl rfl rfl rfl rfl (by kernel_rfl) (by decide) (by decide) (by decide) rfl
theorem T5_sz : T5.sz = 1 := rfl
theorem T5_pty : T5.pty = .int .u8 := rfl
/-- abi.BoundsErrorCode -/
noncomputable def T6 : TI := ⟨false, [.int .u8], 0, [], 1, .int .u8⟩
theorem T6_ok : TIok Try.prog 6 T6 := tiok_mk (i := Try.t6) Try.underlying6 Try.type6 rfl rfl rfl rfl rfl rfl (by kernel_rfl) (by decide) (by decide) (by decide) rfl
theorem T6_sz : T6.sz = 1 := rfl
theorem T6_pty : T6.pty = .int .u8 := rfl
/-- a struct -/
noncomputable def T7 : TI := ⟨true, [.int .i64, .int .i64, .bool, .int .u8], 0, [(0, 2), (1, 3), (2, 4), (3, 6)], 24, .struct (match Try.t7.desc with | .struct fs => fs | _ => #[])⟩
theorem T7_ok : TIok Try.prog 7 T7 := tiok_mk (i := Try.t7) Try.underlying7 Try.type7 rfl rfl rfl rfl rfl rfl (by kernel_rfl) (by decide) (by decide) (by decide) rfl
theorem T7_sz : T7.sz = 4 := rfl
theorem T7_pty : T7.pty = .agg [.int .i64, .int .i64, .bool, .int .u8] := rfl
/-- runtime.boundsError -/
noncomputable def T8 : TI := ⟨true, [.int .i64, .int .i64, .bool, .int .u8], 0, [(0, 2), (1, 3), (2, 4), (3, 6)], 24, .struct (match Try.t7.desc with | .struct fs => fs | _ => #[])⟩
theorem T8_ok : TIok Try.prog 8 T8 := tiok_mk (i := Try.t8) Try.underlying8 Try.type8 rfl rfl rfl rfl rfl rfl (by kernel_rfl) (by decide) (by decide) (by decide) rfl
theorem T8_sz : T8.sz = 4 := rfl
theorem T8_pty : T8.pty = .agg [.int .i64, .int .i64, .bool, .int .u8] := rfl
/-- string -/
noncomputable def T9 : TI := ⟨false, [.str], 0, [], 16, .string⟩
theorem T9_ok : TIok Try.prog 9 T9 := tiok_mk (i := Try.t9) Try.underlying9 Try.type9 rfl rfl rfl rfl rfl rfl (by kernel_rfl) (by decide) (by decide) (by decide) rfl
theorem T9_sz : T9.sz = 1 := rfl
theorem T9_pty : T9.pty = .str := rfl
/-- runtime.errorString -/
noncomputable def T10 : TI := ⟨false, [.str], 0, [], 16, .string⟩
theorem T10_ok : TIok Try.prog 10 T10 := tiok_mk (i := Try.t10) Try.underlying10 Try.type10 rfl rfl rfl rfl rfl rfl (by kernel_rfl) (by decide) (by decide) (by decide) rfl
theorem T10_sz : T10.sz = 1 := rfl
theorem T10_pty : T10.pty = .str := rfl
/-- runtime.plainError -/
noncomputable def T11 : TI := ⟨false, [.str], 0, [], 16, .string⟩
theorem T11_ok : TIok Try.prog 11 T11 := tiok_mk (i := Try.t11) Try.underlying11 Try.type11 rfl rfl rfl rfl rfl rfl (by kernel_rfl) (by decide) (by decide) (by decide) rfl
theorem T11_sz : T11.sz = 1 := rfl
theorem T11_pty : T11.pty = .str := rfl
/-- uintptr -/
noncomputable def T12 : TI := ⟨false, [.int .u64], 0, [], 8, .int .u64⟩
theorem T12_ok : TIok Try.prog 12 T12 := tiok_mk (i := Try.t12) Try.underlying12 Try.type12 rfl rfl rfl rfl rfl rfl (by kernel_rfl) (by decide) (by decide) (by decide) rfl
theorem T12_sz : T12.sz = 1 := rfl
theorem T12_pty : T12.pty = .int .u64 := rfl
/-- a struct -/
noncomputable def T13 : TI := ⟨true, [.str, .int .u64], 0, [(0, 9), (1, 12)], 24, .struct (match Try.t13.desc with | .struct fs => fs | _ => #[])⟩
theorem T13_ok : TIok Try.prog 13 T13 := tiok_mk (i := Try.t13) Try.underlying13 Try.type13 rfl rfl rfl rfl rfl rfl (by kernel_rfl) (by decide) (by decide) (by decide) rfl
theorem T13_sz : T13.sz = 2 := rfl
theorem T13_pty : T13.pty = .agg [.str, .int .u64] := rfl
/-- runtime.errorAddressString -/
noncomputable def T14 : TI := ⟨true, [.str, .int .u64], 0, [(0, 9), (1, 12)], 24, .struct (match Try.t13.desc with | .struct fs => fs | _ => #[])⟩
theorem T14_ok : TIok Try.prog 14 T14 := tiok_mk (i := Try.t14) Try.underlying14 Try.type14 rfl rfl rfl rfl rfl rfl (by kernel_rfl) (by decide) (by decide) (by decide) rfl
theorem T14_sz : T14.sz = 2 := rfl
theorem T14_pty : T14.pty = .agg [.str, .int .u64] := rfl
/-- *runtime.TypeAssertionError -/
noncomputable def T15 : TI := ⟨false, [.opq], 0, [], 8, .pointer 226⟩
theorem T15_ok : TIok Try.prog 15 T15 := tiok_mk (i := Try.t15) Try.underlying15 Try.type15 rfl rfl rfl rfl rfl rfl (by kernel_rfl) (by decide) (by decide) (by decide) rfl
theorem T15_sz : T15.sz = 1 := rfl
theorem T15_pty : T15.pty = .opq := rfl
/-- *runtime.PanicNilError -/
noncomputable def T16 : TI := ⟨false, [.opq], 0, [], 8, .pointer 229⟩
theorem T16_ok : TIok Try.prog 16 T16 := tiok_mk (i := Try.t16) Try.underlying16 Try.type16 rfl rfl rfl rfl rfl rfl (by kernel_rfl) (by decide) (by decide) (by decide) rfl
theorem T16_sz : T16.sz = 1 := rfl
theorem T16_pty : T16.pty = .opq := rfl
/-- *abi.Type -/
noncomputable def T17 : TI := ⟨false, [.opq], 0, [], 8, .pointer 236⟩
theorem T17_ok : TIok Try.prog 17 T17 := tiok_mk (i := Try.t17) Try.underlying17 Try.type17 rfl rfl rfl rfl rfl rfl (by kernel_rfl) (by decide) (by decide) (by decide) rfl
theorem T17_sz : T17.sz = 1 := rfl
theorem T17_pty : T17.pty = .opq := rfl
/-- a struct -/
noncomputable def T18 : TI := ⟨true, [.opq], 0, [(0, 17)], 8, .struct (match Try.t18.desc with | .struct fs => fs | _ => #[])⟩
theorem T18_ok : TIok Try.prog 18 T18 := tiok_mk (i := Try.t18) Try.underlying18 Try.type18 rfl rfl rfl rfl rfl rfl (by kernel_rfl) (by decide) (by decide) (by decide) rfl
theorem T18_sz : T18.sz = 1 := rfl
theorem T18_pty : T18.pty = .agg [.opq] := rfl
/-- maps.unhashableTypeError -/
noncomputable def T19 : TI := ⟨true, [.opq], 0, [(0, 17)], 8, .struct (match Try.t18.desc with | .struct fs => fs | _ => #[])⟩
theorem T19_ok : TIok Try.prog 19 T19 := tiok_mk (i := Try.t19) Try.underlying19 Try.type19 rfl rfl rfl rfl rfl rfl (by kernel_rfl) (by decide) (by decide) (by decide) rfl
theorem T19_sz : T19.sz = 1 := rfl
theorem T19_pty : T19.pty = .agg [.opq] := rfl
/-- int32 -/
noncomputable def T21 : TI := ⟨false, [.int .i32], 0, [], 4, .int .i32⟩
theorem T21_ok : TIok Try.prog 21 T21 := tiok_mk (i := Try.t21) Try.underlying21 Try.type21 rfl rfl rfl rfl rfl rfl (by kernel_rfl) (by decide) (by decide) (by decide) rfl
theorem T21_sz : T21.sz = 1 := rfl
theorem T21_pty : T21.pty = .int .i32 := rfl
/-- []uint8 -/
noncomputable def T22 : TI := ⟨false, [.list (.int .u8)], 5, [], 24, .slice 5⟩
theorem T22_ok : TIok Try.prog 22 T22 := tiok_mk (i := Try.t22) Try.underlying22 Try.type22 rfl rfl rfl rfl rfl rfl (by kernel_rfl) (by decide) (by decide) (by decide) rfl
theorem T22_sz : T22.sz = 1 := rfl
theorem T22_pty : T22.pty = .list (.int .u8) := rfl
/-- []impl.Row -/
noncomputable def T23 : TI := ⟨false, [.list (.agg [.int .i64, .str])], 105, [], 24, .slice 105⟩
theorem T23_ok : TIok Try.prog 23 T23 := tiok_mk (i := Try.t23) Try.underlying23 Try.type23 rfl rfl rfl rfl rfl rfl (by kernel_rfl) (by decide) (by decide) (by decide) rfl
theorem T23_sz : T23.sz = 1 := rfl
theorem T23_pty : T23.pty = .list (.agg [.int .i64, .str]) := rfl
/-- a struct -/
noncomputable def T24 : TI := ⟨true, [.int .i64, .int .i64, .bool, .int .i64, .int .i64, .list (.agg [.int .i64, .str])], 0, [(0, 3), (1, 3), (2, 4), (3, 3), (4, 3), (5, 23)], 64, .struct (match Try.t24.desc with | .struct fs => fs | _ => #[])⟩
theorem T24_ok : TIok Try.prog 24 T24 := tiok_mk (i := Try.t24) Try.underlying24 Try.type24 rfl rfl rfl rfl rfl rfl (by kernel_rfl) (by decide) (by decide) (by decide) rfl
theorem T24_sz : T24.sz = 6 := rfl
theorem T24_pty : T24.pty = .agg [.int .i64, .int .i64, .bool, .int .i64, .int .i64, .list (.agg [.int .i64, .str])] := rfl
/-- impl.View -/
noncomputable def T25 : TI := ⟨true, [.int .i64, .int .i64, .bool, .int .i64, .int .i64, .list (.agg [.int .i64, .str])], 0, [(0, 3), (1, 3), (2, 4), (3, 3), (4, 3), (5, 23)], 64, .struct (match Try.t24.desc with | .struct fs => fs | _ => #[])⟩
theorem T25_ok : TIok Try.prog 25 T25 := tiok_mk (i := Try.t25) Try.underlying25 Try.type25 rfl rfl rfl rfl rfl rfl (by kernel_rfl) (by decide) (by decide) (by decide) rfl
theorem T25_sz : T25.sz = 6 := rfl
theorem T25_pty : T25.pty = .agg [.int .i64, .int .i64, .bool, .int .i64, .int .i64, .list (.agg [.int .i64, .str])] := rfl
/-- []laws.Entry -/
noncomputable def T34 : TI := ⟨false, [.list (.agg [.int .i64, .str])], 119, [], 24, .slice 119⟩
theorem T34_ok : TIok Try.prog 34 T34 := tiok_mk (i := Try.t34) Try.underlying34 Try.type34 rfl rfl rfl rfl rfl rfl (by kernel_rfl) (by decide) (by decide) (by decide) rfl
theorem T34_sz : T34.sz = 1 := rfl
theorem T34_pty : T34.pty = .list (.agg [.int .i64, .str]) := rfl
/-- []int -/
noncomputable def T35 : TI := ⟨false, [.list (.int .i64)], 3, [], 24, .slice 3⟩
theorem T35_ok : TIok Try.prog 35 T35 := tiok_mk (i := Try.t35) Try.underlying35 Try.type35 rfl rfl rfl rfl rfl rfl (by kernel_rfl) (by decide) (by decide) (by decide) rfl
theorem T35_sz : T35.sz = 1 := rfl
theorem T35_pty : T35.pty = .list (.int .i64) := rfl
/-- a struct -/
noncomputable def T36 : TI := ⟨true, [.int .i64, .int .i64, .int .i64, .int .i64, .int .i64, .bool, .list (.agg [.int .i64, .str]), .int .i64, .int .i64, .int .i64, .list (.int .i64), .list (.int .i64), .list (.int .i64)], 0, [(0, 3), (1, 3), (2, 3), (3, 3), (4, 3), (5, 4), (6, 34), (7, 3), (8, 3), (9, 3), (10, 35), (11, 35), (12, 35)], 168, .struct (match Try.t36.desc with | .struct fs => fs | _ => #[])⟩
theorem T36_ok : TIok Try.prog 36 T36 := tiok_mk (i := Try.t36) Try.underlying36 Try.type36 rfl rfl rfl rfl rfl rfl (by kernel_rfl) (by decide) (by decide) (by decide) rfl
theorem T36_sz : T36.sz = 13 := rfl
theorem T36_pty : T36.pty = .agg [.int .i64, .int .i64, .int .i64, .int .i64, .int .i64, .bool, .list (.agg [.int .i64, .str]), .int .i64, .int .i64, .int .i64, .list (.int .i64), .list (.int .i64), .list (.int .i64)] := rfl
/-- laws.Node -/
noncomputable def T37 : TI := ⟨true, [.int .i64, .int .i64, .int .i64, .int .i64, .int .i64, .bool, .list (.agg [.int .i64, .str]), .int .i64, .int .i64, .int .i64, .list (.int .i64), .list (.int .i64), .list (.int .i64)], 0, [(0, 3), (1, 3), (2, 3), (3, 3), (4, 3), (5, 4), (6, 34), (7, 3), (8, 3), (9, 3), (10, 35), (11, 35), (12, 35)], 168, .struct (match Try.t36.desc with | .struct fs => fs | _ => #[])⟩
theorem T37_ok : TIok Try.prog 37 T37 := tiok_mk (i := Try.t37) Try.underlying37 Try.type37 rfl rfl rfl rfl rfl rfl (by kernel_rfl) (by decide) (by decide) (by decide) rfl
theorem T37_sz : T37.sz = 13 := rfl
theorem T37_pty : T37.pty = .agg [.int .i64, .int .i64, .int .i64, .int .i64, .int .i64, .bool, .list (.agg [.int .i64, .str]), .int .i64, .int .i64, .int .i64, .list (.int .i64), .list (.int .i64), .list (.int .i64)] := rfl
/-- []impl.Entry -/
noncomputable def T39 : TI := ⟨false, [.list (.agg [.int .i64, .str])], 128, [], 24, .slice 128⟩
theorem T39_ok : TIok Try.prog 39 T39 := tiok_mk (i := Try.t39) Try.underlying39 Try.type39 rfl rfl rfl rfl rfl rfl (by kernel_rfl) (by decide) (by decide) (by decide) rfl
theorem T39_sz : T39.sz = 1 := rfl
theorem T39_pty : T39.pty = .list (.agg [.int .i64, .str]) := rfl
/-- a struct -/
noncomputable def T40 : TI := ⟨true, [.int .i64, .int .i64, .int .i64, .int .i64, .int .i64, .bool, .list (.agg [.int .i64, .str]), .int .i64, .int .i64, .int .i64, .list (.int .i64), .list (.int .i64), .list (.int .i64)], 0, [(0, 3), (1, 3), (2, 3), (3, 3), (4, 3), (5, 4), (6, 39), (7, 3), (8, 3), (9, 3), (10, 35), (11, 35), (12, 35)], 168, .struct (match Try.t40.desc with | .struct fs => fs | _ => #[])⟩
theorem T40_ok : TIok Try.prog 40 T40 := tiok_mk (i := Try.t40) Try.underlying40 Try.type40 rfl rfl rfl rfl rfl rfl (by kernel_rfl) (by decide) (by decide) (by decide) rfl
theorem T40_sz : T40.sz = 13 := rfl
theorem T40_pty : T40.pty = .agg [.int .i64, .int .i64, .int .i64, .int .i64, .int .i64, .bool, .list (.agg [.int .i64, .str]), .int .i64, .int .i64, .int .i64, .list (.int .i64), .list (.int .i64), .list (.int .i64)] := rfl
/-- impl.Node -/
noncomputable def T41 : TI := ⟨true, [.int .i64, .int .i64, .int .i64, .int .i64, .int .i64, .bool, .list (.agg [.int .i64, .str]), .int .i64, .int .i64, .int .i64, .list (.int .i64), .list (.int .i64), .list (.int .i64)], 0, [(0, 3), (1, 3), (2, 3), (3, 3), (4, 3), (5, 4), (6, 39), (7, 3), (8, 3), (9, 3), (10, 35), (11, 35), (12, 35)], 168, .struct (match Try.t40.desc with | .struct fs => fs | _ => #[])⟩
theorem T41_ok : TIok Try.prog 41 T41 := tiok_mk (i := Try.t41) Try.underlying41 Try.type41 rfl rfl rfl rfl rfl rfl (by kernel_rfl) (by decide) (by decide) (by decide) rfl
theorem T41_sz : T41.sz = 13 := rfl
theorem T41_pty : T41.pty = .agg [.int .i64, .int .i64, .int .i64, .int .i64, .int .i64, .bool, .list (.agg [.int .i64, .str]), .int .i64, .int .i64, .int .i64, .list (.int .i64), .list (.int .i64), .list (.int .i64)] := rfl
/-- []impl.Message -/
noncomputable def T42 : TI := ⟨false, [.list (.agg [.int .i64, .int .i64, .int .i64, .int .i64, .int .i64, .int .i64, .int .i64, .bool, .list (.agg [.int .i64, .str])])], 54, [], 24, .slice 54⟩
theorem T42_ok : TIok Try.prog 42 T42 := tiok_mk (i := Try.t42) Try.underlying42 Try.type42 rfl rfl rfl rfl rfl rfl (by kernel_rfl) (by decide) (by decide) (by decide) rfl
theorem T42_sz : T42.sz = 1 := rfl
theorem T42_pty : T42.pty = .list (.agg [.int .i64, .int .i64, .int .i64, .int .i64, .int .i64, .int .i64, .int .i64, .bool, .list (.agg [.int .i64, .str])]) := rfl
/-- a struct -/
noncomputable def T53 : TI := ⟨true, [.int .i64, .int .i64, .int .i64, .int .i64, .int .i64, .int .i64, .int .i64, .bool, .list (.agg [.int .i64, .str])], 0, [(0, 3), (1, 3), (2, 3), (3, 3), (4, 3), (5, 3), (6, 3), (7, 4), (8, 39)], 88, .struct (match Try.t53.desc with | .struct fs => fs | _ => #[])⟩
theorem T53_ok : TIok Try.prog 53 T53 := tiok_mk (i := Try.t53) Try.underlying53 Try.type53 rfl rfl rfl rfl rfl rfl (by kernel_rfl) (by decide) (by decide) (by decide) rfl
theorem T53_sz : T53.sz = 9 := rfl
theorem T53_pty : T53.pty = .agg [.int .i64, .int .i64, .int .i64, .int .i64, .int .i64, .int .i64, .int .i64, .bool, .list (.agg [.int .i64, .str])] := rfl
/-- impl.Message -/
noncomputable def T54 : TI := ⟨true, [.int .i64, .int .i64, .int .i64, .int .i64, .int .i64, .int .i64, .int .i64, .bool, .list (.agg [.int .i64, .str])], 0, [(0, 3), (1, 3), (2, 3), (3, 3), (4, 3), (5, 3), (6, 3), (7, 4), (8, 39)], 88, .struct (match Try.t53.desc with | .struct fs => fs | _ => #[])⟩
theorem T54_ok : TIok Try.prog 54 T54 := tiok_mk (i := Try.t54) Try.underlying54 Try.type54 rfl rfl rfl rfl rfl rfl (by kernel_rfl) (by decide) (by decide) (by decide) rfl
theorem T54_sz : T54.sz = 9 := rfl
theorem T54_pty : T54.pty = .agg [.int .i64, .int .i64, .int .i64, .int .i64, .int .i64, .int .i64, .int .i64, .bool, .list (.agg [.int .i64, .str])] := rfl
/-- []string -/
noncomputable def T59 : TI := ⟨false, [.list (.str)], 9, [], 24, .slice 9⟩
theorem T59_ok : TIok Try.prog 59 T59 := tiok_mk (i := Try.t59) Try.underlying59 Try.type59 rfl rfl rfl rfl rfl rfl (by kernel_rfl) (by decide) (by decide) (by decide) rfl
theorem T59_sz : T59.sz = 1 := rfl
theorem T59_pty : T59.pty = .list (.str) := rfl
/-- a struct -/
noncomputable def T69 : TI := ⟨true, [.int .i64, .int .i64, .int .i64, .int .i64, .int .i64, .int .i64, .int .i64, .bool, .list (.agg [.int .i64, .str])], 0, [(0, 3), (1, 3), (2, 3), (3, 3), (4, 3), (5, 3), (6, 3), (7, 4), (8, 34)], 88, .struct (match Try.t69.desc with | .struct fs => fs | _ => #[])⟩
theorem T69_ok : TIok Try.prog 69 T69 := tiok_mk (i := Try.t69) Try.underlying69 Try.type69 rfl rfl rfl rfl rfl rfl (by kernel_rfl) (by decide) (by decide) (by decide) rfl
theorem T69_sz : T69.sz = 9 := rfl
theorem T69_pty : T69.pty = .agg [.int .i64, .int .i64, .int .i64, .int .i64, .int .i64, .int .i64, .int .i64, .bool, .list (.agg [.int .i64, .str])] := rfl
/-- laws.Message -/
noncomputable def T70 : TI := ⟨true, [.int .i64, .int .i64, .int .i64, .int .i64, .int .i64, .int .i64, .int .i64, .bool, .list (.agg [.int .i64, .str])], 0, [(0, 3), (1, 3), (2, 3), (3, 3), (4, 3), (5, 3), (6, 3), (7, 4), (8, 34)], 88, .struct (match Try.t69.desc with | .struct fs => fs | _ => #[])⟩
theorem T70_ok : TIok Try.prog 70 T70 := tiok_mk (i := Try.t70) Try.underlying70 Try.type70 rfl rfl rfl rfl rfl rfl (by kernel_rfl) (by decide) (by decide) (by decide) rfl
theorem T70_sz : T70.sz = 9 := rfl
theorem T70_pty : T70.pty = .agg [.int .i64, .int .i64, .int .i64, .int .i64, .int .i64, .int .i64, .int .i64, .bool, .list (.agg [.int .i64, .str])] := rfl
/-- *spec.l00Src -/
noncomputable def T93 : TI := ⟨false, [.opq], 0, [], 8, .pointer 137⟩
theorem T93_ok : TIok Try.prog 93 T93 := tiok_mk (i := Try.t93) Try.underlying93 Try.type93 rfl rfl rfl rfl rfl rfl (by kernel_rfl) (by decide) (by decide) (by decide) rfl
theorem T93_sz : T93.sz = 1 := rfl
theorem T93_pty : T93.pty = .opq := rfl
/-- a struct -/
noncomputable def T104 : TI := ⟨true, [.int .i64, .str], 0, [(0, 3), (1, 9)], 24, .struct (match Try.t104.desc with | .struct fs => fs | _ => #[])⟩
theorem T104_ok : TIok Try.prog 104 T104 := tiok_mk (i := Try.t104) Try.underlying104 Try.type104 rfl rfl rfl rfl rfl rfl (by kernel_rfl) (by decide) (by decide) (by decide) rfl
theorem T104_sz : T104.sz = 2 := rfl
theorem T104_pty : T104.pty = .agg [.int .i64, .str] := rfl
/-- impl.Row -/
noncomputable def T105 : TI := ⟨true, [.int .i64, .str], 0, [(0, 3), (1, 9)], 24, .struct (match Try.t104.desc with | .struct fs => fs | _ => #[])⟩
theorem T105_ok : TIok Try.prog 105 T105 := tiok_mk (i := Try.t105) Try.underlying105 Try.type105 rfl rfl rfl rfl rfl rfl (by kernel_rfl) (by decide) (by decide) (by decide) rfl
theorem T105_sz : T105.sz = 2 := rfl
theorem T105_pty : T105.pty = .agg [.int .i64, .str] := rfl
/-- a struct -/
noncomputable def T118 : TI := ⟨true, [.int .i64, .str], 0, [(0, 3), (1, 9)], 24, .struct (match Try.t118.desc with | .struct fs => fs | _ => #[])⟩
theorem T118_ok : TIok Try.prog 118 T118 := tiok_mk (i := Try.t118) Try.underlying118 Try.type118 rfl rfl rfl rfl rfl rfl (by kernel_rfl) (by decide) (by decide) (by decide) rfl
theorem T118_sz : T118.sz = 2 := rfl
theorem T118_pty : T118.pty = .agg [.int .i64, .str] := rfl
/-- laws.Entry -/
noncomputable def T119 : TI := ⟨true, [.int .i64, .str], 0, [(0, 3), (1, 9)], 24, .struct (match Try.t118.desc with | .struct fs => fs | _ => #[])⟩
theorem T119_ok : TIok Try.prog 119 T119 := tiok_mk (i := Try.t119) Try.underlying119 Try.type119 rfl rfl rfl rfl rfl rfl (by kernel_rfl) (by decide) (by decide) (by decide) rfl
theorem T119_sz : T119.sz = 2 := rfl
theorem T119_pty : T119.pty = .agg [.int .i64, .str] := rfl
/-- a struct -/
noncomputable def T121 : TI := ⟨true, [.int .i64, .int .i64, .list (.agg [.int .i64, .str])], 0, [(0, 3), (1, 3), (2, 39)], 40, .struct (match Try.t121.desc with | .struct fs => fs | _ => #[])⟩
theorem T121_ok : TIok Try.prog 121 T121 := tiok_mk (i := Try.t121) Try.underlying121 Try.type121 rfl rfl rfl rfl rfl rfl (by kernel_rfl) (by decide) (by decide) (by decide) rfl
theorem T121_sz : T121.sz = 3 := rfl
theorem T121_pty : T121.pty = .agg [.int .i64, .int .i64, .list (.agg [.int .i64, .str])] := rfl
/-- impl.State -/
noncomputable def T122 : TI := ⟨true, [.int .i64, .int .i64, .list (.agg [.int .i64, .str])], 0, [(0, 3), (1, 3), (2, 39)], 40, .struct (match Try.t121.desc with | .struct fs => fs | _ => #[])⟩
theorem T122_ok : TIok Try.prog 122 T122 := tiok_mk (i := Try.t122) Try.underlying122 Try.type122 rfl rfl rfl rfl rfl rfl (by kernel_rfl) (by decide) (by decide) (by decide) rfl
theorem T122_sz : T122.sz = 3 := rfl
theorem T122_pty : T122.pty = .agg [.int .i64, .int .i64, .list (.agg [.int .i64, .str])] := rfl
/-- *spec.l08Run -/
noncomputable def T124 : TI := ⟨false, [.opq], 0, [], 8, .pointer 126⟩
theorem T124_ok : TIok Try.prog 124 T124 := tiok_mk (i := Try.t124) Try.underlying124 Try.type124 rfl rfl rfl rfl rfl rfl (by kernel_rfl) (by decide) (by decide) (by decide) rfl
theorem T124_sz : T124.sz = 1 := rfl
theorem T124_pty : T124.pty = .opq := rfl
/-- a struct -/
noncomputable def T125 : TI := ⟨true, [.int .i64, .int .i64, .int .i64, .int .i64, .int .i64, .bool, .list (.agg [.int .i64, .str]), .int .i64, .int .i64, .int .i64, .list (.int .i64), .list (.int .i64), .list (.int .i64), .list (.agg [.int .i64, .int .i64, .int .i64, .int .i64, .int .i64, .int .i64, .int .i64, .bool, .list (.agg [.int .i64, .str])])], 0, [(0, 41), (13, 42)], 192, .struct (match Try.t125.desc with | .struct fs => fs | _ => #[])⟩
theorem T125_ok : TIok Try.prog 125 T125 := tiok_mk (i := Try.t125) Try.underlying125 Try.type125 rfl rfl rfl rfl rfl rfl (by kernel_rfl) (by decide) (by decide) (by decide) rfl
theorem T125_sz : T125.sz = 14 := rfl
theorem T125_pty : T125.pty = .agg [.int .i64, .int .i64, .int .i64, .int .i64, .int .i64, .bool, .list (.agg [.int .i64, .str]), .int .i64, .int .i64, .int .i64, .list (.int .i64), .list (.int .i64), .list (.int .i64), .list (.agg [.int .i64, .int .i64, .int .i64, .int .i64, .int .i64, .int .i64, .int .i64, .bool, .list (.agg [.int .i64, .str])])] := rfl
/-- spec.l08Run -/
noncomputable def T126 : TI := ⟨true, [.int .i64, .int .i64, .int .i64, .int .i64, .int .i64, .bool, .list (.agg [.int .i64, .str]), .int .i64, .int .i64, .int .i64, .list (.int .i64), .list (.int .i64), .list (.int .i64), .list (.agg [.int .i64, .int .i64, .int .i64, .int .i64, .int .i64, .int .i64, .int .i64, .bool, .list (.agg [.int .i64, .str])])], 0, [(0, 41), (13, 42)], 192, .struct (match Try.t125.desc with | .struct fs => fs | _ => #[])⟩
theorem T126_ok : TIok Try.prog 126 T126 := tiok_mk (i := Try.t126) Try.underlying126 Try.type126 rfl rfl rfl rfl rfl rfl (by kernel_rfl) (by decide) (by decide) (by decide) rfl
theorem T126_sz : T126.sz = 14 := rfl
theorem T126_pty : T126.pty = .agg [.int .i64, .int .i64, .int .i64, .int .i64, .int .i64, .bool, .list (.agg [.int .i64, .str]), .int .i64, .int .i64, .int .i64, .list (.int .i64), .list (.int .i64), .list (.int .i64), .list (.agg [.int .i64, .int .i64, .int .i64, .int .i64, .int .i64, .int .i64, .int .i64, .bool, .list (.agg [.int .i64, .str])])] := rfl
/-- impl.Entry -/
noncomputable def T128 : TI := ⟨true, [.int .i64, .str], 0, [(0, 3), (1, 9)], 24, .struct (match Try.t118.desc with | .struct fs => fs | _ => #[])⟩
theorem T128_ok : TIok Try.prog 128 T128 := tiok_mk (i := Try.t128) Try.underlying128 Try.type128 rfl rfl rfl rfl rfl rfl (by kernel_rfl) (by decide) (by decide) (by decide) rfl
theorem T128_sz : T128.sz = 2 := rfl
theorem T128_pty : T128.pty = .agg [.int .i64, .str] := rfl
/-- *impl.Node -/
noncomputable def T131 : TI := ⟨false, [.opq], 0, [], 8, .pointer 41⟩
theorem T131_ok : TIok Try.prog 131 T131 := tiok_mk (i := Try.t131) Try.underlying131 Try.type131 rfl rfl rfl rfl rfl rfl (by kernel_rfl) (by decide) (by decide) (by decide) rfl
theorem T131_sz : T131.sz = 1 := rfl
theorem T131_pty : T131.pty = .opq := rfl
/-- a struct -/
noncomputable def T136 : TI := ⟨true, [.list (.int .u8), .int .i64, .int .i64], 0, [(0, 22), (1, 3), (2, 3)], 40, .struct (match Try.t136.desc with | .struct fs => fs | _ => #[])⟩
theorem T136_ok : TIok Try.prog 136 T136 := tiok_mk (i := Try.t136) Try.underlying136 Try.type136 rfl rfl rfl rfl rfl rfl (by kernel_rfl) (by decide) (by decide) (by decide) rfl
theorem T136_sz : T136.sz = 3 := rfl
theorem T136_pty : T136.pty = .agg [.list (.int .u8), .int .i64, .int .i64] := rfl
/-- spec.l00Src -/
noncomputable def T137 : TI := ⟨true, [.list (.int .u8), .int .i64, .int .i64], 0, [(0, 22), (1, 3), (2, 3)], 40, .struct (match Try.t136.desc with | .struct fs => fs | _ => #[])⟩
theorem T137_ok : TIok Try.prog 137 T137 := tiok_mk (i := Try.t137) Try.underlying137 Try.type137 rfl rfl rfl rfl rfl rfl (by kernel_rfl) (by decide) (by decide) (by decide) rfl
theorem T137_sz : T137.sz = 3 := rfl
theorem T137_pty : T137.pty = .agg [.list (.int .u8), .int .i64, .int .i64] := rfl
/-- []impl.Cell -/
noncomputable def T150 : TI := ⟨false, [.list (.agg [.int .i64, .int .i64])], 178, [], 24, .slice 178⟩
theorem T150_ok : TIok Try.prog 150 T150 := tiok_mk (i := Try.t150) Try.underlying150 Try.type150 rfl rfl rfl rfl rfl rfl (by kernel_rfl) (by decide) (by decide) (by decide) rfl
theorem T150_sz : T150.sz = 1 := rfl
theorem T150_pty : T150.pty = .list (.agg [.int .i64, .int .i64]) := rfl
/-- a struct -/
noncomputable def T151 : TI := ⟨true, [.int .i64, .int .i64, .int .i64, .int .i64, .int .i64, .int .i64, .int .i64, .int .i64, .int .i64, .str, .list (.agg [.int .i64, .int .i64]), .list (.str)], 0, [(0, 3), (1, 3), (2, 3), (3, 3), (4, 3), (5, 3), (6, 3), (7, 3), (8, 3), (9, 9), (10, 150), (11, 59)], 136, .struct (match Try.t151.desc with | .struct fs => fs | _ => #[])⟩
theorem T151_ok : TIok Try.prog 151 T151 := tiok_mk (i := Try.t151) Try.underlying151 Try.type151 rfl rfl rfl rfl rfl rfl (by kernel_rfl) (by decide) (by decide) (by decide) rfl
theorem T151_sz : T151.sz = 12 := rfl
theorem T151_pty : T151.pty = .agg [.int .i64, .int .i64, .int .i64, .int .i64, .int .i64, .int .i64, .int .i64, .int .i64, .int .i64, .str, .list (.agg [.int .i64, .int .i64]), .list (.str)] := rfl
/-- impl.Screen -/
noncomputable def T152 : TI := ⟨true, [.int .i64, .int .i64, .int .i64, .int .i64, .int .i64, .int .i64, .int .i64, .int .i64, .int .i64, .str, .list (.agg [.int .i64, .int .i64]), .list (.str)], 0, [(0, 3), (1, 3), (2, 3), (3, 3), (4, 3), (5, 3), (6, 3), (7, 3), (8, 3), (9, 9), (10, 150), (11, 59)], 136, .struct (match Try.t151.desc with | .struct fs => fs | _ => #[])⟩
theorem T152_ok : TIok Try.prog 152 T152 := tiok_mk (i := Try.t152) Try.underlying152 Try.type152 rfl rfl rfl rfl rfl rfl (by kernel_rfl) (by decide) (by decide) (by decide) rfl
theorem T152_sz : T152.sz = 12 := rfl
theorem T152_pty : T152.pty = .agg [.int .i64, .int .i64, .int .i64, .int .i64, .int .i64, .int .i64, .int .i64, .int .i64, .int .i64, .str, .list (.agg [.int .i64, .int .i64]), .list (.str)] := rfl
/-- a struct -/
noncomputable def T154 : TI := ⟨true, [.int .i64, .list (.int .i64), .bool, .str, .str], 0, [(0, 3), (1, 35), (2, 4), (3, 9), (4, 9)], 72, .struct (match Try.t154.desc with | .struct fs => fs | _ => #[])⟩
theorem T154_ok : TIok Try.prog 154 T154 := tiok_mk (i := Try.t154) Try.underlying154 Try.type154 rfl rfl rfl rfl rfl rfl (by kernel_rfl) (by decide) (by decide) (by decide) rfl
theorem T154_sz : T154.sz = 5 := rfl
theorem T154_pty : T154.pty = .agg [.int .i64, .list (.int .i64), .bool, .str, .str] := rfl
/-- impl.Parser -/
noncomputable def T155 : TI := ⟨true, [.int .i64, .list (.int .i64), .bool, .str, .str], 0, [(0, 3), (1, 35), (2, 4), (3, 9), (4, 9)], 72, .struct (match Try.t154.desc with | .struct fs => fs | _ => #[])⟩
theorem T155_ok : TIok Try.prog 155 T155 := tiok_mk (i := Try.t155) Try.underlying155 Try.type155 rfl rfl rfl rfl rfl rfl (by kernel_rfl) (by decide) (by decide) (by decide) rfl
theorem T155_sz : T155.sz = 5 := rfl
theorem T155_pty : T155.pty = .agg [.int .i64, .list (.int .i64), .bool, .str, .str] := rfl
/-- uint -/
noncomputable def T174 : TI := ⟨false, [.int .u64], 0, [], 8, .int .u64⟩
theorem T174_ok : TIok Try.prog 174 T174 := tiok_mk (i := Try.t174) Try.underlying174 Try.type174 rfl rfl rfl rfl rfl rfl (by kernel_rfl) (by decide) (by decide) (by decide) rfl
theorem T174_sz : T174.sz = 1 := rfl
theorem T174_pty : T174.pty = .int .u64 := rfl
/-- a struct -/
noncomputable def T177 : TI := ⟨true, [.int .i64, .int .i64], 0, [(0, 3), (1, 3)], 16, .struct (match Try.t177.desc with | .struct fs => fs | _ => #[])⟩
theorem T177_ok : TIok Try.prog 177 T177 := tiok_mk (i := Try.t177) Try.underlying177 Try.type177 rfl rfl rfl rfl rfl rfl (by kernel_rfl) (by decide) (by decide) (by decide) rfl
theorem T177_sz : T177.sz = 2 := rfl
theorem T177_pty : T177.pty = .agg [.int .i64, .int .i64] := rfl
/-- impl.Cell -/
noncomputable def T178 : TI := ⟨true, [.int .i64, .int .i64], 0, [(0, 3), (1, 3)], 16, .struct (match Try.t177.desc with | .struct fs => fs | _ => #[])⟩
theorem T178_ok : TIok Try.prog 178 T178 := tiok_mk (i := Try.t178) Try.underlying178 Try.type178 rfl rfl rfl rfl rfl rfl (by kernel_rfl) (by decide) (by decide) (by decide) rfl
theorem T178_sz : T178.sz = 2 := rfl
theorem T178_pty : T178.pty = .agg [.int .i64, .int .i64] := rfl
/-- []impl.Action -/
noncomputable def T180 : TI := ⟨false, [.list (.agg [.int .i64, .int .i64, .bool, .list (.int .i64), .str])], 189, [], 24, .slice 189⟩
theorem T180_ok : TIok Try.prog 180 T180 := tiok_mk (i := Try.t180) Try.underlying180 Try.type180 rfl rfl rfl rfl rfl rfl (by kernel_rfl) (by decide) (by decide) (by decide) rfl
theorem T180_sz : T180.sz = 1 := rfl
theorem T180_pty : T180.pty = .list (.agg [.int .i64, .int .i64, .bool, .list (.int .i64), .str]) := rfl
/-- *spec.l04Run -/
noncomputable def T183 : TI := ⟨false, [.opq], 0, [], 8, .pointer 186⟩
theorem T183_ok : TIok Try.prog 183 T183 := tiok_mk (i := Try.t183) Try.underlying183 Try.type183 rfl rfl rfl rfl rfl rfl (by kernel_rfl) (by decide) (by decide) (by decide) rfl
theorem T183_sz : T183.sz = 1 := rfl
theorem T183_pty : T183.pty = .opq := rfl
/-- a struct -/
noncomputable def T185 : TI := ⟨true, [.int .i64, .int .i64, .int .i64, .int .i64, .int .i64, .int .i64, .int .i64, .int .i64, .int .i64, .str, .list (.agg [.int .i64, .int .i64]), .list (.str)], 0, [(0, 152)], 136, .struct (match Try.t185.desc with | .struct fs => fs | _ => #[])⟩
theorem T185_ok : TIok Try.prog 185 T185 := tiok_mk (i := Try.t185) Try.underlying185 Try.type185 rfl rfl rfl rfl rfl rfl (by kernel_rfl) (by decide) (by decide) (by decide) rfl
theorem T185_sz : T185.sz = 12 := rfl
theorem T185_pty : T185.pty = .agg [.int .i64, .int .i64, .int .i64, .int .i64, .int .i64, .int .i64, .int .i64, .int .i64, .int .i64, .str, .list (.agg [.int .i64, .int .i64]), .list (.str)] := rfl
/-- spec.l04Run -/
noncomputable def T186 : TI := ⟨true, [.int .i64, .int .i64, .int .i64, .int .i64, .int .i64, .int .i64, .int .i64, .int .i64, .int .i64, .str, .list (.agg [.int .i64, .int .i64]), .list (.str)], 0, [(0, 152)], 136, .struct (match Try.t185.desc with | .struct fs => fs | _ => #[])⟩
theorem T186_ok : TIok Try.prog 186 T186 := tiok_mk (i := Try.t186) Try.underlying186 Try.type186 rfl rfl rfl rfl rfl rfl (by kernel_rfl) (by decide) (by decide) (by decide) rfl
theorem T186_sz : T186.sz = 12 := rfl
theorem T186_pty : T186.pty = .agg [.int .i64, .int .i64, .int .i64, .int .i64, .int .i64, .int .i64, .int .i64, .int .i64, .int .i64, .str, .list (.agg [.int .i64, .int .i64]), .list (.str)] := rfl
/-- a struct -/
noncomputable def T188 : TI := ⟨true, [.int .i64, .int .i64, .bool, .list (.int .i64), .str], 0, [(0, 3), (1, 3), (2, 4), (3, 35), (4, 9)], 64, .struct (match Try.t188.desc with | .struct fs => fs | _ => #[])⟩
theorem T188_ok : TIok Try.prog 188 T188 := tiok_mk (i := Try.t188) Try.underlying188 Try.type188 rfl rfl rfl rfl rfl rfl (by kernel_rfl) (by decide) (by decide) (by decide) rfl
theorem T188_sz : T188.sz = 5 := rfl
theorem T188_pty : T188.pty = .agg [.int .i64, .int .i64, .bool, .list (.int .i64), .str] := rfl
/-- impl.Action -/
noncomputable def T189 : TI := ⟨true, [.int .i64, .int .i64, .bool, .list (.int .i64), .str], 0, [(0, 3), (1, 3), (2, 4), (3, 35), (4, 9)], 64, .struct (match Try.t188.desc with | .struct fs => fs | _ => #[])⟩
theorem T189_ok : TIok Try.prog 189 T189 := tiok_mk (i := Try.t189) Try.underlying189 Try.type189 rfl rfl rfl rfl rfl rfl (by kernel_rfl) (by decide) (by decide) (by decide) rfl
theorem T189_sz : T189.sz = 5 := rfl
theorem T189_pty : T189.pty = .agg [.int .i64, .int .i64, .bool, .list (.int .i64), .str] := rfl
/-- *spec.l03Run -/
noncomputable def T201 : TI := ⟨false, [.opq], 0, [], 8, .pointer 204⟩
theorem T201_ok : TIok Try.prog 201 T201 := tiok_mk (i := Try.t201) Try.underlying201 Try.type201 rfl rfl rfl rfl rfl rfl (by kernel_rfl) (by decide) (by decide) (by decide) rfl
theorem T201_sz : T201.sz = 1 := rfl
theorem T201_pty : T201.pty = .opq := rfl
/-- a struct -/
noncomputable def T203 : TI := ⟨true, [.int .i64, .list (.int .i64), .bool, .str, .str, .list (.agg [.int .i64, .int .i64, .bool, .list (.int .i64), .str])], 0, [(0, 155), (5, 180)], 96, .struct (match Try.t203.desc with | .struct fs => fs | _ => #[])⟩
theorem T203_ok : TIok Try.prog 203 T203 := tiok_mk (i := Try.t203) Try.underlying203 Try.type203 rfl rfl rfl rfl rfl rfl (by kernel_rfl) (by decide) (by decide) (by decide) rfl
theorem T203_sz : T203.sz = 6 := rfl
theorem T203_pty : T203.pty = .agg [.int .i64, .list (.int .i64), .bool, .str, .str, .list (.agg [.int .i64, .int .i64, .bool, .list (.int .i64), .str])] := rfl
/-- spec.l03Run -/
noncomputable def T204 : TI := ⟨true, [.int .i64, .list (.int .i64), .bool, .str, .str, .list (.agg [.int .i64, .int .i64, .bool, .list (.int .i64), .str])], 0, [(0, 155), (5, 180)], 96, .struct (match Try.t203.desc with | .struct fs => fs | _ => #[])⟩
theorem T204_ok : TIok Try.prog 204 T204 := tiok_mk (i := Try.t204) Try.underlying204 Try.type204 rfl rfl rfl rfl rfl rfl (by kernel_rfl) (by decide) (by decide) (by decide) rfl
theorem T204_sz : T204.sz = 6 := rfl
theorem T204_pty : T204.pty = .agg [.int .i64, .list (.int .i64), .bool, .str, .str, .list (.agg [.int .i64, .int .i64, .bool, .list (.int .i64), .str])] := rfl
/-- *uint8 -/
noncomputable def T205 : TI := ⟨false, [.opq], 0, [], 8, .pointer 5⟩
theorem T205_ok : TIok Try.prog 205 T205 := tiok_mk (i := Try.t205) Try.underlying205 Try.type205 rfl rfl rfl rfl rfl rfl (by kernel_rfl) (by decide) (by decide) (by decide) rfl
theorem T205_sz : T205.sz = 1 := rfl
theorem T205_pty : T205.pty = .opq := rfl
/-- *impl.Screen -/
noncomputable def T212 : TI := ⟨false, [.opq], 0, [], 8, .pointer 152⟩
theorem T212_ok : TIok Try.prog 212 T212 := tiok_mk (i := Try.t212) Try.underlying212 Try.type212 rfl rfl rfl rfl rfl rfl (by kernel_rfl) (by decide) (by decide) (by decide) rfl
theorem T212_sz : T212.sz = 1 := rfl
theorem T212_pty : T212.pty = .opq := rfl
/-- uint32 -/
noncomputable def T219 : TI := ⟨false, [.int .u32], 0, [], 4, .int .u32⟩
theorem T219_ok : TIok Try.prog 219 T219 := tiok_mk (i := Try.t219) Try.underlying219 Try.type219 rfl rfl rfl rfl rfl rfl (by kernel_rfl) (by decide) (by decide) (by decide) rfl
theorem T219_sz : T219.sz = 1 := rfl
theorem T219_pty : T219.pty = .int .u32 := rfl
/-- uint64 -/
noncomputable def T222 : TI := ⟨false, [.int .u64], 0, [], 8, .int .u64⟩
theorem T222_ok : TIok Try.prog 222 T222 := tiok_mk (i := Try.t222) Try.underlying222 Try.type222 rfl rfl rfl rfl rfl rfl (by kernel_rfl) (by decide) (by decide) (by decide) rfl
theorem T222_sz : T222.sz = 1 := rfl
theorem T222_pty : T222.pty = .int .u64 := rfl
/-- a struct -/
noncomputable def T225 : TI := ⟨true, [.opq, .opq, .opq, .str], 0, [(0, 17), (1, 17), (2, 17), (3, 9)], 40, .struct (match Try.t225.desc with | .struct fs => fs | _ => #[])⟩
theorem T225_ok : TIok Try.prog 225 T225 := tiok_mk (i := Try.t225) Try.underlying225 Try.type225 rfl rfl rfl rfl rfl rfl (by kernel_rfl) (by decide) (by decide) (by decide) rfl
theorem T225_sz : T225.sz = 4 := rfl
theorem T225_pty : T225.pty = .agg [.opq, .opq, .opq, .str] := rfl
/-- runtime.TypeAssertionError -/
noncomputable def T226 : TI := ⟨true, [.opq, .opq, .opq, .str], 0, [(0, 17), (1, 17), (2, 17), (3, 9)], 40, .struct (match Try.t225.desc with | .struct fs => fs | _ => #[])⟩
theorem T226_ok : TIok Try.prog 226 T226 := tiok_mk (i := Try.t226) Try.underlying226 Try.type226 rfl rfl rfl rfl rfl rfl (by kernel_rfl) (by decide) (by decide) (by decide) rfl
theorem T226_sz : T226.sz = 4 := rfl
theorem T226_pty : T226.pty = .agg [.opq, .opq, .opq, .str] := rfl
/-- abi.TFlag -/
noncomputable def T230 : TI := ⟨false, [.int .u8], 0, [], 1, .int .u8⟩
theorem T230_ok : TIok Try.prog 230 T230 := tiok_mk (i := Try.t230) Try.underlying230 Try.type230 rfl rfl rfl rfl rfl rfl (by kernel_rfl) (by decide) (by decide) (by decide) rfl
theorem T230_sz : T230.sz = 1 := rfl
theorem T230_pty : T230.pty = .int .u8 := rfl
/-- abi.Kind -/
noncomputable def T231 : TI := ⟨false, [.int .u8], 0, [], 1, .int .u8⟩
theorem T231_ok : TIok Try.prog 231 T231 := tiok_mk (i := Try.t231) Try.underlying231 Try.type231 rfl rfl rfl rfl rfl rfl (by kernel_rfl) (by decide) (by decide) (by decide) rfl
theorem T231_sz : T231.sz = 1 := rfl
theorem T231_pty : T231.pty = .int .u8 := rfl
/-- abi.NameOff -/
noncomputable def T233 : TI := ⟨false, [.int .i32], 0, [], 4, .int .i32⟩
theorem T233_ok : TIok Try.prog 233 T233 := tiok_mk (i := Try.t233) Try.underlying233 Try.type233 rfl rfl rfl rfl rfl rfl (by kernel_rfl) (by decide) (by decide) (by decide) rfl
theorem T233_sz : T233.sz = 1 := rfl
theorem T233_pty : T233.pty = .int .i32 := rfl
/-- abi.TypeOff -/
noncomputable def T234 : TI := ⟨false, [.int .i32], 0, [], 4, .int .i32⟩
theorem T234_ok : TIok Try.prog 234 T234 := tiok_mk (i := Try.t234) Try.underlying234 Try.type234 rfl rfl rfl rfl rfl rfl (by kernel_rfl) (by decide) (by decide) (by decide) rfl
theorem T234_sz : T234.sz = 1 := rfl
theorem T234_pty : T234.pty = .int .i32 := rfl
noncomputable def tyTab : List (Nat × TI) := [(2, T2), (3, T3), (4, T4), (5, T5), (6, T6), (7, T7), (8, T8), (9, T9), (10, T10), (11, T11), (12, T12), (13, T13), (14, T14), (15, T15), (16, T16), (17, T17), (18, T18), (19, T19), (21, T21), (22, T22), (23, T23), (24, T24), (25, T25), (34, T34), (35, T35), (36, T36), (37, T37), (39, T39), (40, T40), (41, T41), (42, T42), (53, T53), (54, T54), (59, T59), (69, T69), (70, T70), (93, T93), (104, T104), (105, T105), (118, T118), (119, T119), (121, T121), (122, T122), (124, T124), (125, T125), (126, T126), (128, T128), (131, T131), (136, T136), (137, T137), (150, T150), (151, T151), (152, T152), (154, T154), (155, T155), (174, T174), (177, T177), (178, T178), (180, T180), (183, T183), (185, T185), (186, T186), (188, T188), (189, T189), (201, T201), (203, T203), (204, T204), (205, T205), (212, T212), (219, T219), (222, T222), (225, T225), (226, T226), (230, T230), (231, T231), (233, T233), (234, T234)]
theorem ty2 : lk tyTab 2 = some T2 := rfl
theorem ty3 : lk tyTab 3 = some T3 := rfl
theorem ty4 : lk tyTab 4 = some T4 := rfl
theorem ty5 : lk tyTab 5 = some T5 := rfl
theorem ty6 : lk tyTab 6 = some T6 := rfl
theorem ty7 : lk tyTab 7 = some T7 := rfl
theorem ty8 : lk tyTab 8 = some T8 := rfl
theorem ty9 : lk tyTab 9 = some T9 := rfl
theorem ty10 : lk tyTab 10 = some T10 := rfl
theorem ty11 : lk tyTab 11 = some T11 := rfl
theorem ty12 : lk tyTab 12 = some T12 := rfl
theorem ty13 : lk tyTab 13 = some T13 := rfl
theorem ty14 : lk tyTab 14 = some T14 := rfl
theorem ty15 : lk tyTab 15 = some T15 := rfl
theorem ty16 : lk tyTab 16 = some T16 := rfl
theorem ty17 : lk tyTab 17 = some T17 := rfl
theorem ty18 : lk tyTab 18 = some T18 := rfl
theorem ty19 : lk tyTab 19 = some T19 := rfl
theorem ty21 : lk tyTab 21 = some T21 := rfl
theorem ty22 : lk tyTab 22 = some T22 := rfl
theorem ty23 : lk tyTab 23 = some T23 := rfl
theorem ty24 : lk tyTab 24 = some T24 := rfl
theorem ty25 : lk tyTab 25 = some T25 := rfl
theorem ty34 : lk tyTab 34 = some T34 := rfl
theorem ty35 : lk tyTab 35 = some T35 := rfl
theorem ty36 : lk tyTab 36 = some T36 := rfl
theorem ty37 : lk tyTab 37 = some T37 := rfl
theorem ty39 : lk tyTab 39 = some T39 := rfl
theorem ty40 : lk tyTab 40 = some T40 := rfl
theorem ty41 : lk tyTab 41 = some T41 := rfl
theorem ty42 : lk tyTab 42 = some T42 := rfl
theorem ty53 : lk tyTab 53 = some T53 := rfl
theorem ty54 : lk tyTab 54 = some T54 := rfl
theorem ty59 : lk tyTab 59 = some T59 := rfl
theorem ty69 : lk tyTab 69 = some T69 := rfl
theorem ty70 : lk tyTab 70 = some T70 := rfl
theorem ty93 : lk tyTab 93 = some T93 := rfl
theorem ty104 : lk tyTab 104 = some T104 := rfl
theorem ty105 : lk tyTab 105 = some T105 := rfl
theorem ty118 : lk tyTab 118 = some T118 := rfl
theorem ty119 : lk tyTab 119 = some T119 := rfl
theorem ty121 : lk tyTab 121 = some T121 := rfl
theorem ty122 : lk tyTab 122 = some T122 := rfl
theorem ty124 : lk tyTab 124 = some T124 := rfl
theorem ty125 : lk tyTab 125 = some T125 := rfl
theorem ty126 : lk tyTab 126 = some T126 := rfl
theorem ty128 : lk tyTab 128 = some T128 := rfl
theorem ty131 : lk tyTab 131 = some T131 := rfl
theorem ty136 : lk tyTab 136 = some T136 := rfl
theorem ty137 : lk tyTab 137 = some T137 := rfl
theorem ty150 : lk tyTab 150 = some T150 := rfl
theorem ty151 : lk tyTab 151 = some T151 := rfl
theorem ty152 : lk tyTab 152 = some T152 := rfl
theorem ty154 : lk tyTab 154 = some T154 := rfl
theorem ty155 : lk tyTab 155 = some T155 := rfl
theorem ty174 : lk tyTab 174 = some T174 := rfl
theorem ty177 : lk tyTab 177 = some T177 := rfl
theorem ty178 : lk tyTab 178 = some T178 := rfl
theorem ty180 : lk tyTab 180 = some T180 := rfl
theorem ty183 : lk tyTab 183 = some T183 := rfl
theorem ty185 : lk tyTab 185 = some T185 := rfl
theorem ty186 : lk tyTab 186 = some T186 := rfl
theorem ty188 : lk tyTab 188 = some T188 := rfl
theorem ty189 : lk tyTab 189 = some T189 := rfl
theorem ty201 : lk tyTab 201 = some T201 := rfl
theorem ty203 : lk tyTab 203 = some T203 := rfl
theorem ty204 : lk tyTab 204 = some T204 := rfl
theorem ty205 : lk tyTab 205 = some T205 := rfl
theorem ty212 : lk tyTab 212 = some T212 := rfl
theorem ty219 : lk tyTab 219 = some T219 := rfl
theorem ty222 : lk tyTab 222 = some T222 := rfl
theorem ty225 : lk tyTab 225 = some T225 := rfl
theorem ty226 : lk tyTab 226 = some T226 := rfl
theorem ty230 : lk tyTab 230 = some T230 := rfl
theorem ty231 : lk tyTab 231 = some T231 := rfl
theorem ty233 : lk tyTab 233 = some T233 := rfl
theorem ty234 : lk tyTab 234 = some T234 := rfl
theorem tyTab_ok (fns : List ((Nat × List Nat) × FSpec)) : EnvTy Try.prog ⟨tyTab, fns⟩ := by
  have key : ∀ l : List (Nat × TI), (∀ p ∈ l, TIok Try.prog p.1 p.2) → ∀ t ti, lk l t = some ti → TIok Try.prog t ti := by
    intro l
    induction l with
    | nil => intro _ t ti h; cases h
    | cons p l ih =>
      intro hl t ti h
      obtain ⟨i, x⟩ := p
      simp only [lk] at h
      split at h
      · rename_i e; subst e; cases h; exact hl (i, ti) (by simp)
      · exact ih (fun p hp => hl p (by simp [hp])) t ti h
  refine key tyTab ?_
  simp only [tyTab, List.mem_cons, List.not_mem_nil, or_false, forall_eq_or_imp, forall_eq]
  exact ⟨T2_ok, T3_ok, T4_ok, T5_ok, T6_ok, T7_ok, T8_ok, T9_ok, T10_ok, T11_ok, T12_ok, T13_ok, T14_ok, T15_ok, T16_ok, T17_ok, T18_ok, T19_ok, T21_ok, T22_ok, T23_ok, T24_ok, T25_ok, T34_ok, T35_ok, T36_ok, T37_ok, T39_ok, T40_ok, T41_ok, T42_ok, T53_ok, T54_ok, T59_ok, T69_ok, T70_ok, T93_ok, T104_ok, T105_ok, T118_ok, T119_ok, T121_ok, T122_ok, T124_ok, T125_ok, T126_ok, T128_ok, T131_ok, T136_ok, T137_ok, T150_ok, T151_ok, T152_ok, T154_ok, T155_ok, T174_ok, T177_ok, T178_ok, T180_ok, T183_ok, T185_ok, T186_ok, T188_ok, T189_ok, T201_ok, T203_ok, T204_ok, T205_ok, T212_ok, T219_ok, T222_ok, T225_ok, T226_ok, T230_ok, T231_ok, T233_ok, T234_ok⟩
theorem mixed : Try.prog.follows .mixedOrders = true := by kernel_rfl
attribute [simp] nth_fold nth_zero nth_succ pv_I pv_B pv_S pv_L pv_A pv_at lv_int lv_bool lv_str lv_list lv_agg PTy.leaves PTy.wd inR TI.sz TI.pty lk set1 memB anyB kill strike stillH unpath still prom proms dpB dpAll ndB isNil shOk takeIn takeOk St.slot ofConst1 ofConsts ofConst St.ev SV.cells SV.ofCells SV.leafB leafAll fixL zeroSV zeroSVs zeroLf zeroLfs zeroPV resL resLs resB resBs resT resTs resEs introL noP elP introV introVs packV binI binS imp evs closes findFn slsOf slsAll argLs argsLs pathOf rdHs1 rdHsL rdHs rdsHs rdOk lendOk backL backs ownersOf allRd soleMt firstP callRd callPt callOw callOwn callRes idxs oprs fillSV partsOk convRes viewE viewA pathE pathA sliceRes evO etaL storeEl loadEl flatL flatLs flatB leafD leafDs dataB ownO sameO isStruct aggOk leafAt srcOf joinB joinOk appRes copyTo copyRes builtinRes loadHy eqCs lvsOf opRes nilRes guardOf csz ksz unwd dstOk putS vcK vwCall skipR stepD vcD growP rdCall convP slcB rn entV entVs entR entO entH hlts domH entA entL ent itVal hsV hsVs itSlots itBoxes dropL hsL hsA onlyR gcH gcA itReach itLay itSt mr mrs itRho itOk introB introBs introR introX introT introTs lkAll numb resMs retOk mtTy bxCs mtSls mtHs finFr finOf SV.lt SV.lts IntKind.min IntKind.max IntKind.signed IntKind.bits LIM
attribute [simp] ty2 T2_sz T2_pty T2 ty3 T3_sz T3_pty T3 ty4 T4_sz T4_pty T4 ty5 T5_sz T5_pty T5 ty6 T6_sz T6_pty T6 ty7 T7_sz T7_pty T7 ty8 T8_sz T8_pty T8 ty9 T9_sz T9_pty T9 ty10 T10_sz T10_pty T10 ty11 T11_sz T11_pty T11 ty12 T12_sz T12_pty T12 ty13 T13_sz T13_pty T13 ty14 T14_sz T14_pty T14 ty15 T15_sz T15_pty T15 ty16 T16_sz T16_pty T16 ty17 T17_sz T17_pty T17 ty18 T18_sz T18_pty T18 ty19 T19_sz T19_pty T19 ty21 T21_sz T21_pty T21 ty22 T22_sz T22_pty T22 ty23 T23_sz T23_pty T23 ty24 T24_sz T24_pty T24 ty25 T25_sz T25_pty T25 ty34 T34_sz T34_pty T34 ty35 T35_sz T35_pty T35 ty36 T36_sz T36_pty T36 ty37 T37_sz T37_pty T37 ty39 T39_sz T39_pty T39 ty40 T40_sz T40_pty T40 ty41 T41_sz T41_pty T41 ty42 T42_sz T42_pty T42 ty53 T53_sz T53_pty T53 ty54 T54_sz T54_pty T54 ty59 T59_sz T59_pty T59 ty69 T69_sz T69_pty T69 ty70 T70_sz T70_pty T70 ty93 T93_sz T93_pty T93 ty104 T104_sz T104_pty T104 ty105 T105_sz T105_pty T105 ty118 T118_sz T118_pty T118 ty119 T119_sz T119_pty T119 ty121 T121_sz T121_pty T121 ty122 T122_sz T122_pty T122 ty124 T124_sz T124_pty T124 ty125 T125_sz T125_pty T125 ty126 T126_sz T126_pty T126 ty128 T128_sz T128_pty T128 ty131 T131_sz T131_pty T131 ty136 T136_sz T136_pty T136 ty137 T137_sz T137_pty T137 ty150 T150_sz T150_pty T150 ty151 T151_sz T151_pty T151 ty152 T152_sz T152_pty T152 ty154 T154_sz T154_pty T154 ty155 T155_sz T155_pty T155 ty174 T174_sz T174_pty T174 ty177 T177_sz T177_pty T177 ty178 T178_sz T178_pty T178 ty180 T180_sz T180_pty T180 ty183 T183_sz T183_pty T183 ty185 T185_sz T185_pty T185 ty186 T186_sz T186_pty T186 ty188 T188_sz T188_pty T188 ty189 T189_sz T189_pty T189 ty201 T201_sz T201_pty T201 ty203 T203_sz T203_pty T203 ty204 T204_sz T204_pty T204 ty205 T205_sz T205_pty T205 ty212 T212_sz T212_pty T212 ty219 T219_sz T219_pty T219 ty222 T222_sz T222_pty T222 ty225 T225_sz T225_pty T225 ty226 T226_sz T226_pty T226 ty230 T230_sz T230_pty T230 ty231 T231_sz T231_pty T231 ty233 T233_sz T233_pty T233 ty234 T234_sz T234_pty T234

end Go.Proofs.Ytmjjdfhpnckacab
end

section
namespace Go.Proofs.Ytmjjdfhpnckacab
set_option maxRecDepth 100000
set_option linter.unusedSimpArgs false

def inB (n lo hi : Int) : Bool := decide (n ≥ lo) && decide (n ≤ hi)

def c_within : FSpec := ⟨[(.rd, .int .i64), (.rd, .int .i64), (.rd, .int .i64)], [.bool], true, fun _ => True, fun ps => [.bool (inB (nth ps 0).I (nth ps 1).I (nth ps 2).I)], fun _ => []⟩
theorem k_within : FnOk Try.prog 62 c_within := by
  refine fn_mk [0, 1, 2, 6] [.tmp 6] (env_nil (tyTab_ok [])) mixed Try.func62 rfl (by decide) rfl (by decide) rfl ?_
  intro ps hT hpre W hW
  simp only [c_within, TyA, Ty, Tys] at hT hpre
  obtain ⟨_, _, rfl, ⟨a, rfl, ha⟩, _, _, rfl, ⟨b, rfl, hb⟩, _, _, rfl, ⟨c, rfl, hc⟩, rfl⟩ := hT
  refine hW.vc [] _ _ ?_
  simp [-List.getD_eq_getElem?_getD, c_within, inB]
  try rfl

def c_l01In : FSpec := c_within
theorem k_l01In : FnOk Try.prog 56 c_l01In := by
  refine fn_mk [0, 1, 2, 6] [.tmp 6] (env_nil (tyTab_ok [])) mixed Try.func56 rfl (by decide) rfl (by decide) rfl ?_
  intro ps hT hpre W hW
  simp only [c_l01In, TyA, Ty, Tys] at hT hpre
  simp only [c_within, TyA, Ty] at hT
  obtain ⟨_, _, rfl, ⟨a, rfl, ha⟩, _, _, rfl, ⟨b, rfl, hb⟩, _, _, rfl, ⟨c, rfl, hc⟩, rfl⟩ := hT
  refine hW.vc [] _ _ ?_
  simp [-List.getD_eq_getElem?_getD, c_l01In, c_within, c_within, inB]
  try rfl

def sizeB (w h : Int) : Bool := inB w 2 24 && inB h 2 10
def c_isSize : FSpec := ⟨[(.rd, .int .i64), (.rd, .int .i64)], [.bool], true, fun _ => True, fun ps => [.bool (sizeB (nth ps 0).I (nth ps 1).I)], fun _ => []⟩
theorem k_isSize : FnOk Try.prog 133 c_isSize := by
  refine fn_mk [0, 1, 4] [.tmp 4] (env_cons (cs := []) k_within (env_nil (tyTab_ok []))) mixed Try.func133 rfl (by decide) rfl (by decide) rfl ?_
  intro ps hT hpre W hW
  simp only [c_isSize, TyA, Ty, Tys] at hT hpre
  obtain ⟨_, _, rfl, ⟨a, rfl, ha⟩, _, _, rfl, ⟨b, rfl, hb⟩, rfl⟩ := hT
  refine hW.vc [] _ _ ?_
  simp [-List.getD_eq_getElem?_getD, c_isSize, c_within, sizeB]

def c_l04Size : FSpec := c_isSize
theorem k_l04Size : FnOk Try.prog 82 c_l04Size := by
  refine fn_mk [0, 1, 4] [.tmp 4] (env_cons (cs := []) k_l01In (env_nil (tyTab_ok []))) mixed Try.func82 rfl (by decide) rfl (by decide) rfl ?_
  intro ps hT hpre W hW
  simp only [c_l04Size, TyA, Ty, Tys] at hT hpre
  simp only [c_isSize, TyA, Ty] at hT
  obtain ⟨_, _, rfl, ⟨a, rfl, ha⟩, _, _, rfl, ⟨b, rfl, hb⟩, rfl⟩ := hT
  refine hW.vc [] _ _ ?_
  simp [-List.getD_eq_getElem?_getD, c_l04Size, c_l01In, c_isSize, c_within, c_within, c_isSize, sizeB]

end Go.Proofs.Ytmjjdfhpnckacab
end

section
namespace Go.Proofs.Ytmjjdfhpnckacab
set_option maxRecDepth 100000
set_option linter.unusedSimpArgs false

def szGo (l : Int) : List PV → Int
  | [] => l
  | e :: es => if l - e.S.length < 0 then -1 else szGo (l - e.S.length) es
def szStr (es : List PV) (l : Int) : Int := if l - es.length < 0 then -1 else szGo (l - es.length) es

def c_szStringS : FSpec := ⟨[(.rd, .list .str), (.rd, .int .i64)], [.int .i64], true, fun ps => 0 ≤ (nth ps 1).I, fun ps => [.int .i64 (szStr (nth ps 0).L (nth ps 1).I)], fun _ => []⟩
theorem set_take {out es : List PV} {i : Nat} {x : PV} (h1 : out.take i = es.take i) (h2 : out.length = es.length) (h3 : i < es.length) (h4 : x = nth es i) : (out.set i x).take (i + 1) = es.take (i + 1) := by
  rw [take_nth h3, ← h1, take_nth (by simp; omega), List.take_set_of_le (Nat.le_refl _), nth_eq (by simp; omega), List.getElem_set_self, h4]

def c_toStringS : FSpec := ⟨[(.rd, .list .str)], [.list .str], true, fun ps => (nth ps 0).L.length ≤ 1048576, fun ps => [.list (nth ps 0).L], fun _ => []⟩
/-- Two rows are the same by their elements. -/
def eqL (f : PV → PV → Bool) : List PV → List PV → Bool
  | [], [] => true
  | a :: l, b :: m => f a b && eqL f l m
  | _, _ => false
theorem eqL_len {f : PV → PV → Bool} : ∀ {a b : List PV}, a.length ≠ b.length → eqL f a b = false
  | [], [], h => absurd rfl h
  | [], _ :: _, _ => rfl
  | _ :: _, [], _ => rfl
  | x :: a, y :: b, h => by simp only [eqL, eqL_len (a := a) (b := b) (by simpa using h), Bool.and_false]

def c_eqStringS : FSpec := ⟨[(.rd, .list .str), (.rd, .list .str)], [.bool], true, fun _ => True, fun ps => [.bool (eqL (fun x y => x.S == y.S) (nth ps 0).L (nth ps 1).L)], fun _ => []⟩
end Go.Proofs.Ytmjjdfhpnckacab
end

