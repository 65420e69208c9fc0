/-
  States that say less of the same; loops; cuts; drawn orders: the rules.
  Conditions: none.
-/
import Derived.Test.YtmjjdfhpnckacabFlob
namespace Go.Proofs.Ytmjjdfhpnckacab
set_option linter.unusedVariables false

def rn (ρ : List (Nat × Nat)) (h : Nat) : Nat := match lk ρ h with | some i => i | none => h

mutual
/-- The same value, the handles of the second renamed. -/
def entV (ρ : List (Nat × Nat)) : SV → SV → Prop
  | x, .int k n => match x with | .int k' n' => k' = k ∧ n' = n | _ => False
  | x, .bool b => match x with | .bool b' => b' = b | _ => False
  | x, .str l => match x with | .str l' => l' = l | _ => False
  | x, .sl h => match x with | .sl h' => h' = rn ρ h | _ => False
  | x, .ptr h o => match x with | .ptr h' o' => h' = rn ρ h ∧ o' = o | _ => False
  | x, .elp h i d o => match x with | .elp h' i' d' o' => h' = rn ρ h ∧ i' = i ∧ d' = d ∧ o' = o | _ => False
  | x, .agg ys => match x with | .agg xs => entVs ρ xs ys | _ => False
  | x, .tup ys => match x with | .tup xs => entVs ρ xs ys | _ => False
  | x, .fn f ys => match x with | .fn f' xs => f' = f ∧ entVs ρ xs ys | _ => False
  | x, .nils => match x with | .nils => True | _ => False
  | x, .nilp => match x with | .nilp => True | _ => False
def entVs (ρ : List (Nat × Nat)) : List SV → List SV → Prop
  | xs, [] => match xs with | [] => True | _ => False
  | xs, y :: ys => match xs with | x :: xs => entV ρ x y ∧ entVs ρ xs ys | _ => False
end

/-- Which of the second state's handles stand for some of the first's. -/
def entR (ρ : List (Nat × Nat)) (D : List Nat) (rs rs' : List Nat) : Prop :=
  (∀ i ∈ D, memB rs (rn ρ i) = true → memB rs' i = true) ∧ ∀ r ∈ rs', memB D r = true ∧ memB rs (rn ρ r) = true

/-- How an array is held says less. -/
def entO (ρ : List (Nat × Nat)) (D : List Nat) : Own → Own → Prop
  | .vw rs, .vw rs' => entR ρ D rs rs'
  | .sh, .sh => True
  | .dp, .dp => True
  | .cs k, .cs k' => k = k'
  | .dp, .cs k => k = 0
  | .dp, .vw [] => True
  | .sh, .vw [] => True
  | _, _ => False

def entH (ρ : List (Nat × Nat)) (D : List Nat) : HL → HL → Prop
  | .arr o T es _, .arr o' T' es' p' => entO ρ D o o' ∧ T = T' ∧ es = es' ∧ p' = .no
  | .box ow _ cs, .box ow' _ cs' => ow = ow' ∧ entVs ρ cs cs'
  | .abx ow T es, .abx ow' T' es' => ow = ow' ∧ T = T' ∧ es = es'
  | .bld T e l, .bld T' e' l' => T = T' ∧ e = e' ∧ l = l'
  | _, _ => False

def hlts (n : Nat) : HL → Prop | .box _ _ cs => SV.lts n cs | _ => True

def domH : Hp → List Nat
  | [] => []
  | (h, _) :: r => h :: domH r

def entA (ρ : List (Nat × Nat)) (A : Hp) (B : List Nat) (n : Nat) : Hp → Prop
  | [] => True
  | (h, hl') :: r => (match lk A (rn ρ h) with | some hl => entH ρ B hl hl' | none => False) ∧ h < n ∧ hlts n hl' ∧ entA ρ A B n r

def entL (ρ : List (Nat × Nat)) (keep : List Nat) (n : Nat) (L : List (Nat × SV)) : List (Nat × SV) → Prop
  | [] => True
  | (t, v') :: r => (match lk L t with | some v => entV ρ v v' | none => False) ∧ keep.contains t = true ∧ SV.lt n v' ∧ entL ρ keep n L r

/-- A state says less than another, by a renaming of handles. -/
def ent (keep : List Nat) (n0 : Nat) (ρ : List (Nat × Nat)) (S T : St) : Prop :=
  T.Lt = [] ∧ n0 ≤ T.n ∧ (∀ p ∈ ρ, n0 ≤ p.1) ∧ (T.A.map fun p => rn ρ p.1).Nodup ∧ entL ρ keep T.n S.Lp T.Lp ∧ entA ρ S.A (domH T.A) T.n T.A

mutual
theorem entV_val {ρ : List (Nat × Nat)} (β : Nat → GV) : ∀ (x y : SV), entV ρ x y → SV.val (fun h => β (rn ρ h)) y = SV.val β x
  | x, .int k n, h => by cases x <;> simp only [entV] at h <;> obtain ⟨rfl, rfl⟩ := h; rfl
  | x, .bool b, h => by cases x <;> simp only [entV] at h; subst h; rfl
  | x, .str l, h => by cases x <;> simp only [entV] at h; subst h; rfl
  | x, .sl i, h => by cases x <;> simp only [entV] at h; subst h; rfl
  | x, .ptr i o, h => by cases x <;> simp only [entV] at h <;> obtain ⟨rfl, rfl⟩ := h; rfl
  | x, .elp i j d o, h => by cases x <;> simp only [entV] at h <;> obtain ⟨rfl, rfl, rfl, rfl⟩ := h; rfl
  | x, .agg ys, h => by cases x <;> simp only [entV] at h; simp only [SV.val]; rw [entVs_val β _ ys h]
  | x, .tup ys, h => by cases x <;> simp only [entV] at h; simp only [SV.val]; rw [entVs_val β _ ys h]
  | x, .fn f ys, h => by cases x <;> simp only [entV] at h <;> obtain ⟨rfl, h⟩ := h; simp only [SV.val]; rw [entVs_val β _ ys h]
  | x, .nils, h => by cases x <;> simp only [entV] at h; rfl
  | x, .nilp, h => by cases x <;> simp only [entV] at h; rfl
theorem entVs_val {ρ : List (Nat × Nat)} (β : Nat → GV) : ∀ (xs ys : List SV), entVs ρ xs ys → SV.vals (fun h => β (rn ρ h)) ys = SV.vals β xs
  | xs, [], h => by cases xs <;> simp only [entVs] at h; rfl
  | xs, y :: ys, h => by cases xs <;> simp only [entVs] at h; simp only [SV.vals]; rw [entV_val β _ y h.1, entVs_val β _ ys h.2]
end

mutual
theorem entV_ok {ρ : List (Nat × Nat)} (β : Nat → GV) : ∀ (x y : SV), entV ρ x y → SV.ok β x → SV.ok (fun h => β (rn ρ h)) y
  | x, .int k n, h, hk => by cases x <;> simp only [entV] at h <;> obtain ⟨rfl, rfl⟩ := h; exact hk
  | x, .bool b, h, hk => trivial
  | x, .str l, h, hk => by cases x <;> simp only [entV] at h; subst h; exact hk
  | x, .sl i, h, hk => trivial
  | x, .ptr i o, h, hk => by cases x <;> simp only [entV] at h <;> obtain ⟨rfl, rfl⟩ := h; exact hk
  | x, .elp i j d o, h, hk => by cases x <;> simp only [entV] at h <;> obtain ⟨rfl, rfl, rfl, rfl⟩ := h; exact hk
  | x, .agg ys, h, hk => by cases x <;> simp only [entV] at h; exact entVs_ok β _ ys h hk
  | x, .tup ys, h, hk => by cases x <;> simp only [entV] at h; exact entVs_ok β _ ys h hk
  | x, .fn f ys, h, hk => by cases x <;> simp only [entV] at h <;> obtain ⟨rfl, h⟩ := h; exact entVs_ok β _ ys h hk
  | x, .nils, h, hk => trivial
  | x, .nilp, h, hk => trivial
theorem entVs_ok {ρ : List (Nat × Nat)} (β : Nat → GV) : ∀ (xs ys : List SV), entVs ρ xs ys → SV.oks β xs → SV.oks (fun h => β (rn ρ h)) ys
  | xs, [], h, hk => trivial
  | xs, y :: ys, h, hk => by cases xs <;> simp only [entVs] at h; exact ⟨entV_ok β _ y h.1 hk.1, entVs_ok β _ ys h.2 hk.2⟩
end

section
variable {C : Cx} {S T : St} {a : Act} {w : World} {ρ : List (Nat × Nat)} {k : List KI}

theorem rn_low {n0 h : Nat} (hρ : ∀ p ∈ ρ, n0 ≤ p.1) (hh : h < n0) : rn ρ h = h := by
  unfold rn
  have : lk ρ h = none := by
    induction ρ with
    | nil => rfl
    | cons p ρ ih =>
      obtain ⟨i, j⟩ := p
      simp only [lk]
      have := hρ (i, j) (by simp)
      rw [if_neg (by simp at this; omega)]
      exact ih fun p hp => hρ p (by simp [hp])
  rw [this]

theorem entL_lk {keep : List Nat} {n : Nat} {L : List (Nat × SV)} : ∀ {L' : List (Nat × SV)}, entL ρ keep n L L' → ∀ t v', lk L' t = some v' → ∃ v, lk L t = some v ∧ entV ρ v v' ∧ keep.contains t = true ∧ SV.lt n v'
  | [], _, t, v', h => by cases h
  | (i, x) :: r, hL, t, v', h => by
    obtain ⟨h1, h2, h3, h4⟩ := hL
    simp only [lk] at h
    split at h
    · rename_i e; subst e; cases h
      split at h1
      · rename_i v hv; exact ⟨v, hv, h1, h2, h3⟩
      · exact h1.elim
    · exact entL_lk h4 t v' h

theorem entA_lk {A : Hp} {B : List Nat} {n : Nat} : ∀ {A' : Hp}, entA ρ A B n A' → ∀ i hl', lk A' i = some hl' → ∃ hl, lk A (rn ρ i) = some hl ∧ entH ρ B hl hl' ∧ i < n ∧ hlts n hl' ∧ ∃ p ∈ A', p.1 = i
  | [], _, t, v', h => by cases h
  | (i, x) :: r, hL, t, v', h => by
    obtain ⟨h1, h2, h3, h4⟩ := hL
    simp only [lk] at h
    split at h
    · rename_i e; subst e; cases h
      split at h1
      · rename_i hl hv; exact ⟨hl, hv, h1, h2, h3, (i, x), by simp, rfl⟩
      · exact h1.elim
    · obtain ⟨hl, q1, q2, q3, q4, p, q5, q6⟩ := entA_lk h4 t v' h
      exact ⟨hl, q1, q2, q3, q4, p, by simp [q5], q6⟩

theorem nodup_inj {α β : Type} {f : α → β} : ∀ {l : List α}, (l.map f).Nodup → ∀ x ∈ l, ∀ y ∈ l, f x = f y → x = y
  | [], _, x, hx, _, _, _ => by cases hx
  | z :: l, h, x, hx, y, hy, e => by
    simp only [List.map_cons, List.nodup_cons] at h
    rcases List.mem_cons.1 hx with hx1 | hx2 <;> rcases List.mem_cons.1 hy with hy1 | hy2
    · rw [hx1, hy1]
    · subst hx1; exact absurd (List.mem_map.2 ⟨y, hy2, e.symm⟩) h.1
    · subst hy1; exact absurd (List.mem_map.2 ⟨x, hx2, e⟩) h.1
    · exact nodup_inj h.2 x hx2 y hy2 e

theorem domH_lk {A : Hp} {i : Nat} : i ∈ domH A ↔ ∃ hl, lk A i = some hl := by
  induction A with
  | nil => simp [domH, lk]
  | cons p A ih =>
    obtain ⟨h, x⟩ := p
    simp only [domH, List.mem_cons, lk]
    by_cases e : h = i
    · simp [e]
    · simp only [if_neg e, ← ih]
      exact ⟨fun h => h.resolve_left (Ne.symm e), .inr⟩

theorem entH_arr {D : List Nat} {o : Own} {T : PTy} {es : List PV} {p : Pth} : ∀ {hl : HL}, entH ρ D hl (.arr o T es p) → ∃ o' p', hl = .arr o' T es p' ∧ entO ρ D o' o ∧ p = .no
  | .arr o' T' es' p', h => by obtain ⟨ho, rfl, rfl, hp⟩ := h; exact ⟨_, _, rfl, ho, hp⟩
  | .dead, h => by simp [entH] at h
  | .box _ _ _, h => by simp [entH] at h
  | .abx _ _ _, h => by simp [entH] at h
  | .bld _ _ _, h => by simp [entH] at h

theorem entH_box {D : List Nat} {ow : Bool} {t : TypeId} {cs : List SV} : ∀ {hl : HL}, entH ρ D hl (.box ow t cs) → ∃ t' cs', hl = .box ow t' cs' ∧ entVs ρ cs' cs
  | .box ow t' cs', h => by obtain ⟨rfl, h⟩ := h; exact ⟨_, _, rfl, h⟩
  | .dead, h => by simp [entH] at h
  | .arr _ _ _ _, h => by simp [entH] at h
  | .abx _ _ _, h => by simp [entH] at h
  | .bld _ _ _, h => by simp [entH] at h

theorem entH_abx {D : List Nat} {ow : Bool} {T : PTy} {es : List PV} : ∀ {hl : HL}, entH ρ D hl (.abx ow T es) → hl = .abx ow T es
  | .abx ow' T' es', h => by obtain ⟨rfl, rfl, rfl⟩ := h; rfl
  | .dead, h => by simp [entH] at h
  | .arr _ _ _ _, h => by simp [entH] at h
  | .box _ _ _, h => by simp [entH] at h
  | .bld _ _ _, h => by simp [entH] at h

theorem entH_bld {D : List Nat} {T e : Nat} {l : List UInt8} : ∀ {hl : HL}, entH ρ D hl (.bld T e l) → hl = .bld T e l
  | .bld T' e' l', h => by obtain ⟨rfl, rfl, rfl⟩ := h; rfl
  | .dead, h => by simp [entH] at h
  | .arr _ _ _ _, h => by simp [entH] at h
  | .box _ _ _, h => by simp [entH] at h
  | .abx _ _ _, h => by simp [entH] at h

theorem entH_dead {D : List Nat} : ∀ {hl : HL}, ¬ entH ρ D hl .dead
  | .arr o' T' es' _, h => by simp [entH] at h
  | .dead, h => by simp [entH] at h
  | .box _ _ _, h => by simp [entH] at h
  | .abx _ _ _, h => by simp [entH] at h
  | .bld _ _ _, h => by simp [entH] at h

/-- What is said less of one handle. -/
theorem entH_all {D : List Nat} {w : World} {g : GV} {β : Nat → GV} {f : List Nat} {hl hl' : HL} (h : entH ρ D hl hl') :
    (HLSat w g β f hl → HLSat w g (fun h => β (rn ρ h)) f hl') ∧ (∀ b ∈ owned f hl', b ∈ owned f hl) ∧ (isA hl' → isA hl) ∧ (ndOk f hl → ndOk f hl') ∧ hl ≠ .dead ∧ (∀ i ∈ D, rn ρ i ∈ roots hl → i ∈ roots hl') ∧ (∀ r ∈ roots hl', r ∈ D ∧ rn ρ r ∈ roots hl) ∧ (∀ A β' w' g', pathOk A β' w' g' hl') := by
  cases hl' with
  | dead => exact (entH_dead h).elim
  | box ow t cs =>
    obtain ⟨t', cs', rfl, q⟩ := entH_box h
    refine ⟨?_, fun b hb => by cases ow with | true => simpa [owned] using hb | false => simp [owned] at hb, fun h => by cases ow <;> exact h, fun _ => trivial, by simp, by simp [roots], by simp [roots], fun _ _ _ _ => trivial⟩
    rintro ⟨b, t', s1, s2, s3⟩
    exact ⟨b, t', s1, s2, by rw [entVs_val β _ _ q]; exact s3⟩
  | bld T e l =>
    have := entH_bld h
    subst this
    exact ⟨fun h => h, fun b hb => hb, fun h => h, fun h => h, by simp, by simp [roots], by simp [roots], fun _ _ _ _ => trivial⟩
  | abx ow T es =>
    have := entH_abx h
    subst this
    exact ⟨fun h => h, fun b hb => hb, fun h => h, fun h => h, by simp, by simp [roots], by simp [roots], fun _ _ _ _ => trivial⟩
  | arr o T es p =>
    obtain ⟨o', p', rfl, ho, rfl⟩ := entH_arr h
    have hpath : ∀ A β' w' g', pathOk A β' w' g' (.arr o T es .no) := fun A β' w' g' => by cases o <;> trivial
    cases o' with
    | vw rs =>
      cases o <;> simp only [entO] at ho
      rename_i rs'
      refine ⟨fun h => h, fun b hb => by simp [owned] at hb, fun h => h, fun h => h, by simp, fun i hi hm => memB_iff.1 (ho.1 i hi (memB_iff.2 hm)), fun r hr => ⟨memB_iff.1 (ho.2 r hr).1, memB_iff.1 (ho.2 r hr).2⟩, hpath⟩
    | sh =>
      cases o with
      | sh => exact ⟨fun h => h, fun b hb => hb, fun h => h, fun h => h, by simp, by simp [roots], by simp [roots], hpath⟩
      | vw rs =>
        cases rs with
        | nil => exact ⟨fun h => OwnS.lv h, fun b hb => by simp [owned] at hb, fun h => h, fun _ => trivial, by simp, by simp [roots], by simp [roots], hpath⟩
        | cons => simp [entO] at ho
      | _ => simp [entO] at ho
    | cs k =>
      cases o <;> simp only [entO] at ho
      subst ho
      exact ⟨fun h => h, fun b hb => hb, fun h => h, fun h => h, by simp, by simp [roots], by simp [roots], hpath⟩
    | dp =>
      cases o with
      | dp => exact ⟨fun h => h, fun b hb => hb, fun h => h, fun h => h, by simp, by simp [roots], by simp [roots], hpath⟩
      | vw rs =>
        cases rs with
        | nil => exact ⟨fun h => OwnD.lv h, fun b hb => by simp [owned] at hb, fun h => h, fun _ => trivial, by simp, by simp [roots], by simp [roots], hpath⟩
        | cons => simp [entO] at ho
      | cs k =>
        simp only [entO] at ho
        subst ho
        refine ⟨fun h => ?_, fun b hb => hb, fun h => h, fun h => h, by simp, by simp [roots], by simp [roots], hpath⟩
        rcases h with h | ⟨b, f1, cs, rfl, hr, hs, hv⟩
        · exact .inl h
        · exact .inr ⟨b, f1, [], cs, rfl, by simpa using hr, by simp, hs, by simpa using hv⟩
      | sh => simp [entO] at ho

theorem ent_at (h : ent C.keep C.n0 ρ S T) (hat : At C S a w) : At C T a w := by
  obtain ⟨e1, e2, e3, e4, e5, e6⟩ := h
  obtain ⟨kp, hn, β, ϕ, sat, h0⟩ := hat
  have hlk := fun i hl' hi => entA_lk e6 i hl' hi
  have inj : ∀ i j hl hl', lk T.A i = some hl → lk T.A j = some hl' → rn ρ i = rn ρ j → i = j := by
    intro i j hl hl' hi hj e
    obtain ⟨_, _, _, _, _, p, p1, p2⟩ := hlk i hl hi
    obtain ⟨_, _, _, _, _, q, q1, q2⟩ := hlk j hl' hj
    have := nodup_inj e4 p p1 q q1 (by rw [p2, q2]; exact e)
    rw [← p2, ← q2, this]
  refine ⟨⟨fun t v h => (entL_lk e5 t v h).elim fun _ q => q.2.2.1, fun t x h => by rw [e1] at h; cases h⟩, e2, fun h => β (rn ρ h), fun h => ϕ (rn ρ h), ⟨sat.df, sat.sz, ?_, ?_, ?_, ?_, sat.fr⟩, ?_⟩
  · intro t v' ht
    obtain ⟨v, q1, q2, q3, q4⟩ := entL_lk e5 t v' ht
    obtain ⟨s1, s2, s3⟩ := sat.lp t v q1
    exact ⟨by rw [entV_val β v v' q2]; exact s1, q4, entV_ok β v v' q2 s3⟩
  · intro t g v ht; rw [e1] at ht; cases ht
  · refine ⟨fun h => sat.hp.pl _, ?_, ?_, ?_, ?_, ?_, ?_, ?_⟩
    · intro i hl' hi
      obtain ⟨hl, q1, q2, q3, q4, _⟩ := hlk i hl' hi
      exact (entH_all q2).1 (sat.hp.sat _ _ q1)
    · intro i hl' hi b hb
      obtain ⟨hl, q1, q2, q3, q4, _⟩ := hlk i hl' hi
      exact sat.hp.own _ _ q1 b ((entH_all (w := w) (g := β 0) (β := β) q2).2.1 b hb)
    · intro i hl' hi ha b hb
      obtain ⟨hl, q1, q2, q3, q4, _⟩ := hlk i hl' hi
      exact sat.hp.all _ _ q1 ((entH_all (w := w) (g := β 0) (β := β) (f := []) q2).2.2.1 ha) b hb
    · intro i hl' hi
      obtain ⟨hl, q1, q2, q3, q4, _⟩ := hlk i hl' hi
      exact (entH_all (w := w) (g := β 0) (β := β) q2).2.2.2.1 (sat.hp.nd _ _ q1)
    · intro i j hl hl' hi hj hne hnv hdd b hb
      obtain ⟨hl1, q1, q2, q3, q4, _⟩ := hlk i hl hi
      obtain ⟨hl2, r1, r2, r3, r4, _⟩ := hlk j hl' hj
      have k1 := entH_all (w := w) (g := β 0) (β := β) (f := ϕ (rn ρ i)) q2
      have k2 := entH_all (w := w) (g := β 0) (β := β) (f := []) r2
      exact sat.hp.dj _ _ _ _ q1 r1 (fun e => hne (inj _ _ _ _ hi hj e)) (fun hm => hnv (k2.2.2.2.2.2.1 i (domH_lk.2 ⟨_, hi⟩) hm)) k2.2.2.2.2.1 b (k1.2.1 b hb)
    · intro i hl' hi
      obtain ⟨hl, q1, q2, q3, q4, _⟩ := hlk i hl' hi
      exact (entH_all (w := w) (g := β 0) (β := β) (f := []) q2).2.2.2.2.2.2.2 _ _ _ _
    · intro i hl' hi r hr o t cs hc
      obtain ⟨hl, q1, q2, q3, q4, _⟩ := hlk i hl' hi
      obtain ⟨_, k2⟩ := (entH_all (w := w) (g := β 0) (β := β) (f := []) q2).2.2.2.2.2.2.1 r hr
      obtain ⟨hl0, r1, r2, _⟩ := hlk r _ hc
      obtain ⟨t', cs', rfl, _⟩ := entH_box r2
      exact sat.hp.rt _ _ q1 _ k2 _ _ _ r1
  · intro i hl' hi
    obtain ⟨hl, q1, q2, q3, q4, _⟩ := hlk i hl' hi
    refine ⟨q3, ?_⟩
    cases hl' with
    | box ow t cs =>
      obtain ⟨t', cs', rfl, q5⟩ := entH_box q2
      exact ⟨q4, entVs_ok β _ _ q5 (sat.hb _ _ q1).2.2⟩
    | arr o T' es p =>
      cases o <;> (try trivial)
      intro r hr
      obtain ⟨k1, _⟩ := (entH_all (w := w) (g := β 0) (β := β) (f := []) q2).2.2.2.2.2.2.1 r hr
      obtain ⟨hl0, k3⟩ := domH_lk.1 k1
      obtain ⟨_, _, _, k4, _⟩ := hlk r _ k3
      exact k4
    | abx _ _ _ => trivial
    | bld _ _ _ => trivial
    | dead => trivial
  · intro h hh
    show β (rn ρ h) = _
    rw [rn_low e3 hh]
    exact h0 h hh

/-- A loop by a family of states. -/
theorem wp_loopF {c : Code} {Y : Type} (st : Y → St) (Φ : Y → Prop) (μ : Y → Nat) (h0 : ∃ y ρ, Φ y ∧ ent C.keep C.n0 ρ S (st y))
    (round : ∀ y, Φ y → WP C (.code c :: .post (fun S' => ∃ y' ρ, Φ y' ∧ μ y' < μ y ∧ ent C.keep C.n0 ρ S' (st y')) :: k) (st y)) : WP C (.code (.loop c) :: k) S := by
  classical
  intro a w hat
  let M : Act → World → Nat → Prop := fun a w n => ∃ y, Φ y ∧ At C (st y) a w ∧ μ y = n
  have least : ∀ a w n, M a w n → ∃ m, M a w m ∧ ∀ j, M a w j → m ≤ j := by
    intro a w n hn
    induction n using Nat.strongRecOn with
    | ind n ih =>
      by_cases h : ∃ j, M a w j ∧ j < n
      · obtain ⟨j, h1, h2⟩ := h; exact ih j h2 h1
      · exact ⟨n, hn, fun j hj => Nat.le_of_not_lt fun hl => h ⟨j, hj, hl⟩⟩
  let mu : Act → World → Nat := fun a w => if h : ∃ m, M a w m ∧ ∀ j, M a w j → m ≤ j then h.choose else 0
  refine wp_loop (fun a w => ∃ y, Φ y ∧ At C (st y) a w) mu ?_ ?_
  · obtain ⟨y, ρ, h1, h2⟩ := h0
    exact ⟨y, h1, ent_at h2 hat⟩
  · intro a w ⟨y, hy, hay⟩
    have hex := least a w _ ⟨y, hy, hay, rfl⟩
    have hmu : mu a w = hex.choose := dif_pos hex
    obtain ⟨⟨y1, hy1, hay1, he1⟩, hmin⟩ := hex.choose_spec
    have hr := round y1 hy1 a w hay1
    refine Code.wp_mono ?_ hr
    intro e a' w' hq
    cases e with
    | normal =>
      obtain ⟨S', hS', y', ρ, p1, p2, p3⟩ := hq
      have hay' := ent_at p3 hS'
      refine ⟨⟨y', p1, hay'⟩, ?_⟩
      have hex' := least a' w' _ ⟨y', p1, hay', rfl⟩
      have hmu' : mu a' w' = hex'.choose := dif_pos hex'
      have := hex'.choose_spec.2 _ ⟨y', p1, hay', rfl⟩
      rw [hmu, hmu', ← he1]
      omega
    | _ => exact hq

theorem xt_lift {k1 k2 : List KI} (h : ∀ e a w, xt C k1 e a w → xt C k2 e a w) : ∀ (l : List KI) e a w, xt C (l ++ k1) e a w → xt C (l ++ k2) e a w
  | [], e, a, w, hx => h e a w hx
  | .code c :: l, e, a, w, hx => by
    have ih := xt_lift h l
    cases e <;> first | exact Code.wp_mono (fun e a w q => ih e a w q) hx | exact ih _ _ _ hx
  | .blk i :: l, e, a, w, hx => by
    have ih := xt_lift h l
    cases e with
    | exit j =>
      simp only [List.cons_append, xt, Exit.inBlock] at hx ⊢
      split
      · rename_i e; rw [if_pos e] at hx; exact ih _ _ _ hx
      · rename_i e; rw [if_neg e] at hx; exact ih _ _ _ hx
    | _ => exact ih _ _ _ hx
  | .post p :: l, e, a, w, hx => by
    have ih := xt_lift h l
    cases e <;> first | exact hx | exact ih _ _ _ hx
  | .run all m :: l, e, a, w, hx => by
    have ih := xt_lift h l
    cases e with
    | normal =>
      have mono : ∀ (m : List Oper) a w, wpList C.P all.toArray (xt C (l ++ k1)) m a w → wpList C.P all.toArray (xt C (l ++ k2)) m a w := by
        intro m
        induction m with
        | nil => intro a w h; exact ih _ _ _ h
        | cons o m ihm =>
          intro a w h
          unfold wpList at h ⊢
          split
          · rename_i hw
            rw [if_pos hw] at h
            rcases h with h | ⟨h, a', w', hl⟩
            · refine .inl ?_
              unfold Oper.wp at *
              generalize (execOp a.eval o).run C.P w = r at *
              cases r with
              | ok n w' =>
                cases n <;> simp only [Oper.upon] at h ⊢ <;>
                  first
                    | exact ihm _ _ h
                    | exact Calls.mono h (fun e w'' he => by cases e <;> first | exact ihm _ _ he | exact ih _ _ _ he | (obtain ⟨a', w', he⟩ := he; exact ⟨a', w', ih _ _ _ he⟩))
                    | exact Rows.mono h (fun _ _ he => ihm _ _ he)
              | halt x w' => cases x <;> simp only [Oper.upon] at h ⊢ <;> exact ih _ _ _ h
            · exact .inr ⟨h, a', w', ih _ _ _ hl⟩
          · rename_i hw
            rw [if_neg hw] at h
            exact ihm _ _ h
      exact mono m a w hx
    | _ => exact ih _ _ _ hx

/-- A cut. -/
theorem wp_cut {p : St → Prop} (l : List KI) (h1 : WP C (l ++ .post p :: k) S) (h2 : ∀ S', p S' → WP C k S') : WP C (l ++ k) S := by
  intro a w hat
  refine xt_lift (k1 := .post p :: k) ?_ l _ _ _ (h1 a w hat)
  intro e a w hx
  cases e with
  | normal => obtain ⟨S', h, hp⟩ := hx; exact h2 S' hp a w h
  | _ => exact hx

theorem wp_ent (h : ent C.keep C.n0 ρ S T) (h1 : WP C k T) : WP C k S := fun a w hat => h1 a w (ent_at h hat)

/-- The orders that a drawing region may take. -/
def ords (all : List Oper) : Nat → List Bool → List (List Nat)
  | 0, _ => [[]]
  | f + 1, m => match (List.range all.length).filter fun i => !(m.getD i true) && (match all[i]? with | some o => o.after.toList.all fun e => !Region.binds .any e || m.getD e.on false | none => false) with
    | [] => [[]]
    | r => r.flatMap fun i => (ords all f (m.set i true)).map fun l => i :: l

def pickOps (all : List Oper) (l : List Nat) : List Oper := l.filterMap fun i => all[i]?

theorem ords_spec (all : List Oper) : ∀ (f t : Nat) (m : List Bool), Region.linearise.go .any all.toArray f t m.toArray [] ∈ ords all f m := by
  intro f
  induction f with
  | zero => intro t m; simp [Region.linearise.go, ords]
  | succ f ih =>
    intro t m
    have hrs : ((List.range all.toArray.size).filter fun i => !m.toArray.getD i true && ((all.toArray[i]?).map (·.after.all fun e => !Region.binds .any e || m.toArray.getD e.on false)).getD false)
        = (List.range all.length).filter fun i => !(m.getD i true) && (match all[i]? with | some o => o.after.toList.all fun e => !Region.binds .any e || m.getD e.on false | none => false) := by
      simp only [List.size_toArray]
      apply List.filter_congr
      intro i _
      cases h : all[i]? <;> simp [h]
    simp only [Region.linearise.go, ords]
    rw [hrs]
    generalize ((List.range all.length).filter fun i => !(m.getD i true) && (match all[i]? with | some o => o.after.toList.all fun e => !Region.binds .any e || m.getD e.on false | none => false)) = r
    cases r with
    | nil => simp
    | cons x xs =>
      have hlt : t % (x :: xs).length < (x :: xs).length := Nat.mod_lt _ (by simp)
      have hg := List.getElem?_eq_getElem hlt
      rw [hg]
      simp only
      rw [linearise_go_acc, List.reverse_singleton, List.singleton_append]
      refine List.mem_flatMap.2 ⟨_, List.getElem_mem hlt, List.mem_map.2 ⟨_, ?_, rfl⟩⟩
      have := ih (t / (x :: xs).length) (m.set ((x :: xs)[t % (x :: xs).length]) true)
      simpa using this

theorem wpOps_pick {P : Program} {all : List Oper} {Q : Exit → Act → World → Prop} : ∀ (l : List Nat), wpOps P all.toArray Q l = wpList P all.toArray Q (pickOps all l)
  | [] => by funext a w; simp [wpOps, pickOps, wpList]
  | i :: l => by
    have ih := wpOps_pick (P := P) (all := all) (Q := Q) l
    funext a w
    cases h : all[i]? with
    | none => simp [wpOps, pickOps, h, ih]
    | some o =>
      have : pickOps all (i :: l) = o :: pickOps all l := by simp [pickOps, h]
      rw [this]
      simp [wpOps, h, wpList, ih]

theorem wp_draw {id : Nat} {ops : Array Oper} (hC : C.Ok) (h : ∀ l ∈ ords ops.toList ops.toList.length (List.replicate ops.toList.length false), WP C (.run ops.toList (pickOps ops.toList l) :: k) { S with Lt := [] }) : WP C (.code (.region id ops true) :: k) S := by
  intro a w hat
  refine wp_region_draw fun t => ?_
  have ho := ords_spec ops.toList ops.size t (List.replicate ops.size false)
  have h1 := h _ (by simpa using ho) a _ (at_lt (at_drew hat))
  have h2 : wpList C.P ops.toList.toArray (xt C k) _ a _ := h1
  have h3 : Region.schedule (C.P.follows .mixedOrders) ops t = Region.linearise.go .any ops.toList.toArray ops.size t (List.replicate ops.size false).toArray [] := by
    simp only [Region.schedule, hC.mix, Bool.true_or, if_true, Region.linearise]
    simp
  rw [h3]
  have h4 := wpOps_pick (P := C.P) (all := ops.toList) (Q := xt C k) (Region.linearise.go .any ops.toList.toArray ops.size t (List.replicate ops.size false).toArray [])
  simp only [Array.toArray_toList] at h4 h2 ⊢
  rw [h4]
  exact h2

end

/-- What a loop changes: a slot's value; the cells of a box in a slot; the elements of an owned array in a slot. -/
inductive It where
  | sl (t : Nat) (o : Own) (T : PTy)
  | bx (t : Nat) (Ts : List PTy)
  | ar (t : Nat) (T : PTy)
  | bl (t : Nat)

/-- The pure values now there. -/
def itVal (S : St) : List It → Option (Prop × List PV)
  | [] => some (True, [])
  | .sl t _ T :: r => match lk S.Lp t with
    | some x => (match resB S.A T x, itVal S r with | some (o, p), some (o', ps) => some (o ∧ o', p :: ps) | _, _ => none)
    | none => none
  | .bx t Ts :: r => match lk S.Lp t with
    | some (.ptr h _) => (match lk S.A h with
      | some (.box _ _ cs) => (match resLs S.A Ts cs, itVal S r with | some (o, p), some (o', ps) => some (o ∧ o', .agg p :: ps) | _, _ => none)
      | _ => none)
    | _ => none
  | .ar t T :: r => match lk S.Lp t with
    | some (.sl h) => (match resB S.A (.list T) (.sl h), itVal S r with | some (o, p), some (o', ps) => some (o ∧ o', p :: ps) | _, _ => none)
    | _ => none
  | .bl t :: r => match lk S.Lp t with
    | some (.ptr h 0) => (match lk S.A h, itVal S r with | some (.bld _ _ l), some (o', ps) => some (o', .str l :: ps) | _, _ => none)
    | _ => none

mutual
/-- The handles in a value. -/
def hsV : SV → List Nat
  | .sl h => [h]
  | .ptr h _ => [h]
  | .elp h _ _ _ => [h]
  | .agg xs => hsVs xs
  | .tup xs => hsVs xs
  | .fn _ xs => hsVs xs
  | _ => []
def hsVs : List SV → List Nat
  | [] => []
  | x :: xs => hsV x ++ hsVs xs
end

def itSlots : List It → List Nat
  | [] => []
  | .sl t _ _ :: r => t :: itSlots r
  | _ :: r => itSlots r
def itBoxes (S : St) : List It → List Nat
  | [] => []
  | .bx t _ :: r => match lk S.Lp t with | some (.ptr h _) => h :: itBoxes S r | _ => itBoxes S r
  | .ar t _ :: r => match lk S.Lp t with | some (.sl h) => h :: itBoxes S r | _ => itBoxes S r
  | .bl t :: r => match lk S.Lp t with | some (.ptr h _) => h :: itBoxes S r | _ => itBoxes S r
  | _ :: r => itBoxes S r
def dropL (ms : List Nat) : List (Nat × SV) → List (Nat × SV)
  | [] => []
  | (t, v) :: r => if memB ms t then dropL ms r else (t, v) :: dropL ms r
def hsL : List (Nat × SV) → List Nat
  | [] => []
  | (_, v) :: r => hsV v ++ hsL r
/-- The handles behind boxes. -/
def hsA (A : Hp) (bs : List Nat) : List Nat → List Nat
  | [] => []
  | h :: r => (if memB bs h then [] else match lk A h with | some (.box _ _ cs) => hsVs cs | _ => []) ++ hsA A bs r
def onlyR (R : List Nat) : List Nat → List Nat
  | [] => []
  | r :: l => if memB R r then r :: onlyR R l else onlyR R l
def gcH (R : List Nat) : HL → HL
  | .arr (.vw rs) T es _ => .arr (.vw (onlyR R rs)) T es .no
  | .arr o T es _ => .arr o T es .no
  | x => x
def gcA (R bs : List Nat) : Hp → Hp
  | [] => []
  | (h, x) :: r => if memB R h && !memB bs h then (match x with | .dead => gcA R bs r | x => (h, gcH R x) :: gcA R bs r) else gcA R bs r
def itReach (S : St) (its : List It) : List Nat :=
  hsL (dropL (itSlots its) S.Lp) ++ hsA S.A (itBoxes S its) (hsL (dropL (itSlots its) S.Lp)) ++ hsA S.A (itBoxes S its) (hsA S.A (itBoxes S its) (hsL (dropL (itSlots its) S.Lp)))
def itLay (S0 T : St) : List It → List PV → St
  | .sl t o ty :: r, p :: ps => itLay S0 ⟨T.Lp ++ [(t, (introV o noP 0 T.n ty p).1)], [], (introV o noP 0 T.n ty p).2.1 ++ T.A, (introV o noP 0 T.n ty p).2.2⟩ r ps
  | .bx t Ts :: r, p :: ps => match lk S0.Lp t with
    | some (.ptr h _) => (match lk S0.A h with
      | some (.box ow bt _) => itLay S0 ⟨T.Lp, [], (h, .box ow bt (introL .dp noP 0 T.n Ts p.A).1) :: ((introL .dp noP 0 T.n Ts p.A).2.1 ++ T.A), (introL .dp noP 0 T.n Ts p.A).2.2⟩ r ps
      | _ => T)
    | _ => T
  | .ar t E :: r, p :: ps => match lk S0.Lp t with
    | some (.sl h) => itLay S0 ⟨T.Lp, [], (h, .arr .dp E p.L .no) :: T.A, T.n⟩ r ps
    | _ => T
  | .bl t :: r, p :: ps => match lk S0.Lp t with
    | some (.ptr h _) => (match lk S0.A h with
      | some (.bld B e _) => itLay S0 ⟨T.Lp, [], (h, .bld B e p.S) :: T.A, T.n⟩ r ps
      | _ => T)
    | _ => T
  | _, _ => T
/-- A state in which some slots and boxes hold given pure values; what nothing reaches is dropped. -/
def itSt (S : St) (its : List It) (ps : List PV) : St :=
  itLay S ⟨dropL (itSlots its) S.Lp, [], gcA (itReach S its) (itBoxes S its) S.A, S.n⟩ its ps

mutual
def mr : SV → SV → List (Nat × Nat)
  | .sl h', .sl h => if h' = h then [] else [(h', h)]
  | .agg xs, .agg ys => mrs xs ys
  | .tup xs, .tup ys => mrs xs ys
  | _, _ => []
def mrs : List SV → List SV → List (Nat × Nat)
  | x :: xs, y :: ys => mr x y ++ mrs xs ys
  | _, _ => []
end
/-- Which handle stands for which. -/
def itRho (T S : St) : List It → List (Nat × Nat)
  | [] => []
  | .sl t _ _ :: r => (match lk T.Lp t, lk S.Lp t with | some x, some y => mr x y | _, _ => []) ++ itRho T S r
  | .bx t _ :: r => (match lk T.Lp t with | some (.ptr h _) => (match lk T.A h, lk S.A h with | some (.box _ _ xs), some (.box _ _ ys) => mrs xs ys | _, _ => []) | _ => []) ++ itRho T S r
  | .ar _ _ :: r => itRho T S r
  | .bl _ :: r => itRho T S r

/-- A state is the one with its own pure values, and these are so. -/
def itOk (keep : List Nat) (n0 : Nat) (S : St) (its : List It) (Φ : List PV → Prop) (S' : St) : Prop :=
  match itVal S' its with
  | some (o, ps) => o ∧ Φ ps ∧ ent keep n0 (itRho (itSt S its ps) S' its) S' (itSt S its ps)
  | none => False

theorem itOk_ex {keep : List Nat} {n0 : Nat} {S S' : St} {its : List It} {Φ : List PV → Prop} (h : itOk keep n0 S its Φ S') : ∃ ps ρ, Φ ps ∧ ent keep n0 ρ S' (itSt S its ps) := by
  unfold itOk at h
  split at h
  · exact ⟨_, _, h.2.1, h.2.2⟩
  · exact h.elim

/-- What may be used of the code's meaning: nothing else is told of W. -/
structure Rules (E : Env) (N : Nat) (keep : List Nat) (n0 : Nat) (fin : St → Prop) (W : List KI → St → Prop) : Prop where
  vc : ∀ (pls : List (Nat × List Nat × Pl)) (k : List KI) (S : St), vcK E N keep fin W pls [] k S → W k S
  loop : ∀ (c : Code) (k : List KI) (S : St) (Y : Type) (st : Y → St) (Φ : Y → Prop) (μ : Y → Nat), (∃ y ρ, Φ y ∧ ent keep n0 ρ S (st y)) →
    (∀ y, Φ y → W (.code c :: .post (fun S' => ∃ y' ρ, Φ y' ∧ μ y' < μ y ∧ ent keep n0 ρ S' (st y')) :: k) (st y)) → W (.code (.loop c) :: k) S
  loopS : ∀ (c : Code) (k : List KI) (S : St) (its : List It) (Φ : List PV → Prop) (μ : List PV → Nat), itOk keep n0 S its Φ S →
    (∀ ys, Φ ys → W (.code c :: .post (itOk keep n0 S its fun ps => Φ ps ∧ μ ps < μ ys) :: k) (itSt S its ys)) → W (.code (.loop c) :: k) S
  cutS : ∀ (l k : List KI) (S : St) (its : List It) (Φ : List PV → Prop), W (l ++ .post (itOk keep n0 S its Φ) :: k) S → (∀ ys, Φ ys → W k (itSt S its ys)) → W (l ++ k) S
  cut : ∀ (l k : List KI) (S : St) (p : St → Prop), W (l ++ .post p :: k) S → (∀ S', p S' → W k S') → W (l ++ k) S
  ent : ∀ (k : List KI) (S T : St) (ρ : List (Nat × Nat)), ent keep n0 ρ S T → W k T → W k S
  draw : ∀ (id : Nat) (ops : Array Oper) (k : List KI) (S : St), (∀ l ∈ ords ops.toList ops.toList.length (List.replicate ops.toList.length false), W (.run ops.toList (pickOps ops.toList l) :: k) { S with Lt := [] }) →
    W (.code (.region id ops true) :: k) S

theorem rules_wp {C : Cx} (hC : C.Ok) : Rules C.E C.N C.keep C.n0 C.fin (WP C) := by
  refine ⟨fun pls k S h => vcK_sound hC (fun _ _ h => h) _ k S (Nat.le_refl _) h, fun c k S Y st Φ μ h0 hr => wp_loopF st Φ μ h0 hr, fun c k S its Φ μ h0 hr => ?_, fun l k S its Φ h1 h2 => ?_, fun l k S p h1 h2 => wp_cut l h1 h2, fun k S T ρ h h1 => wp_ent h h1,
    fun id ops k S h => wp_draw hC h⟩
  · refine wp_loopF (Y := List PV) (itSt S its) Φ μ (itOk_ex h0) fun y hy => ?_
    have h1 := hr y hy
    intro a w hat
    have := h1 a w hat
    refine xt_lift (k1 := .post (itOk C.keep C.n0 S its fun ps => Φ ps ∧ μ ps < μ y) :: k) ?_ [.code c] _ _ _ this
    intro e a w hx
    cases e with
    | normal =>
      obtain ⟨S', h, hp⟩ := hx
      obtain ⟨ps, ρ, q1, q2⟩ := itOk_ex hp
      exact ⟨S', h, ps, ρ, q1.1, q1.2, q2⟩
    | _ => exact hx
  · refine wp_cut l h1 fun S' hS' => ?_
    obtain ⟨ps, ρ, q1, q2⟩ := itOk_ex hS'
    exact wp_ent q2 (h2 ps q1)

end Go.Proofs.Ytmjjdfhpnckacab
