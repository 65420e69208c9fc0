/-
  Regions that draw their order: what only reads is taken first; what is left is branched over.
  Conditions: none.
-/
import Derived.Test.YtmjjdfhpnckacabFlow
import Derived.OrdersHeld
namespace Go.Proofs.Ytmjjdfhpnckacab
set_option linter.unusedVariables false

section
variable {P : Program} {ops : Array Oper} {Q : Exit → Act → World → Prop} {md : Region.Mode}

/-- Whatever order is picked; behind an operation outside of bs what there was is as it was. -/
def wpH (P : Program) (md : Region.Mode) (ops : Array Oper) (Q : Exit → Act → World → Prop) (bs : List Nat) : Nat → Array Bool → Act → World → Prop
  | 0, listed, a, w => Region.ready md ops listed = [] ∧ Q .normal a w
  | fuel + 1, listed, a, w =>
    (Region.ready md ops listed = [] → Q .normal a w) ∧
    ∀ i ∈ Region.ready md ops listed, wpOp P ops Q i (fun a' w' => (i ∉ bs → Fr w [] w') ∧ wpH P md ops Q bs fuel (listed.setIfInBounds i true) a' w') a w

theorem wpAny_of_H {bs : List Nat} : ∀ (fuel : Nat) (listed : Array Bool) (a : Act) (w : World), wpH P md ops Q bs fuel listed a w → wpAny P md ops Q fuel listed a w
  | 0, _, _, _, h => h
  | fuel + 1, _, _, _, h => ⟨h.1, fun i hi => wpOp_mono (fun a' w' h' => wpAny_of_H fuel _ a' w' h'.2) (h.2 i hi)⟩

/-- Number j waits for number i. -/
def blk (ops : Array Oper) (listed : Array Bool) (i : Nat) : Nat → Nat → Bool
  | 0, _ => false
  | f + 1, j => match ops[j]? with
    | none => false
    | some o => o.after.toList.any fun e => Region.binds .any e && (e.on == i || (!listed.getD e.on true && blk ops listed i f e.on))

theorem getD_ff {l : Array Bool} {i : Nat} (h : l.getD i true = false) : l.getD i false = false := by
  rcases Nat.lt_or_ge i l.size with h' | h'
  · simp [h'] at h ⊢; exact h
  · simp [Array.getElem?_eq_none h'] at h

theorem blk_ready {listed : Array Bool} {i : Nat} (hi : listed.getD i true = false) : ∀ {f j : Nat}, blk ops listed i f j = true → j ∉ Region.ready .any ops listed
  | 0, j, h => by simp [blk] at h
  | f + 1, j, h => by
    intro hr
    obtain ⟨_, o, ho, hall⟩ := mem_ready.1 hr
    simp only [blk, ho, List.any_eq_true, Bool.and_eq_true, Bool.or_eq_true, beq_iff_eq, Bool.not_eq_true'] at h
    obtain ⟨e, he, hb, h⟩ := h
    have h1 := hall e (by simpa using he) hb
    rcases h with rfl | ⟨h2, _⟩
    · rw [getD_ff hi] at h1; cases h1
    · rw [getD_ff h2] at h1; cases h1

theorem blk_mono {listed : Array Bool} {i k : Nat} (hi : listed.getD i true = false) (hk : k ∈ Region.ready .any ops listed) : ∀ {f j : Nat}, blk ops listed i f j = true → blk ops (listed.setIfInBounds k true) i f j = true
  | 0, j, h => by simp [blk] at h
  | f + 1, j, h => by
    simp only [blk] at h ⊢
    split at h
    · cases h
    · simp only [List.any_eq_true, Bool.and_eq_true, Bool.or_eq_true, beq_iff_eq, Bool.not_eq_true'] at h ⊢
      obtain ⟨e, he, hb, h⟩ := h
      refine ⟨e, he, hb, ?_⟩
      rcases h with h | ⟨h2, h3⟩
      · exact .inl h
      · have : k ≠ e.on := fun e' => by subst e'; exact blk_ready hi h3 hk
        exact .inr ⟨by rw [getD_set_ne true this]; exact h2, blk_mono hi hk h3⟩

/-- What only reads may be taken first, if nothing that writes can come up before it. -/
theorem wpH_first {bs : List Nat} {i : Nat} {oi : Oper} {v : Value} (hi : ops[i]? = some oi) (hsel : ∀ (j : Nat) (o : Oper) cs b, ops[j]? = some o → o.op ≠ .select cs b)
    (hQ : ∀ c a w, Q (.panic c) (a.put oi.dst v) w → Q (.panic c) a w) :
    ∀ (fuel : Nat) (listed : Array Bool) (a : Act) (w : World),
      (∀ j oj, ops[j]? = some oj → j ≠ i → listed.getD j true = false → (∀ e ∈ oj.after, Region.binds .any e = true → e.on ≠ i) → oi.apart ops oj = true) →
      (∀ j ∈ bs, j ≠ i → listed.getD j true = false → ∃ f, blk ops listed i f j = true) →
      i ∈ Region.ready .any ops listed → YieldsIf P ops (fun w1 => Fr w [] w1) oi v a →
      wpH P .any ops Q bs fuel (listed.setIfInBounds i true) (a.put oi.dst v) w → wpH P .any ops Q bs (fuel + 1) listed a w := by
  intro fuel
  induction fuel with
  | zero =>
    intro listed a w _ _ hr hy H
    refine ⟨fun h => (by rw [h] at hr; cases hr), fun j hj => ?_⟩
    by_cases hji : j = i
    · subst hji; exact hy.wpOp hi (Fr.refl _ _) ⟨fun _ => Fr.refl _ _, H⟩
    · have := ready_mono hj hji
      rw [H.1] at this
      cases this
  | succ fuel ih =>
    intro listed a w hfree hbs hr hy H
    have hiun := (mem_ready.1 hr).1
    refine ⟨fun h => (by rw [h] at hr; cases hr), fun j hj => ?_⟩
    by_cases hji : j = i
    · subst hji; exact hy.wpOp hi (Fr.refl _ _) ⟨fun _ => Fr.refl _ _, H⟩
    · have h1 := H.2 j (ready_mono hj hji)
      obtain ⟨hjun, oj, hoj, hall⟩ := mem_ready.1 hj
      have hjb : j ∉ bs := fun hm => by
        obtain ⟨f, hf⟩ := hbs j hm hji hjun
        exact blk_ready hiun hf hj
      have hnot : ∀ e ∈ oj.after, Region.binds .any e = true → e.on ≠ i := fun e he hb heq => by
        have h1 := hall e he hb
        rw [heq, getD_ff hiun] at h1; cases h1
      have h2 := wpOp_putIf hoj (hfree j oj hoj hji hjun hnot) (fun cs b => hsel i oi cs b hi) (fun cs b => hsel j oj cs b hoj) hQ hy h1
      refine wpOp_mono (fun a' w' h3 => ?_) h2
      obtain ⟨h4, h5, h6⟩ := h3
      have hF := h5 hjb
      refine ⟨fun _ => hF, ih (listed.setIfInBounds j true) a' w' ?_ ?_ (ready_mono hr (Ne.symm hji)) ?_ ?_⟩
      · intro k ok hk hki hun hno
        refine hfree k ok hk hki ?_ hno
        by_cases hjk : j = k
        · subst hjk; exact hjun
        · rw [getD_set_ne true hjk] at hun; exact hun
      · intro k hk hki hun
        have : listed.getD k true = false := by
          by_cases hjk : j = k
          · subst hjk; exact hjun
          · rw [getD_set_ne true hjk] at hun; exact hun
        obtain ⟨f, hf⟩ := hbs k hk hki this
        exact ⟨f, blk_mono hiun hj hf⟩
      · rcases h4 with ⟨q1, q2⟩ | q
        · exact .inl ⟨q1, fun w1 hw1 => q2 w1 (hF.trans hw1 (by simp) (by simp))⟩
        · exact .inr q
      · rw [Array.setIfInBounds_comm _ _ hji]
        exact h6

/-- What does not look at the world may be taken first whatever comes. -/
theorem wpH_firstU {bs : List Nat} {i : Nat} {oi : Oper} {v : Value} (hi : ops[i]? = some oi) (hsel : ∀ (j : Nat) (o : Oper) cs b, ops[j]? = some o → o.op ≠ .select cs b)
    (hQ : ∀ c a w, Q (.panic c) (a.put oi.dst v) w → Q (.panic c) a w) :
    ∀ (fuel : Nat) (listed : Array Bool) (a : Act) (w : World),
      (∀ j oj, ops[j]? = some oj → j ≠ i → listed.getD j true = false → (∀ e ∈ oj.after, Region.binds .any e = true → e.on ≠ i) → oi.apart ops oj = true) →
      i ∈ Region.ready .any ops listed → YieldsIf P ops (fun _ => True) oi v a →
      wpH P .any ops Q bs fuel (listed.setIfInBounds i true) (a.put oi.dst v) w → wpH P .any ops Q bs (fuel + 1) listed a w := by
  intro fuel
  induction fuel with
  | zero =>
    intro listed a w _ hr hy H
    refine ⟨fun h => (by rw [h] at hr; cases hr), fun j hj => ?_⟩
    by_cases hji : j = i
    · subst hji; exact hy.wpOp hi trivial ⟨fun _ => Fr.refl _ _, H⟩
    · have := ready_mono hj hji
      rw [H.1] at this
      cases this
  | succ fuel ih =>
    intro listed a w hfree hr hy H
    have hiun := (mem_ready.1 hr).1
    refine ⟨fun h => (by rw [h] at hr; cases hr), fun j hj => ?_⟩
    by_cases hji : j = i
    · subst hji; exact hy.wpOp hi trivial ⟨fun _ => Fr.refl _ _, H⟩
    · have h1 := H.2 j (ready_mono hj hji)
      obtain ⟨hjun, oj, hoj, hall⟩ := mem_ready.1 hj
      have hnot : ∀ e ∈ oj.after, Region.binds .any e = true → e.on ≠ i := fun e he hb heq => by
        have h1 := hall e he hb
        rw [heq, getD_ff hiun] at h1; cases h1
      have h2 := wpOp_putIf hoj (hfree j oj hoj hji hjun hnot) (fun cs b => hsel i oi cs b hi) (fun cs b => hsel j oj cs b hoj) hQ hy h1
      refine wpOp_mono (fun a' w' h3 => ?_) h2
      obtain ⟨h4, h5, h6⟩ := h3
      refine ⟨h5, ih (listed.setIfInBounds j true) a' w' ?_ (ready_mono hr (Ne.symm hji)) h4 ?_⟩
      · intro k ok hk hki hun hno
        refine hfree k ok hk hki ?_ hno
        by_cases hjk : j = k
        · subst hjk; exact hjun
        · rw [getD_set_ne true hjk] at hun; exact hun
      · rw [Array.setIfInBounds_comm _ _ hji]
        exact h6

end

/-- In which order a region is gone through: what only reads is taken; else each that may come up. -/
inductive Pl where
  | done | take (i : Nat) (p : Pl) | alt (i : Nat) (p q : Pl) | stop

def stillB (o : Op) : Bool :=
  match o with
  | .move _ => true | .pick _ _ _ => true | .load _ _ => true | .fieldAddr _ _ _ => true | .indexAddr _ _ _ => true | .index _ _ _ => true | .binOp _ _ _ _ _ => true | .unOp _ _ _ => true | .nilCheck _ => true | .extract _ _ => true | .build _ _ => true | .convert _ _ _ => true | .slice _ _ _ _ _ => true
  | .call c => (match c.callee with | .builtin .len => true | .builtin .min => true | .builtin .max => true | _ => false)
  | _ => false

theorem stillB_P {o : Op} (h : stillB o = true) : (stillP o ∨ convP o) ∧ calls o = false := by
  unfold stillB at h
  unfold stillP convP calls
  split at h <;> first | exact ⟨.inl trivial, rfl⟩ | exact ⟨.inr trivial, rfl⟩ | (cases h; done) | skip
  rename_i c
  split at h <;> first | (cases h; done) | skip
  all_goals (rename_i hc; simp [hc])

/-- An operation that does not look at the world. -/
def pureB (o : Op) : Bool := match o with | .move _ => true | .nilCheck _ => true | .binOp _ _ _ _ _ => true | .fieldAddr _ _ _ => true | _ => false

/-- Each order that may come up is in the plan. -/
def chk (ops : Array Oper) (bs : List Nat) : Nat → Pl → Array Bool → List Nat → Bool
  | _, .done, m, _ => (Region.ready .any ops m).isEmpty
  | f + 1, .take i p, m, _ => (Region.ready .any ops m).contains i && Region.free .any ops m i && (match ops[i]? with | some o => stillB o.op && o.dst.isSome | none => false) &&
      ((match ops[i]? with | some o => pureB o.op | none => false) || bs.all fun j => j == i || m.getD j true || blk ops m i ops.size j) && chk ops bs f p (m.setIfInBounds i true) []
  | f + 1, .alt i p q, m, acc => chk ops bs f p (m.setIfInBounds i true) [] && chk ops bs (f + 1) q m (i :: acc)
  | _ + 1, .stop, m, acc => !(Region.ready .any ops m).isEmpty && (Region.ready .any ops m).all fun i => acc.contains i
  | 0, _, _, _ => false

/-- A plan serves a region. -/
def planOk (ops : Array Oper) (bs : List Nat) (p : Pl) : Prop := Region.noSelect ops = true ∧ chk ops bs ops.size p (Array.replicate ops.size false) [] = true
instance (ops : Array Oper) (bs : List Nat) (p : Pl) : Decidable (planOk ops bs p) := by unfold planOk; infer_instance

/-- One operation, and what follows. -/
def stepD (E : Env) (N : Nat) (keep : List Nat) (all : List Oper) (b : Bool) (i : Nat) (S : St) (K : St → Prop) : Prop :=
  match all[i]? with
  | none => False
  | some o => match guardOf S all o.guard with
    | none => False
    | some g => match opRes E S g o with
      | none => False
      | some R => R.ob ∧ dstOk N keep g o.dst ∧ (b = false → g = true → growP o.op ∨ rdCall E S o.op) ∧ (b = true → g = true → convP o.op → R.n = S.n) ∧ (imp g R.hy → K (putS keep S g o.dst R))

def vcD (E : Env) (N : Nat) (keep : List Nat) (all : List Oper) (bs : List Nat) (K : St → Prop) : Pl → St → Prop
  | .done, S => K S
  | .take i p, S => stepD E N keep all true i S (vcD E N keep all bs K p)
  | .alt i p q, S => stepD E N keep all (memB bs i) i S (vcD E N keep all bs K p) ∧ vcD E N keep all bs K q S
  | .stop, _ => True

section
variable {C : Cx} {S : St} {a : Act} {w : World} {o : Oper} {R : RR} {g : Bool} {all l : List Oper} {k : List KI}

theorem xt_panic (hC : C.Ok) : ∀ (k : List KI) c a d v w, xt C k (.panic c) (a.put d v) w → xt C k (.panic c) a w
  | [], c, a, d, v, w, h => hC.pan c a d v w h
  | .code _ :: k, c, a, d, v, w, h => xt_panic hC k c a d v w h
  | .run _ _ :: k, c, a, d, v, w, h => xt_panic hC k c a d v w h
  | .blk _ :: k, c, a, d, v, w, h => xt_panic hC k c a d v w h
  | .post _ :: k, c, a, d, v, w, h => xt_panic hC k c a d v w h

theorem Sat.grow {N : Nat} {w0 : World} {X F : List Nat} {β : Nat → GV} {ϕ : Nat → List Nat} {w1 : World} (sat : Sat N w0 X F S β ϕ a w) (h : Fr w [] w1) : Sat N w0 X F S β ϕ a w1 :=
  ⟨sat.df, sat.sz, sat.lp, sat.lt, sat.hp.grow fun b hb => h.block b hb (by simp), sat.hb, sat.fr.trans h (fun x hx => hx) (by simp)⟩

/-- What only reads yields one value in all later worlds. -/
theorem op_uni {P : Program} {E : Env} {N : Nat} {w0 : World} {X F : List Nat} {β : Nat → GV} {ϕ : Nat → List Nat} (hE : EnvOk P E) (hs : stillB o.op = true) (hd : o.dst ≠ none) (hcv : convP o.op → R.n = S.n) (hR : opRes E S true o = some R) (sat : Sat N w0 X F S β ϕ a w) (hob : R.ob) :
    R.hy ∧ ∃ v β' ϕ', (∀ w1, Fr w [] w1 → (execOp a.eval o).run P w1 = .ok (.value v) w1) ∧ Post w0 X F S R β ϕ o.dst v w β' ϕ' := by
  obtain ⟨h1, h2⟩ := stillB_P hs
  replace h1 : stillP o.op ∨ (convP o.op ∧ R.n = S.n) := h1.imp id fun h => ⟨h, hcv h⟩
  obtain ⟨q1, v, w', β', ϕ', q2, q3, q4, _⟩ := op_snd hE h2 hR sat hob
  obtain ⟨rfl, q5, q6⟩ := q4 h1
  refine ⟨q1, v, β', ϕ', fun w1 hw1 => ?_, q3⟩
  rcases q6 with q6 | q6
  · obtain ⟨r1, v1, w1', β1, ϕ1, r2, r3, r4, _⟩ := op_snd hE h2 hR (sat.grow hw1) hob
    obtain ⟨rfl, r5, _⟩ := r4 h1
    have e1 := q3.v hd
    have e2 := r3.v hd
    have : v1 = v := by
      rw [e1, e2, SV.val_congr (n := S.n) q3.bt _ (by rw [← q6]; exact q3.lt), SV.val_congr (n := S.n) r3.bt _ (by rw [← q6]; exact q3.lt)]
    rw [← this]; exact r5
  · exact q6 w1 hw1

/-- What does not look at the world yields its value in each. -/
theorem op_free {P : Program} {E : Env} {N : Nat} {w0 : World} {X F : List Nat} {β : Nat → GV} {ϕ : Nat → List Nat} (hE : EnvOk P E) (hp : pureB o.op = true) (hR : opRes E S true o = some R) (sat : Sat N w0 X F S β ϕ a w) (hob : R.ob) :
    ∃ v, ∀ w1, (execOp a.eval o).run P w1 = .ok (.value v) w1 := by
  have hT := hE.ty
  cases ho : o.op <;> rw [ho] at hp <;> (try (simp [pureB] at hp; done))
  case move x => exact ⟨a.eval x, fun w1 => by simp [execOp, ho]⟩
  case nilCheck x =>
    unfold opRes at hR
    rw [ho] at hR
    simp only at hR
    split at hR
    · rename_i g' h off hx
      cases hR
      obtain ⟨x1, x2⟩ := ev_sound hx sat
      obtain ⟨x3, b, of, hb⟩ := x2 (hob rfl)
      simp only [SV.val, hb] at x3
      exact ⟨_, fun w1 => by simp [execOp, ho, x3]; rfl⟩
    · rename_i g' h i wd off hx
      cases hR
      obtain ⟨x1, x2⟩ := ev_sound hx sat
      obtain ⟨x3, b, of, hb⟩ := x2 (hob rfl)
      rw [val_elp hb] at x3
      exact ⟨_, fun w1 => by simp [execOp, ho, x3]; rfl⟩
    · cases hR
  case fieldAddr t x f =>
    unfold opRes at hR
    rw [ho] at hR
    simp only at hR
    split at hR
    · rename_i g' h off ti hx hti
      split at hR
      · rename_i fo ft hf
        cases hR
        obtain ⟨q1, q2⟩ := hob
        obtain ⟨x1, x2⟩ := ev_sound hx sat
        obtain ⟨x3, b, of, hb⟩ := x2 (q1 rfl)
        simp only [SV.val, hb] at x3
        exact ⟨_, fun w1 => by simp [execOp, ho, x3, run_fieldAt hT hti hf q2]; rfl⟩
      · cases hR
    · rename_i g' h i wd off ti hx hti
      split at hR
      · rename_i fo ft hf
        cases hR
        obtain ⟨q1, q2⟩ := hob
        obtain ⟨x1, x2⟩ := ev_sound hx sat
        obtain ⟨x3, b, of, hb⟩ := x2 (q1 rfl)
        rw [val_elp hb] at x3
        exact ⟨_, fun w1 => by simp [execOp, ho, x3, run_fieldAt hT hti hf q2]; rfl⟩
      · cases hR
    · cases hR
  case binOp op tx x y ty =>
    unfold opRes at hR
    rw [ho] at hR
    simp only at hR
    split at hR
    · rename_i g' k x1 g'' k' y1 hx hy
      split at hR
      · rename_i ob v hv
        cases hR
        obtain ⟨_, x2⟩ := ev_sound hx sat
        obtain ⟨_, y2⟩ := ev_sound hy sat
        obtain ⟨q1, q2, q3⟩ := hob rfl
        refine ⟨SV.val β v, fun w1 => ?_⟩
        obtain ⟨r1, r2, r3⟩ := binI_sound (P := P) (w := w1) hv q3 (x2 q1).2 β tx
        simp [execOp, ho, (x2 q1).1, (y2 q2).1, SV.val, eqGuard, r1]
      · cases hR
    · rename_i g' x1 g'' y1 hx hy
      split at hR
      · rename_i ob v hv
        cases hR
        obtain ⟨_, x2⟩ := ev_sound hx sat
        obtain ⟨_, y2⟩ := ev_sound hy sat
        obtain ⟨q1, q2, q3⟩ := hob rfl
        refine ⟨SV.val β v, fun w1 => ?_⟩
        obtain ⟨r1, r2, r3⟩ := binS_sound (P := P) (w := w1) hv q3 β tx
        simp [execOp, ho, (x2 q1).1, (y2 q2).1, SV.val, eqGuard, r1]
      · cases hR
    · rename_i g' x1 g'' y1 hx hy
      obtain ⟨_, x2⟩ := ev_sound hx sat
      obtain ⟨_, y2⟩ := ev_sound hy sat
      split at hR
      · rename_i ti hti
        cases hR
        obtain ⟨q1, q2, q3⟩ := hob rfl
        have hd := (hT _ _ hti).und
        rw [q3] at hd
        exact ⟨.bool (x1 == y1), fun w1 => by simp [execOp, ho, (x2 q1).1, (y2 q2).1, SV.val, eqGuard, binOp, run_equal_bool hd]⟩
      · rename_i ti hti
        cases hR
        obtain ⟨q1, q2, q3⟩ := hob rfl
        have hd := (hT _ _ hti).und
        rw [q3] at hd
        exact ⟨.bool (x1 != y1), fun w1 => by simp [execOp, ho, (x2 q1).1, (y2 q2).1, SV.val, eqGuard, binOp, run_equal_bool hd, bne]⟩
      · cases hR
    · cases hR

theorem step_sound {bs : List Nat} {b : Bool} {i : Nat} {K' : St → Prop} {Q : Exit → Act → World → Prop} (hC : C.Ok) (hat : At C S a w) (h : stepD C.E C.N C.keep all b i S K') :
    wpOp C.P all.toArray Q i (fun a' w' => (b = false → Fr w [] w') ∧ ∃ S', At C S' a' w' ∧ K' S') a w := by
  unfold stepD at h
  split at h
  · exact h.elim
  · rename_i o ho
    split at h
    · exact h.elim
    · rename_i g hg
      split at h
      · exact h.elim
      · rename_i R hR
        obtain ⟨hob, hd, hgr, _, hrest⟩ := h
        obtain ⟨kp, hn, β, ϕ, sat, h0⟩ := hat
        have hgs := guard_sound hg sat
        unfold wpOp
        simp only [List.getElem?_toArray, ho]
        cases g with
        | true =>
          rw [if_pos hgs]
          obtain ⟨hhy, hwp⟩ := op_sound hC.env hR sat hob
          exact .inl (hwp _ _ fun v w' β' ϕ' hp hf => ⟨fun hb => hf (hgr hb rfl), _, at_taken kp hn sat h0 hd hp, hrest fun _ => hhy⟩)
        | false =>
          rw [if_neg (by rw [hgs]; simp)]
          obtain ⟨hA, hRn⟩ := op_skip hR hob
          exact ⟨fun _ => Fr.refl _ _, _, at_skipped kp hn sat h0 hd hA hRn, hrest fun h => by cases h⟩

/-- The taken one: its value, the state behind it. -/
theorem take_sound {i : Nat} {K' : St → Prop} (hC : C.Ok) (hat : At C S a w) (ho : all[i]? = some o) (hs : stillB o.op = true) (hdd : o.dst ≠ none) (h : stepD C.E C.N C.keep all true i S K') :
    ∃ v, YieldsIf C.P all.toArray (fun w1 => Fr w [] w1) o v a ∧ ∃ S', At C S' (a.put o.dst v) w ∧ K' S' := by
  unfold stepD at h
  rw [ho] at h
  simp only at h
  split at h
  · exact h.elim
  · rename_i g hg
    split at h
    · exact h.elim
    · rename_i R hR
      obtain ⟨hob, hd, _, hcv, hrest⟩ := h
      obtain ⟨kp, hn, β, ϕ, sat, h0⟩ := hat
      have hgs := guard_sound hg sat
      cases g with
      | true =>
        obtain ⟨hhy, v, β', ϕ', hrun, hp⟩ := op_uni hC.env hs hdd (hcv (by trivial) rfl) hR sat hob
        exact ⟨v, .inl ⟨hgs, hrun⟩, _, at_taken kp hn sat h0 hd hp, hrest fun _ => hhy⟩
      | false =>
        obtain ⟨hA, hRn⟩ := op_skip hR hob
        exact ⟨undef, .inr ⟨hgs, rfl⟩, _, at_skipped kp hn sat h0 hd hA hRn, hrest fun h => by cases h⟩

theorem take_soundU {i : Nat} {K' : St → Prop} (hC : C.Ok) (hat : At C S a w) (ho : all[i]? = some o) (hs : stillB o.op = true) (hp : pureB o.op = true) (hdd : o.dst ≠ none) (h : stepD C.E C.N C.keep all true i S K') :
    ∃ v, YieldsIf C.P all.toArray (fun _ => True) o v a ∧ ∃ S', At C S' (a.put o.dst v) w ∧ K' S' := by
  unfold stepD at h
  rw [ho] at h
  simp only at h
  split at h
  · exact h.elim
  · rename_i g hg
    split at h
    · exact h.elim
    · rename_i R hR
      obtain ⟨hob, hd, _, hcv, hrest⟩ := h
      obtain ⟨kp, hn, β, ϕ, sat, h0⟩ := hat
      have hgs := guard_sound hg sat
      cases g with
      | true =>
        obtain ⟨hhy, v, β', ϕ', hrun, hps⟩ := op_uni hC.env hs hdd (hcv (by trivial) rfl) hR sat hob
        obtain ⟨v', hv'⟩ := op_free hC.env hp hR sat hob
        have e : v' = v := by
          have e1 := hrun w (Fr.refl _ _)
          rw [hv' w] at e1
          cases e1; rfl
        subst e
        exact ⟨v', .inl ⟨hgs, fun w1 _ => hv' w1⟩, _, at_taken kp hn sat h0 hd hps, hrest fun _ => hhy⟩
      | false =>
        obtain ⟨hA, hRn⟩ := op_skip hR hob
        exact ⟨undef, .inr ⟨hgs, rfl⟩, _, at_skipped kp hn sat h0 hd hA hRn, hrest fun h => by cases h⟩

theorem vcD_sound {bs : List Nat} {K : St → Prop} {Q : Exit → Act → World → Prop} (hC : C.Ok) (hns : Region.noSelect all.toArray = true) (hQ : ∀ c a d v w, Q (.panic c) (a.put d v) w → Q (.panic c) a w)
    (hK : ∀ S a w, K S → At C S a w → Q .normal a w) : ∀ (p : Pl) (f : Nat) (m : Array Bool) (acc : List Nat) (S : St) (a : Act) (w : World), chk all.toArray bs f p m acc = true → At C S a w → vcD C.E C.N C.keep all bs K p S →
    (∀ f', f = f' + 1 → ∀ i ∈ acc, wpOp C.P all.toArray Q i (fun a' w' => (i ∉ bs → Fr w [] w') ∧ wpH C.P .any all.toArray Q bs f' (m.setIfInBounds i true) a' w') a w) → wpH C.P .any all.toArray Q bs f m a w
  | .done, f, m, acc, S, a, w, hc, hat, hv, _ => by
    have hr : Region.ready .any all.toArray m = [] := by
      cases f <;> simpa [chk] using hc
    cases f with
    | zero => exact ⟨hr, hK S a w hv hat⟩
    | succ f => exact ⟨fun _ => hK S a w hv hat, fun i hi => by rw [hr] at hi; cases hi⟩
  | .take i p, 0, m, acc, S, a, w, hc, hat, hv, _ => by simp [chk] at hc
  | .take i p, f + 1, m, acc, S, a, w, hc, hat, hv, _ => by
    simp only [chk, Bool.and_eq_true] at hc
    obtain ⟨⟨⟨⟨c1, c2⟩, c3⟩, c4⟩, c5⟩ := hc
    split at c3
    · rename_i oi hoi
      simp only [Bool.and_eq_true] at c3
      have hoi' : all[i]? = some oi := by simpa using hoi
      have hdd : oi.dst ≠ none := by intro e; rw [e] at c3; simp at c3
      cases hpu : pureB oi.op with
      | true =>
        obtain ⟨v, y1, S', y2, y3⟩ := take_soundU hC hat hoi' c3.1 hpu hdd hv
        exact wpH_firstU hoi (Region.noSelect_spec hns) (fun c a w => hQ c a _ v w) f m a w (Region.free_spec hoi c2) (by simpa using c1) y1 (vcD_sound hC hns hQ hK p f _ [] S' _ w c5 y2 y3 (fun _ _ i hi => by cases hi))
      | false =>
        simp only [hoi, hpu, Bool.false_or] at c4
        obtain ⟨v, y1, S', y2, y3⟩ := take_sound hC hat hoi' c3.1 hdd hv
        refine wpH_first hoi (Region.noSelect_spec hns) (fun c a w => hQ c a _ v w) f m a w (Region.free_spec hoi c2) ?_ (by simpa using c1) y1 (vcD_sound hC hns hQ hK p f _ [] S' _ w c5 y2 y3 (fun _ _ i hi => by cases hi))
        intro j hj hji hun
        have := List.all_eq_true.1 c4 j hj
        simp only [Bool.or_eq_true, beq_iff_eq, hji, false_or, hun, Bool.false_eq_true] at this
        exact ⟨_, this⟩
    · cases c3
  | .alt i p q, 0, m, acc, S, a, w, hc, hat, hv, _ => by simp [chk] at hc
  | .alt i p q, f + 1, m, acc, S, a, w, hc, hat, hv, hacc => by
    simp only [chk, Bool.and_eq_true] at hc
    obtain ⟨hv1, hv2⟩ := hv
    refine vcD_sound hC hns hQ hK q (f + 1) m (i :: acc) S a w hc.2 hat hv2 fun f' hf' j hj => ?_
    cases hf'
    rcases List.mem_cons.1 hj with e | hj
    · subst e
      refine wpOp_mono (fun a' w' h3 => ?_) (step_sound (bs := bs) hC hat hv1)
      obtain ⟨h4, S', h5, h6⟩ := h3
      refine ⟨fun hb => h4 ?_, vcD_sound hC hns hQ hK p f _ [] S' a' w' hc.1 h5 h6 (fun _ _ i hi => by cases hi)⟩
      cases hm : memB bs j with
      | false => rfl
      | true => exact absurd (memB_iff.1 hm) hb
    · exact hacc f rfl j hj
  | .stop, 0, m, acc, S, a, w, hc, hat, hv, _ => by simp [chk] at hc
  | .stop, f + 1, m, acc, S, a, w, hc, hat, hv, hacc => by
    simp only [chk, Bool.and_eq_true, Bool.not_eq_true', List.all_eq_true, List.contains_iff_mem] at hc
    refine ⟨fun h => by rw [h] at hc; simp at hc, fun i hi => hacc f rfl i (hc.2 i hi)⟩

theorem at_drew (h : At C S a w) : At C S a { w with drawn := w.drawn + 1 } := by
  obtain ⟨kp, hn, β, ϕ, sat, h0⟩ := h
  exact ⟨kp, hn, β, ϕ, ⟨sat.df, sat.sz, sat.lp, sat.lt, sat.hp.world fun _ _ _ _ _ _ => rfl, sat.hb, ⟨sat.fr.os, sat.fr.tape, sat.fr.output, sat.fr.size, sat.fr.block⟩⟩, h0⟩

/-- A region that draws its order, by a plan. -/
theorem wp_plan {id : Nat} {ops : Array Oper} {bs : List Nat} {p : Pl} {K : St → Prop} (hC : C.Ok) (hK : ∀ S, K S → WP C k S) (hns : Region.noSelect ops = true) (hc : chk ops bs ops.size p (Array.replicate ops.size false) [] = true)
    (h : vcD C.E C.N C.keep ops.toList bs K p { S with Lt := [] }) : WP C (.code (.region id ops true) :: k) S := by
  intro a w hat
  refine wp_region_any hC.mix (wpAny_of_H (bs := bs) _ _ _ _ ?_)
  have := vcD_sound (all := ops.toList) (bs := bs) (K := K) (Q := xt C k) hC (by simpa using hns) (fun c a d v w => xt_panic hC k c a d v w) (fun S' a w hS hat => hK S' hS a w hat) p ops.size (Array.replicate ops.size false) [] { S with Lt := [] } a _ (by simpa using hc) (at_lt (at_drew hat)) h
    (fun _ _ i hi => by cases hi)
  simpa using this

end
end Go.Proofs.Ytmjjdfhpnckacab
