/-
  Part 5 of the proof of FnExactWorldOK: a verification-condition generator over the program and the contracts of its functions, in the order of their use.
  Conditions: none.
-/
import Derived.Test.YtkofjkjcbljkdaaGreatDoorM4
import Derived.OrdersHeld
set_option linter.unusedVariables false
set_option linter.unusedSimpArgs false
set_option linter.unusedSectionVars false

section
namespace Go.Proofs.YtkofjkjcbljkdaaGreatDoor
variable [LaidG]
set_option linter.unusedVariables false
section
variable {P : Program} {ops : Array Oper} {Q : Exit → Act → World → Prop} {md : Region.Mode}
def wpH (P : Program) (md : Region.Mode) (ops : Array Oper) (Q : Exit → Act → World → Prop) (bs : List Nat) (es : List (World → Prop)) : Nat → Array Bool → Act → World → Prop
  | 0, listed, a, w => Region.ready md ops listed = [] ∧ Q .normal a w
  | fuel + 1, listed, a, w =>
    (Region.ready md ops listed = [] → Q .normal a w) ∧
    ∀ i ∈ Region.ready md ops listed, wpOp P ops Q i (fun a' w' => ((i ∉ bs → Fr w [] w') ∧ (i ∈ bs → ∀ p ∈ es, p w')) ∧ wpH P md ops Q bs es fuel (listed.setIfInBounds i true) a' w') a w
theorem wpAny_of_H {bs : List Nat} {es : List (World → Prop)} : ∀ (fuel : Nat) (listed : Array Bool) (a : Act) (w : World), wpH P md ops Q bs es fuel listed a w → wpAny P md ops Q fuel listed a w
  | 0, _, _, _, h => h
  | fuel + 1, _, _, _, h => ⟨h.1, fun i hi => wpOp_mono (fun a' w' h' => wpAny_of_H fuel _ a' w' h'.2) (h.2 i hi)⟩
theorem wpH_sub {bs : List Nat} {es es' : List (World → Prop)} (hs : ∀ p ∈ es', p ∈ es) : ∀ (fuel : Nat) (listed : Array Bool) (a : Act) (w : World), wpH P md ops Q bs es fuel listed a w → wpH P md ops Q bs es' fuel listed a w
  | 0, _, _, _, h => h
  | fuel + 1, _, _, _, h => ⟨h.1, fun i hi => wpOp_mono (fun a' w' h' => ⟨⟨h'.1.1, fun hb p hp => h'.1.2 hb p (hs p hp)⟩, wpH_sub hs fuel _ a' w' h'.2⟩) (h.2 i hi)⟩
def blk (ops : Array Oper) (listed : Array Bool) (i : Nat) : Nat → Nat → Bool
  | 0, _ => false
  | f + 1, j => match ops[j]? with
    | none => false
    | some o => o.after.toList.any fun e => Region.binds .any e && (e.on == i || (!listed.getD e.on true && blk ops listed i f e.on))
theorem getD_ff {l : Array Bool} {i : Nat} (h : l.getD i true = false) : l.getD i false = false := by
  rcases Nat.lt_or_ge i l.size with h' | h'
  · simp [h'] at h ⊢; exact h
  · simp [Array.getElem?_eq_none h'] at h
theorem blk_ready {listed : Array Bool} {i : Nat} (hi : listed.getD i true = false) : ∀ {f j : Nat}, blk ops listed i f j = true → j ∉ Region.ready .any ops listed
  | 0, j, h => by simp [blk] at h
  | f + 1, j, h => by
    intro hr
    obtain ⟨_, o, ho, hall⟩ := mem_ready.1 hr
    simp only [blk, ho, List.any_eq_true, Bool.and_eq_true, Bool.or_eq_true, beq_iff_eq, Bool.not_eq_true'] at h
    obtain ⟨e, he, hb, h⟩ := h
    have h1 := hall e (by simpa using he) hb
    rcases h with rfl | ⟨h2, _⟩
    · rw [getD_ff hi] at h1; cases h1
    · rw [getD_ff h2] at h1; cases h1
theorem blk_mono {listed : Array Bool} {i k : Nat} (hi : listed.getD i true = false) (hk : k ∈ Region.ready .any ops listed) : ∀ {f j : Nat}, blk ops listed i f j = true → blk ops (listed.setIfInBounds k true) i f j = true
  | 0, j, h => by simp [blk] at h
  | f + 1, j, h => by
    simp only [blk] at h ⊢
    split at h
    · cases h
    · simp only [List.any_eq_true, Bool.and_eq_true, Bool.or_eq_true, beq_iff_eq, Bool.not_eq_true'] at h ⊢
      obtain ⟨e, he, hb, h⟩ := h
      refine ⟨e, he, hb, ?_⟩
      rcases h with h | ⟨h2, h3⟩
      · exact .inl h
      · have : k ≠ e.on := fun e' => by subst e'; exact blk_ready hi h3 hk
        exact .inr ⟨by rw [getD_set_ne true this]; exact h2, blk_mono hi hk h3⟩
theorem wpH_first {bs : List Nat} {es : List (World → Prop)} {i : Nat} {oi : Oper} {v : Value} (hi : ops[i]? = some oi) (hsel : ∀ (j : Nat) (o : Oper) cs b, ops[j]? = some o → o.op ≠ .select cs b)
    (hQ : ∀ c a w, Q (.panic c) (a.put oi.dst v) w → Q (.panic c) a w) (hib : i ∉ bs) :
    ∀ (fuel : Nat) (listed : Array Bool) (a : Act) (w : World),
      (∀ j oj, ops[j]? = some oj → j ≠ i → listed.getD j true = false → (∀ e ∈ oj.after, Region.binds .any e = true → e.on ≠ i) → oi.apart ops oj = true) →
      (∀ j ∈ bs, j ≠ i → listed.getD j true = false → ∃ f, blk ops listed i f j = true) →
      i ∈ Region.ready .any ops listed → YieldsIf P ops (fun w1 => Fr w [] w1) oi v a →
      wpH P .any ops Q bs es fuel (listed.setIfInBounds i true) (a.put oi.dst v) w → wpH P .any ops Q bs es (fuel + 1) listed a w := by
  intro fuel
  induction fuel with
  | zero =>
    intro listed a w _ _ hr hy H
    refine ⟨fun h => (by rw [h] at hr; cases hr), fun j hj => ?_⟩
    by_cases hji : j = i
    · subst hji; exact hy.wpOp hi (Fr.refl _ _) ⟨⟨fun _ => Fr.refl _ _, fun h => absurd h hib⟩, H⟩
    · have := ready_mono hj hji
      rw [H.1] at this
      cases this
  | succ fuel ih =>
    intro listed a w hfree hbs hr hy H
    have hiun := (mem_ready.1 hr).1
    refine ⟨fun h => (by rw [h] at hr; cases hr), fun j hj => ?_⟩
    by_cases hji : j = i
    · subst hji; exact hy.wpOp hi (Fr.refl _ _) ⟨⟨fun _ => Fr.refl _ _, fun h => absurd h hib⟩, H⟩
    · have h1 := H.2 j (ready_mono hj hji)
      obtain ⟨hjun, oj, hoj, hall⟩ := mem_ready.1 hj
      have hjb : j ∉ bs := fun hm => by
        obtain ⟨f, hf⟩ := hbs j hm hji hjun
        exact blk_ready hiun hf hj
      have hnot : ∀ e ∈ oj.after, Region.binds .any e = true → e.on ≠ i := fun e he hb heq => by
        have h1 := hall e he hb
        rw [heq, getD_ff hiun] at h1; cases h1
      have h2 := wpOp_putIf hoj (hfree j oj hoj hji hjun hnot) (fun cs b => hsel i oi cs b hi) (fun cs b => hsel j oj cs b hoj) hQ hy h1
      refine wpOp_mono (fun a' w' h3 => ?_) h2
      obtain ⟨h4, h5, h6⟩ := h3
      have hF := h5.1 hjb
      refine ⟨⟨fun _ => hF, h5.2⟩, ih (listed.setIfInBounds j true) a' w' ?_ ?_ (ready_mono hr (Ne.symm hji)) ?_ ?_⟩
      · intro k ok hk hki hun hno
        refine hfree k ok hk hki ?_ hno
        by_cases hjk : j = k
        · subst hjk; exact hjun
        · rw [getD_set_ne true hjk] at hun; exact hun
      · intro k hk hki hun
        have : listed.getD k true = false := by
          by_cases hjk : j = k
          · subst hjk; exact hjun
          · rw [getD_set_ne true hjk] at hun; exact hun
        obtain ⟨f, hf⟩ := hbs k hk hki this
        exact ⟨f, blk_mono hiun hj hf⟩
      · rcases h4 with ⟨q1, q2⟩ | q
        · exact .inl ⟨q1, fun w1 hw1 => q2 w1 (hF.trans hw1 (by simp) (by simp))⟩
        · exact .inr q
      · rw [Array.setIfInBounds_comm _ _ hji]
        exact h6
theorem wpH_firstU {bs : List Nat} {es : List (World → Prop)} {i : Nat} {oi : Oper} {v : Value} (hi : ops[i]? = some oi) (hsel : ∀ (j : Nat) (o : Oper) cs b, ops[j]? = some o → o.op ≠ .select cs b)
    (hQ : ∀ c a w, Q (.panic c) (a.put oi.dst v) w → Q (.panic c) a w) (hib : i ∉ bs) :
    ∀ (fuel : Nat) (listed : Array Bool) (a : Act) (w : World),
      (∀ j oj, ops[j]? = some oj → j ≠ i → listed.getD j true = false → (∀ e ∈ oj.after, Region.binds .any e = true → e.on ≠ i) → oi.apart ops oj = true) →
      i ∈ Region.ready .any ops listed → YieldsIf P ops (fun _ => True) oi v a →
      wpH P .any ops Q bs es fuel (listed.setIfInBounds i true) (a.put oi.dst v) w → wpH P .any ops Q bs es (fuel + 1) listed a w := by
  intro fuel
  induction fuel with
  | zero =>
    intro listed a w _ hr hy H
    refine ⟨fun h => (by rw [h] at hr; cases hr), fun j hj => ?_⟩
    by_cases hji : j = i
    · subst hji; exact hy.wpOp hi trivial ⟨⟨fun _ => Fr.refl _ _, fun h => absurd h hib⟩, H⟩
    · have := ready_mono hj hji
      rw [H.1] at this
      cases this
  | succ fuel ih =>
    intro listed a w hfree hr hy H
    have hiun := (mem_ready.1 hr).1
    refine ⟨fun h => (by rw [h] at hr; cases hr), fun j hj => ?_⟩
    by_cases hji : j = i
    · subst hji; exact hy.wpOp hi trivial ⟨⟨fun _ => Fr.refl _ _, fun h => absurd h hib⟩, H⟩
    · have h1 := H.2 j (ready_mono hj hji)
      obtain ⟨hjun, oj, hoj, hall⟩ := mem_ready.1 hj
      have hnot : ∀ e ∈ oj.after, Region.binds .any e = true → e.on ≠ i := fun e he hb heq => by
        have h1 := hall e he hb
        rw [heq, getD_ff hiun] at h1; cases h1
      have h2 := wpOp_putIf hoj (hfree j oj hoj hji hjun hnot) (fun cs b => hsel i oi cs b hi) (fun cs b => hsel j oj cs b hoj) hQ hy h1
      refine wpOp_mono (fun a' w' h3 => ?_) h2
      obtain ⟨h4, h5, h6⟩ := h3
      refine ⟨h5, ih (listed.setIfInBounds j true) a' w' ?_ (ready_mono hr (Ne.symm hji)) h4 ?_⟩
      · intro k ok hk hki hun hno
        refine hfree k ok hk hki ?_ hno
        by_cases hjk : j = k
        · subst hjk; exact hjun
        · rw [getD_set_ne true hjk] at hun; exact hun
      · rw [Array.setIfInBounds_comm _ _ hji]
        exact h6
def Ys (P : Program) (o : Oper) (f : Operand → Value) (v : Value) (w : World) : Prop := ∀ w1, Fr w [] w1 → (execOp f o).run P w1 = .ok (.value v) w1
theorem Ys.grow {o : Oper} {f : Operand → Value} {v : Value} {w w' : World} (h : Ys P o f v w) (hf : Fr w [] w') : Ys P o f v w' := fun w1 hw1 => h w1 (hf.trans hw1 (by simp) (by simp))
theorem wpH_firstS {bs : List Nat} {es : List (World → Prop)} {i : Nat} {oi : Oper} {f : Operand → Value} {v : Value} (hi : ops[i]? = some oi) (hsel : ∀ (j : Nat) (o : Oper) cs b, ops[j]? = some o → o.op ≠ .select cs b)
    (hQ : ∀ c a w, Q (.panic c) (a.put oi.dst v) w → Q (.panic c) a w) (hib : i ∉ bs) :
    ∀ (fuel : Nat) (listed : Array Bool) (a : Act) (w : World),
      (∀ j oj, ops[j]? = some oj → j ≠ i → listed.getD j true = false → (∀ e ∈ oj.after, Region.binds .any e = true → e.on ≠ i) → oi.apart ops oj = true) →
      i ∈ Region.ready .any ops listed → YieldsIf P ops (fun w1 => (execOp f oi).run P w1 = .ok (.value v) w1) oi v a → Ys P oi f v w →
      wpH P .any ops Q bs (Ys P oi f v :: es) fuel (listed.setIfInBounds i true) (a.put oi.dst v) w → wpH P .any ops Q bs es (fuel + 1) listed a w := by
  intro fuel
  induction fuel with
  | zero =>
    intro listed a w _ hr hy hY H
    refine ⟨fun h => (by rw [h] at hr; cases hr), fun j hj => ?_⟩
    by_cases hji : j = i
    · subst hji; exact hy.wpOp hi (hY w (Fr.refl _ _)) ⟨⟨fun _ => Fr.refl _ _, fun h => absurd h hib⟩, wpH_sub (fun p hp => List.mem_cons_of_mem _ hp) _ _ _ _ H⟩
    · have := ready_mono hj hji
      rw [H.1] at this
      cases this
  | succ fuel ih =>
    intro listed a w hfree hr hy hY H
    have hiun := (mem_ready.1 hr).1
    refine ⟨fun h => (by rw [h] at hr; cases hr), fun j hj => ?_⟩
    by_cases hji : j = i
    · subst hji; exact hy.wpOp hi (hY w (Fr.refl _ _)) ⟨⟨fun _ => Fr.refl _ _, fun h => absurd h hib⟩, wpH_sub (fun p hp => List.mem_cons_of_mem _ hp) _ _ _ _ H⟩
    · have h1 := H.2 j (ready_mono hj hji)
      obtain ⟨hjun, oj, hoj, hall⟩ := mem_ready.1 hj
      have hnot : ∀ e ∈ oj.after, Region.binds .any e = true → e.on ≠ i := fun e he hb heq => by
        have h1 := hall e he hb
        rw [heq, getD_ff hiun] at h1; cases h1
      have h2 := wpOp_putIf hoj (hfree j oj hoj hji hjun hnot) (fun cs b => hsel i oi cs b hi) (fun cs b => hsel j oj cs b hoj) hQ hy h1
      refine wpOp_mono (fun a' w' h3 => ?_) h2
      obtain ⟨h4, h5, h6⟩ := h3
      have hY' : Ys P oi f v w' := by
        by_cases hjb : j ∈ bs
        · exact h5.2 hjb _ (List.mem_cons_self ..)
        · exact hY.grow (h5.1 hjb)
      refine ⟨⟨h5.1, fun hb p hp => h5.2 hb p (List.mem_cons_of_mem _ hp)⟩, ih (listed.setIfInBounds j true) a' w' ?_ (ready_mono hr (Ne.symm hji)) h4 hY' ?_⟩
      · intro k ok hk hki hun hno
        refine hfree k ok hk hki ?_ hno
        by_cases hjk : j = k
        · subst hjk; exact hjun
        · rw [getD_set_ne true hjk] at hun; exact hun
      · rw [Array.setIfInBounds_comm _ _ hji]
        exact h6
theorem put_ne {a : Act} {d : Option Nat} {v : Value} {t : Nat} (h : d ≠ some t) : (a.put d v).tmps[t]? = a.tmps[t]? := by
  unfold Act.put
  split
  · rename_i d
    have : d ≠ t := fun e => h (by rw [e])
    simp [Array.getElem?_setIfInBounds, this]
  · rfl
theorem wpOp_keeps {i : Nat} {o : Oper} (hi : ops[i]? = some o) {K : Act → World → Prop} {a : Act} {w : World} (h : wpOp P ops Q i K a w) :
    wpOp P ops Q i (fun a' w' => K a' w' ∧ ∃ u, a'.tmps = (a.put o.dst u).tmps) a w := by
  unfold wpOp at *
  simp only [hi] at *
  split
  · rename_i hw
    simp only [hw, if_true] at h
    rcases h with h | h
    · refine .inl ?_
      unfold Oper.wp at *
      generalize (execOp a.eval o).run P w = r at *
      cases r with
      | ok n w' =>
        cases n <;> simp only [Oper.upon] at h ⊢
        case value u => exact ⟨h, u, rfl⟩
        case skip => exact ⟨h, undef, rfl⟩
        case defer d => exact ⟨h, undef, by unfold Act.put; split <;> rfl⟩
        case enter f args =>
          refine Calls.mono h fun e w'' he => ?_
          cases e with
          | returned u => exact ⟨he, u, rfl⟩
          | panicked c => exact he
          | outgrown => exact he
        case row row args => exact Rows.mono h fun u w'' he => ⟨he, u, rfl⟩
      | halt x w' =>
        cases x <;> simp only [Oper.upon] at h ⊢
        case panic u => exact h
    · exact .inr h
  · rename_i hw
    simp only [hw] at h
    exact ⟨h, undef, rfl⟩
end
inductive Pl where
  | done | take (i : Nat) (p : Pl) | tak2 (i : Nat) (p : Pl) | alt (i : Nat) (p q : Pl) | stop
def stillB (o : Op) : Bool :=
  match o with
  | .move _ => true | .pick _ _ _ => true | .load _ _ => true | .fieldAddr _ _ _ => true | .indexAddr _ _ _ => true | .index _ _ _ => true | .binOp _ _ _ _ _ => true | .unOp _ _ _ => true | .nilCheck _ => true | .extract _ _ => true | .build _ _ => true | .convert _ _ _ => true | .slice _ _ _ _ _ => true
  | .call c => (match c.callee with | .builtin .len => true | .builtin .min => true | .builtin .max => true | _ => false)
  | _ => false
theorem stillB_P {o : Op} (h : stillB o = true) : (stillP o ∨ convP o) ∧ calls o = false := by
  unfold stillB at h
  unfold stillP convP calls
  split at h <;> first | exact ⟨.inl trivial, rfl⟩ | exact ⟨.inr trivial, rfl⟩ | (cases h; done) | skip
  rename_i c
  split at h <;> first | (cases h; done) | skip
  all_goals (rename_i hc; simp [hc])
def pureB (o : Op) : Bool := match o with | .move _ => true | .nilCheck _ => true | .binOp _ _ _ _ _ => true | .fieldAddr _ _ _ => true | .slice _ _ _ _ _ => true | _ => false
def slcB (o : Op) : Bool := match o with | .slice _ _ _ _ _ => true | _ => false
def ldB (ops : Array Oper) (m : Array Bool) (i : Nat) : Bool :=
  match ops[i]? with
  | some o => stillB o.op && !slcB o.op && (match o.op with | .convert _ _ _ => false | _ => true) && o.guard.isNone && o.dst.isSome && (List.range ops.size).all fun j => j == i || m.getD j true || (match ops[j]? with | some oj => oj.dst != o.dst && (match oj.dst with | some d => !(o.looksAt ops).contains d | none => true) | none => true)
  | none => false
def chk (ops : Array Oper) (bs : List Nat) : Nat → Pl → Array Bool → List Nat → Bool
  | _, .done, m, _ => (Region.ready .any ops m).isEmpty
  | f + 1, .take i p, m, _ => (Region.ready .any ops m).contains i && Region.free .any ops m i && (match ops[i]? with | some o => stillB o.op && o.dst.isSome | none => false) &&
      ((match ops[i]? with | some o => pureB o.op | none => false) || bs.all fun j => j == i || m.getD j true || blk ops m i ops.size j) && !bs.contains i && chk ops bs f p (m.setIfInBounds i true) []
  | f + 1, .tak2 i p, m, _ => (Region.ready .any ops m).contains i && Region.free .any ops m i && ldB ops m i && (match ops[i]? with | some o => (match o.dst with | some d => !(o.looksAt ops).contains d | none => true) | none => true) && !bs.contains i && chk ops bs f p (m.setIfInBounds i true) []
  | f + 1, .alt i p q, m, acc => chk ops bs f p (m.setIfInBounds i true) [] && chk ops bs (f + 1) q m (i :: acc)
  | _ + 1, .stop, m, acc => !(Region.ready .any ops m).isEmpty && (Region.ready .any ops m).all fun i => acc.contains i
  | 0, _, _, _ => false
def planOk (ops : Array Oper) (bs : List Nat) (p : Pl) : Prop := Region.noSelect ops = true ∧ chk ops bs ops.size p (Array.replicate ops.size false) [] = true
instance (ops : Array Oper) (bs : List Nat) (p : Pl) : Decidable (planOk ops bs p) := by unfold planOk; infer_instance
def vwCall (E : Env) (S : St) (o : Op) : Bool :=
  match o with
  | .call c => (match c.callee with
    | .value f => (match S.ev f, evs S true c.args.toList with
      | some (_, .fn f _), some (_, vs) => (match findFn E.fn f (closes vs) with | some s => !s.fresh | none => false)
      | _, _ => false)
    | _ => false)
  | _ => false
def skipR (S : St) : RR := ⟨True, True, .bool false, S.A, S.n⟩
def isLs : List PTy → Bool
  | [] => false
  | .list _ :: _ => true
  | _ :: r => isLs r
def ldLs (E : Env) (S : St) (o : Op) : Bool := match o with | .load t x => (match S.ev x, lk E.ty t with | some (_, .elp _ _ _ _), some ti => isLs ti.leaves | _, _ => false) | _ => false
def splG (E : Env) (S : St) (o : Op) : Bool := if vwCall E S o then true else ldLs E S o
def stepD (E : Env) (N : Nat) (keep : List Nat) (all : List Oper) (b : Bool) (i : Nat) (S : St) (K : St → Prop) : Prop :=
  match all[i]? with
  | none => False
  | some o => match guardOf S all o.guard with
    | none => False
    | some g => match opRes E S g o with
      | none => g = false ∧ dstOk N keep false o.dst ∧ K (putS keep S false o.dst (skipR S))
      | some R => if splG E S o.op then (g = true → R.ob ∧ dstOk N keep true o.dst ∧ (b = false → growP o.op ∨ rdCall E S o.op) ∧ (b = true → convP o.op → slcB o.op = true ∨ R.n = S.n) ∧ (R.hy → K (putS keep S true o.dst R))) ∧ (g = false → dstOk N keep false o.dst ∧ K (putS keep S false o.dst (skipR S)))
        else R.ob ∧ dstOk N keep g o.dst ∧ (b = false → g = true → growP o.op ∨ rdCall E S o.op) ∧ (b = true → g = true → convP o.op → slcB o.op = true ∨ R.n = S.n) ∧ (imp g R.hy → K (putS keep S g o.dst R))
def stays (E : Env) (S : St) : List (Oper × Nat) → Prop
  | [] => True
  | (o, d) :: r => (match S.slot d, opRes E S true o with | some (true, sv), some R => R.ob ∧ R.sv = sv ∧ R.n = S.n | _, _ => False) ∧ stays E S r
def vcD (E : Env) (N : Nat) (keep : List Nat) (all : List Oper) (bs : List Nat) (K : St → Prop) : List (Oper × Nat) → Pl → St → Prop
  | _, .done, S => K S
  | es, .take i p, S => stepD E N keep all true i S (vcD E N keep all bs K es p)
  | es, .tak2 i p, S => (match all[i]? with | some o => stepD E N keep all true i S (vcD E N keep all bs K ((o, o.dst.getD 0) :: es) p) | none => False)
  | es, .alt i p q, S => stepD E N keep all (memB bs i) i S (fun S' => (if memB bs i then stays E S' es else True) ∧ vcD E N keep all bs K es p S') ∧ vcD E N keep all bs K es q S
  | _, .stop, _ => True
section
variable {C : Cx} {S : St} {a : Act} {w : World} {o : Oper} {R : RR} {g : Bool} {all l : List Oper} {k : List KI}
theorem xt_panic (hC : C.Ok) : ∀ (k : List KI) c a d v w, xt C k (.panic c) (a.put d v) w → xt C k (.panic c) a w
  | [], c, a, d, v, w, h => hC.pan c a d v w h
  | .code _ :: k, c, a, d, v, w, h => xt_panic hC k c a d v w h
  | .run _ _ :: k, c, a, d, v, w, h => xt_panic hC k c a d v w h
  | .blk _ :: k, c, a, d, v, w, h => xt_panic hC k c a d v w h
  | .post _ :: k, c, a, d, v, w, h => xt_panic hC k c a d v w h
theorem Sat.grow {N : Nat} {w0 : World} {X F : List Nat} {β : Nat → GV} {ϕ : Nat → List Nat} {w1 : World} (sat : Sat N w0 X F S β ϕ a w) (h : Fr w [] w1) : Sat N w0 X F S β ϕ a w1 :=
  ⟨sat.df, sat.sz, sat.lp, sat.lt, sat.hp.grow fun b hb => h.block b hb (by simp), sat.hb, sat.fr.trans h (fun x hx => hx) (by simp), sat.gl⟩
theorem op_uni {P : Program} {E : Env} {N : Nat} {w0 : World} {X F : List Nat} {β : Nat → GV} {ϕ : Nat → List Nat} (hE : EnvOk P E) (hs : stillB o.op = true) (hd : o.dst ≠ none) (hcv : convP o.op → R.n = S.n) (hR : opRes E S true o = some R) (sat : Sat N w0 X F S β ϕ a w) (hob : R.ob) :
    R.hy ∧ ∃ v β' ϕ', (∀ w1, Fr w [] w1 → (execOp a.eval o).run P w1 = .ok (.value v) w1) ∧ Post w0 X F S R β ϕ o.dst v w β' ϕ' := by
  obtain ⟨h1, h2⟩ := stillB_P hs
  replace h1 : stillP o.op ∨ (convP o.op ∧ R.n = S.n) := h1.imp id fun h => ⟨h, hcv h⟩
  obtain ⟨q1, v, w', β', ϕ', q2, q3, q4, _⟩ := op_snd hE h2 hR sat hob
  obtain ⟨rfl, q5, q6⟩ := q4 h1
  refine ⟨q1, v, β', ϕ', fun w1 hw1 => ?_, q3⟩
  rcases q6 with q6 | q6
  · obtain ⟨r1, v1, w1', β1, ϕ1, r2, r3, r4, _⟩ := op_snd hE h2 hR (sat.grow hw1) hob
    obtain ⟨rfl, r5, _⟩ := r4 h1
    have e1 := q3.v hd
    have e2 := r3.v hd
    have : v1 = v := by
      rw [e1, e2, SV.val_congr (n := S.n) q3.bt _ (by rw [← q6]; exact q3.lt), SV.val_congr (n := S.n) r3.bt _ (by rw [← q6]; exact q3.lt)]
    rw [← this]; exact r5
  · exact q6 w1 hw1
theorem opRes_pure {E : Env} {g : Bool} (hp : pureB o.op = true) (h : opRes E S g o = some R) : opRes0 E S g o = some R := by
  rcases opRes_or h with h | h
  · exact h
  · unfold arrRes at h
    split at h <;> first | (rename_i ho; rw [ho] at hp; simp [pureB] at hp; done) | cases h
theorem op_free {P : Program} {E : Env} {N : Nat} {w0 : World} {X F : List Nat} {β : Nat → GV} {ϕ : Nat → List Nat} (hE : EnvOk P E) (hp : pureB o.op = true) (hns : slcB o.op = false) (hR : opRes E S true o = some R) (sat : Sat N w0 X F S β ϕ a w) (hob : R.ob) :
    ∃ v, ∀ w1, (execOp a.eval o).run P w1 = .ok (.value v) w1 := by
  have hT := hE.ty
  replace hR := opRes_pure hp hR
  cases ho : o.op <;> rw [ho] at hp hns <;> (try (simp [pureB] at hp; done)) <;> (try (simp [slcB] at hns; done))
  case move x => exact ⟨a.eval x, fun w1 => by simp [execOp, ho]⟩
  case nilCheck x =>
    unfold opRes0 at hR
    rw [ho] at hR
    simp only at hR
    split at hR
    · rename_i g' h off hx
      cases hR
      obtain ⟨x1, x2⟩ := ev_sound hx sat
      obtain ⟨x3, b, of, hb⟩ := x2 (hob rfl)
      simp only [SV.val, hb] at x3
      exact ⟨_, fun w1 => by simp [execOp, ho, x3]; rfl⟩
    · rename_i g' h i wd off hx
      cases hR
      obtain ⟨x1, x2⟩ := ev_sound hx sat
      obtain ⟨x3, b, of, hb⟩ := x2 (hob rfl)
      rw [val_elp hb] at x3
      exact ⟨_, fun w1 => by simp [execOp, ho, x3]; rfl⟩
    · cases hR
  case fieldAddr t x f =>
    unfold opRes0 at hR
    rw [ho] at hR
    simp only at hR
    split at hR
    · rename_i g' h off ti hx hti
      split at hR
      · rename_i fo ft hf
        cases hR
        obtain ⟨q1, q2⟩ := hob
        obtain ⟨x1, x2⟩ := ev_sound hx sat
        obtain ⟨x3, b, of, hb⟩ := x2 (q1 rfl)
        simp only [SV.val, hb] at x3
        exact ⟨_, fun w1 => by simp [execOp, ho, x3, run_fieldAt hT hti hf q2]; rfl⟩
      · cases hR
    · rename_i g' h i wd off ti hx hti
      split at hR
      · rename_i fo ft hf
        cases hR
        obtain ⟨q1, q2⟩ := hob
        obtain ⟨x1, x2⟩ := ev_sound hx sat
        obtain ⟨x3, b, of, hb⟩ := x2 (q1 rfl)
        rw [val_elp hb] at x3
        exact ⟨_, fun w1 => by simp [execOp, ho, x3, run_fieldAt hT hti hf q2]; rfl⟩
      · cases hR
    · cases hR
  case binOp op tx x y ty =>
    unfold opRes0 at hR
    rw [ho] at hR
    simp only at hR
    split at hR
    · rename_i g' k x1 g'' k' y1 hx hy
      split at hR
      · rename_i ob v hv
        cases hR
        obtain ⟨_, x2⟩ := ev_sound hx sat
        obtain ⟨_, y2⟩ := ev_sound hy sat
        obtain ⟨q1, q2, q3⟩ := hob rfl
        refine ⟨SV.val β v, fun w1 => ?_⟩
        obtain ⟨r1, r2, r3⟩ := binI_sound (P := P) (w := w1) hv q3 (x2 q1).2 β tx
        simp [execOp, ho, (x2 q1).1, (y2 q2).1, SV.val, eqGuard, r1]
      · cases hR
    · rename_i g' x1 g'' y1 hx hy
      split at hR
      · rename_i ob v hv
        cases hR
        obtain ⟨_, x2⟩ := ev_sound hx sat
        obtain ⟨_, y2⟩ := ev_sound hy sat
        obtain ⟨q1, q2, q3⟩ := hob rfl
        refine ⟨SV.val β v, fun w1 => ?_⟩
        obtain ⟨r1, r2, r3⟩ := binS_sound (P := P) (w := w1) hv q3 β tx
        simp [execOp, ho, (x2 q1).1, (y2 q2).1, SV.val, eqGuard, r1]
      · cases hR
    · rename_i g' x1 g'' y1 hx hy
      obtain ⟨_, x2⟩ := ev_sound hx sat
      obtain ⟨_, y2⟩ := ev_sound hy sat
      split at hR
      · rename_i ti hti
        cases hR
        obtain ⟨q1, q2, q3⟩ := hob rfl
        have hd := (hT _ _ hti).und
        rw [q3] at hd
        exact ⟨.bool (x1 == y1), fun w1 => by simp [execOp, ho, (x2 q1).1, (y2 q2).1, SV.val, eqGuard, binOp, run_equal_bool hd]⟩
      · rename_i ti hti
        cases hR
        obtain ⟨q1, q2, q3⟩ := hob rfl
        have hd := (hT _ _ hti).und
        rw [q3] at hd
        exact ⟨.bool (x1 != y1), fun w1 => by simp [execOp, ho, (x2 q1).1, (y2 q2).1, SV.val, eqGuard, binOp, run_equal_bool hd, bne]⟩
      · cases hR
    · rename_i g' xs g'' ys hx hy
      obtain ⟨_, x2⟩ := ev_sound hx sat
      obtain ⟨_, y2⟩ := ev_sound hy sat
      split at hR
      · rename_i ti b hti hb
        cases hR
        obtain ⟨q1, q2, q3⟩ := hob rfl
        exact ⟨.bool b, fun w1 => by
          obtain ⟨e1, e2⟩ := eq_agg (w := w1) hT (hT _ _ hti) q3 hb β
          simp [execOp, ho, (x2 q1).1, (y2 q2).1, SV.val, run_eqGuard_agg w1 _ _ _ _ _ _ e2, run_eql_struct, e1]⟩
      · rename_i ti b hti hb
        cases hR
        obtain ⟨q1, q2, q3⟩ := hob rfl
        exact ⟨.bool (!b), fun w1 => by
          obtain ⟨e1, e2⟩ := eq_agg (w := w1) hT (hT _ _ hti) q3 hb β
          simp [execOp, ho, (x2 q1).1, (y2 q2).1, SV.val, run_eqGuard_agg w1 _ _ _ _ _ _ e2, run_neq_struct, e1]⟩
      · cases hR
    · cases hR
theorem slice_free {P : Program} {E : Env} {N : Nat} {w0 : World} {X F : List Nat} {β : Nat → GV} {ϕ : Nat → List Nat} (hE : EnvOk P E) (hp : slcB o.op = true) (hR : opRes E S true o = some R) (sat : Sat N w0 X F S β ϕ a w) (hob : R.ob) :
    R.hy ∧ ∃ v β' ϕ', (∀ w1, (execOp a.eval o).run P w1 = .ok (.value v) w1) ∧ Post w0 X F S R β ϕ o.dst v w β' ϕ' := by
  have hT := hE.ty
  replace hR := opRes_pure (by cases h : o.op <;> rw [h] at hp <;> first | rfl | (simp [slcB] at hp)) hR
  cases ho : o.op <;> rw [ho] at hp <;> (try (simp [slcB] at hp; done))
  rename_i t x lo hi mx
  obtain ⟨q1, v, w', β', ϕ', q2, q3, q4, q5⟩ := s_slice hT ho hR sat hob
  unfold opRes0 at hR
  rw [ho] at hR
  simp only at hR
  split at hR
  · rename_i g' v0 o1 ln o2 hn hx hlo hhi
    obtain ⟨x1, x2⟩ := ev_sound hx sat
    unfold sliceRes at hR
    split at hR
    · rename_i l ti hti
      cases hR
      obtain ⟨⟨r1, r2, r3⟩, r4, r5, r6, r7⟩ := hob rfl
      obtain ⟨x3, x4⟩ := x2 (r1 rfl)
      have hl := evO_sound hlo r2 sat
      have hh := evO_sound hhi r3 sat
      have key : ∃ v1, ∀ w2 : World, (execOp a.eval o).run P w2 = .ok (.value v1) w2 := by
        have hsz : (ByteArray.mk l.toArray).size = l.length := by simp [ByteArray.size]
        refine ⟨.string ((ByteArray.mk l.toArray).extract (ln.getD 0).toNat (hn.getD (l.length : Int)).toNat), fun w2 => ?_⟩
        have hu := run_und (hT _ _ hti) w2
        rw [r7] at hu
        have hb := run_sliceBounds (P := P) (w := w2) (b := false) (f := a.eval) hl hh (Nat.le_refl _) r4 r5 r6
        simp only [execOp, ho, x3, SV.val, Instr.sliceAt, Instr.slice, Sem.run_bind, hu, Result.andThen_ok, Option.map_none, hsz, hb]
        simp only [Option.isSome_none, Bool.false_eq_true, if_false, Sem.run_bind, Sem.run_pure, Result.andThen_ok, hb]
      obtain ⟨v1, k2⟩ := key
      have k1 := k2 w
      rcases q2 with q2 | q2
      · rw [k1] at q2
        cases q2
        exact ⟨q1, _, β', ϕ', k2, q3⟩
      · obtain ⟨q2, _⟩ := q2
        rw [k1] at q2; cases q2
    · rename_i i ti hti
      split at hR
      · cases hR
      · rename_i ow T es p te hnc hl hte
        have hnc : ∀ k, ow ≠ .cs k := fun k e => hnc k (by rw [e])
        cases hR
        obtain ⟨_, ⟨r1, r2, r3⟩, r4, r5, r6, r7, r8⟩ := hob
        obtain ⟨x3, x4⟩ := x2 (r1 rfl)
        have hL := hl_lv sat hl hnc
        obtain ⟨hle, cap, ad, hv, hcap⟩ := lv_len hL
        have hll := evO_sound hlo r2 sat
        have hhh := evO_sound hhi r3 sat
        have key : ∃ v1, ∀ w2 : World, (execOp a.eval o).run P w2 = .ok (.value v1) w2 := by
          refine ⟨.slice (if cap = (ln.getD 0).toNat then ad else ad.map fun x => x.add ((ln.getD 0).toNat * T.wd)) ((hn.getD (es.length : Int)).toNat - (ln.getD 0).toNat) (cap - (ln.getD 0).toNat), fun w2 => ?_⟩
          have hu := run_und (hT _ _ hti) w2
          rw [r7] at hu
          have hsz := run_size (hT _ _ hte) w2
          have hb := run_sliceBounds (P := P) (w := w2) (b := true) (f := a.eval) hll hhh hcap r4 r5 r6
          simp only [SV.val, hv] at x3
          simp only [execOp, ho, x3, Instr.sliceAt, Instr.slice, Sem.run_bind, hu, Result.andThen_ok, Option.map_none, hb, hsz, Sem.run_pure, r8]
        obtain ⟨v1, k⟩ := key
        rcases q2 with q2 | q2
        · rw [k w] at q2
          cases q2
          exact ⟨q1, _, β', ϕ', k, q3⟩
        · obtain ⟨q2, _⟩ := q2
          rw [k w] at q2; cases q2
      · cases hR
    · cases hR
  · cases hR
theorem step_sound {bs : List Nat} {b : Bool} {i : Nat} {K' : St → Prop} {Q : Exit → Act → World → Prop} (hC : C.Ok) (hat : At C S a w) (h : stepD C.E C.N C.keep all b i S K') :
    wpOp C.P all.toArray Q i (fun a' w' => (b = false → Fr w [] w') ∧ ∃ S', At C S' a' w' ∧ K' S') a w := by
  unfold stepD at h
  split at h
  · exact h.elim
  · rename_i o ho
    split at h
    · exact h.elim
    · rename_i g hg
      split at h
      · obtain ⟨rfl, hd, hrest⟩ := h
        obtain ⟨kp, hn, β, ϕ, sat, h0⟩ := hat
        have hgs := guard_sound hg sat
        unfold wpOp
        simp only [List.getElem?_toArray, ho]
        rw [if_neg (by rw [hgs]; simp)]
        exact ⟨fun _ => Fr.refl _ _, _, at_skipped kp hn sat h0 hd rfl rfl, hrest⟩
      · rename_i R hR
        split at h
        · obtain ⟨kp, hn, β, ϕ, sat, h0⟩ := hat
          have hgs := guard_sound hg sat
          unfold wpOp
          simp only [List.getElem?_toArray, ho]
          cases g with
          | true =>
            obtain ⟨hob, hd, hgr, _, hrest⟩ := h.1 rfl
            rw [if_pos hgs]
            obtain ⟨hhy, hwp⟩ := op_sound hC.env hR sat hob
            exact .inl (hwp _ _ fun v w' β' ϕ' hp hf => ⟨fun hb => hf (hgr hb), _, at_taken kp hn sat h0 hd hp, hrest hhy⟩)
          | false =>
            obtain ⟨hd, hrest⟩ := h.2 rfl
            rw [if_neg (by rw [hgs]; simp)]
            exact ⟨fun _ => Fr.refl _ _, _, at_skipped kp hn sat h0 hd rfl rfl, hrest⟩
        obtain ⟨hob, hd, hgr, _, hrest⟩ := h
        obtain ⟨kp, hn, β, ϕ, sat, h0⟩ := hat
        have hgs := guard_sound hg sat
        unfold wpOp
        simp only [List.getElem?_toArray, ho]
        cases g with
        | true =>
          rw [if_pos hgs]
          obtain ⟨hhy, hwp⟩ := op_sound hC.env hR sat hob
          exact .inl (hwp _ _ fun v w' β' ϕ' hp hf => ⟨fun hb => hf (hgr hb rfl), _, at_taken kp hn sat h0 hd hp, hrest fun _ => hhy⟩)
        | false =>
          rw [if_neg (by rw [hgs]; simp)]
          obtain ⟨hA, hRn⟩ := op_skip hR hob
          exact ⟨fun _ => Fr.refl _ _, _, at_skipped kp hn sat h0 hd hA hRn, hrest fun h => by cases h⟩
theorem take_sound {i : Nat} {K' : St → Prop} (hC : C.Ok) (hat : At C S a w) (ho : all[i]? = some o) (hs : stillB o.op = true) (hsl : slcB o.op = false) (hdd : o.dst ≠ none) (h : stepD C.E C.N C.keep all true i S K') :
    ∃ v, YieldsIf C.P all.toArray (fun w1 => Fr w [] w1) o v a ∧ ∃ S', At C S' (a.put o.dst v) w ∧ K' S' := by
  unfold stepD at h
  rw [ho] at h
  simp only at h
  split at h
  · exact h.elim
  · rename_i g hg
    split at h
    · obtain ⟨rfl, hd, hrest⟩ := h
      obtain ⟨kp, hn, β, ϕ, sat, h0⟩ := hat
      have hgs := guard_sound hg sat
      exact ⟨undef, .inr ⟨hgs, rfl⟩, _, at_skipped kp hn sat h0 hd rfl rfl, hrest⟩
    · rename_i R hR
      split at h
      · obtain ⟨kp, hn, β, ϕ, sat, h0⟩ := hat
        have hgs := guard_sound hg sat
        cases g with
        | true =>
          obtain ⟨hob, hd, _, hcv, hrest⟩ := h.1 rfl
          obtain ⟨hhy, v, β', ϕ', hrun, hp⟩ := op_uni hC.env hs hdd (fun hc => (hcv (by trivial) hc).resolve_left (by rw [hsl]; simp)) hR sat hob
          exact ⟨v, .inl ⟨hgs, hrun⟩, _, at_taken kp hn sat h0 hd hp, hrest hhy⟩
        | false =>
          obtain ⟨hd, hrest⟩ := h.2 rfl
          exact ⟨undef, .inr ⟨hgs, rfl⟩, _, at_skipped kp hn sat h0 hd rfl rfl, hrest⟩
      obtain ⟨hob, hd, _, hcv, hrest⟩ := h
      obtain ⟨kp, hn, β, ϕ, sat, h0⟩ := hat
      have hgs := guard_sound hg sat
      cases g with
      | true =>
        obtain ⟨hhy, v, β', ϕ', hrun, hp⟩ := op_uni hC.env hs hdd (fun hc => (hcv (by trivial) rfl hc).resolve_left (by rw [hsl]; simp)) hR sat hob
        exact ⟨v, .inl ⟨hgs, hrun⟩, _, at_taken kp hn sat h0 hd hp, hrest fun _ => hhy⟩
      | false =>
        obtain ⟨hA, hRn⟩ := op_skip hR hob
        exact ⟨undef, .inr ⟨hgs, rfl⟩, _, at_skipped kp hn sat h0 hd hA hRn, hrest fun h => by cases h⟩
theorem take_soundU {i : Nat} {K' : St → Prop} (hC : C.Ok) (hat : At C S a w) (ho : all[i]? = some o) (hs : stillB o.op = true) (hp : pureB o.op = true) (hdd : o.dst ≠ none) (h : stepD C.E C.N C.keep all true i S K') :
    ∃ v, YieldsIf C.P all.toArray (fun _ => True) o v a ∧ ∃ S', At C S' (a.put o.dst v) w ∧ K' S' := by
  unfold stepD at h
  rw [ho] at h
  simp only at h
  split at h
  · exact h.elim
  · rename_i g hg
    split at h
    · obtain ⟨rfl, hd, hrest⟩ := h
      obtain ⟨kp, hn, β, ϕ, sat, h0⟩ := hat
      have hgs := guard_sound hg sat
      exact ⟨undef, .inr ⟨hgs, rfl⟩, _, at_skipped kp hn sat h0 hd rfl rfl, hrest⟩
    · rename_i R hR
      split at h
      · obtain ⟨kp, hn, β, ϕ, sat, h0⟩ := hat
        have hgs := guard_sound hg sat
        cases g with
        | true =>
          obtain ⟨hob, hd, _, hcv, hrest⟩ := h.1 rfl
          cases hsl : slcB o.op with
          | true =>
            obtain ⟨hhy, v, β', ϕ', hrun, hps⟩ := slice_free hC.env hsl hR sat hob
            exact ⟨v, .inl ⟨hgs, fun w1 _ => hrun w1⟩, _, at_taken kp hn sat h0 hd hps, hrest hhy⟩
          | false =>
          obtain ⟨hhy, v, β', ϕ', hrun, hps⟩ := op_uni hC.env hs hdd (fun hc => (hcv (by trivial) hc).resolve_left (by rw [hsl]; simp)) hR sat hob
          obtain ⟨v', hv'⟩ := op_free hC.env hp hsl hR sat hob
          have e : v' = v := by
            have e1 := hrun w (Fr.refl _ _)
            rw [hv' w] at e1
            cases e1; rfl
          subst e
          exact ⟨v', .inl ⟨hgs, fun w1 _ => hv' w1⟩, _, at_taken kp hn sat h0 hd hps, hrest hhy⟩
        | false =>
          obtain ⟨hd, hrest⟩ := h.2 rfl
          exact ⟨undef, .inr ⟨hgs, rfl⟩, _, at_skipped kp hn sat h0 hd rfl rfl, hrest⟩
      obtain ⟨hob, hd, _, hcv, hrest⟩ := h
      obtain ⟨kp, hn, β, ϕ, sat, h0⟩ := hat
      have hgs := guard_sound hg sat
      cases g with
      | true =>
        cases hsl : slcB o.op with
        | true =>
          obtain ⟨hhy, v, β', ϕ', hrun, hps⟩ := slice_free hC.env hsl hR sat hob
          exact ⟨v, .inl ⟨hgs, fun w1 _ => hrun w1⟩, _, at_taken kp hn sat h0 hd hps, hrest fun _ => hhy⟩
        | false =>
        obtain ⟨hhy, v, β', ϕ', hrun, hps⟩ := op_uni hC.env hs hdd (fun hc => (hcv (by trivial) rfl hc).resolve_left (by rw [hsl]; simp)) hR sat hob
        obtain ⟨v', hv'⟩ := op_free hC.env hp hsl hR sat hob
        have e : v' = v := by
          have e1 := hrun w (Fr.refl _ _)
          rw [hv' w] at e1
          cases e1; rfl
        subst e
        exact ⟨v', .inl ⟨hgs, fun w1 _ => hv' w1⟩, _, at_taken kp hn sat h0 hd hps, hrest fun _ => hhy⟩
      | false =>
        obtain ⟨hA, hRn⟩ := op_skip hR hob
        exact ⟨undef, .inr ⟨hgs, rfl⟩, _, at_skipped kp hn sat h0 hd hA hRn, hrest fun h => by cases h⟩
theorem ld_taken {i : Nat} {K' : St → Prop} {m : Array Bool} (hC : C.Ok) (hat : At C S a w) (ho : all[i]? = some o) (hl : ldB all.toArray m i = true) (h : stepD C.E C.N C.keep all true i S K') :
    ∃ d v, stillB o.op = true ∧ ¬ convP o.op ∧ o.dst = some d ∧ YieldsIf C.P all.toArray (fun w1 => (execOp a.eval o).run C.P w1 = .ok (.value v) w1) o v a ∧ Ys C.P o a.eval v w ∧
      (a.put o.dst v).tmps[d]? = some v ∧ (∀ j oj, all[j]? = some oj → j ≠ i → m.getD j true = false → oj.dst ≠ some d ∧ ∀ d', oj.dst = some d' → d' ∉ o.looksAt all.toArray) ∧ ∃ S', At C S' (a.put o.dst v) w ∧ K' S' := by
  have ho' : all.toArray[i]? = some o := by simpa using ho
  unfold ldB at hl
  rw [ho'] at hl
  simp only [Bool.and_eq_true, Option.isNone_iff_eq_none, List.all_eq_true, List.mem_range, Bool.or_eq_true, beq_iff_eq, Bool.not_eq_true'] at hl
  obtain ⟨⟨⟨⟨⟨hs, hns⟩, hcv⟩, hgn⟩, hds⟩, hw⟩ := hl
  obtain ⟨d, hdst⟩ := Option.isSome_iff_exists.1 hds
  have hcp : ¬ convP o.op := by
    intro hc
    cases hop : o.op <;> rw [hop] at hc hcv hns <;> first | exact hc.elim | (cases hcv; done) | (simp [slcB] at hns; done)
  unfold stepD at h
  rw [ho] at h
  simp only at h
  have hg : guardOf S all o.guard = some true := by rw [hgn]; rfl
  rw [hg] at h
  simp only at h
  split at h
  · cases h.1
  · rename_i R hR
    have h : R.ob ∧ dstOk C.N C.keep true o.dst ∧ (R.hy → K' (putS C.keep S true o.dst R)) := by
      split at h
      · obtain ⟨a1, a2, _, _, a5⟩ := h.1 trivial
        exact ⟨a1, a2, a5⟩
      · obtain ⟨a1, a2, _, _, a5⟩ := h
        exact ⟨a1, a2, fun q => a5 fun _ => q⟩
    obtain ⟨hob, hd, hrest⟩ := h
    obtain ⟨kp, hn, β, ϕ, sat, h0⟩ := hat
    obtain ⟨hhy, v, β', ϕ', hrun, hp⟩ := op_uni hC.env hs (by rw [hdst]; simp) (fun hc => absurd hc hcp) hR sat hob
    have hdlt : d < a.tmps.size := by
      rw [sat.sz]
      rw [hdst] at hd
      exact hd.1
    refine ⟨d, v, hs, hcp, hdst, .inl ⟨guard_sound hg sat, fun w1 hw1 => hw1⟩, hrun, ?_, fun j oj hj hji hm => ?_, _, at_taken kp hn sat h0 hd hp, hrest hhy⟩
    · rw [hdst]; simp [Act.put, hdlt]
    · have hjlt : j < all.toArray.size := by
        rcases Nat.lt_or_ge j all.length with h | h
        · simpa using h
        · rw [List.getElem?_eq_none h] at hj; cases hj
      have := hw j hjlt
      have hj' : all.toArray[j]? = some oj := by simpa using hj
      rw [hj'] at this
      simp only [hji, false_or, hm, Bool.false_eq_true, Bool.and_eq_true, bne_iff_ne] at this
      refine ⟨by rw [← hdst]; exact this.1, fun d' hd' => ?_⟩
      have h2 := this.2
      rw [hd'] at h2
      simpa using h2
structure Early where
  o : Oper
  d : Nat
  f : Operand → Value
  v : Value
def Early.ok (all : List Oper) (m : Array Bool) (a : Act) (q : Early) : Prop :=
  stillB q.o.op = true ∧ ¬ convP q.o.op ∧ q.o.dst = some q.d ∧ execOp a.eval q.o = execOp q.f q.o ∧ a.tmps[q.d]? = some q.v ∧ ∀ j oj, all[j]? = some oj → m.getD j true = false → oj.dst ≠ some q.d ∧ ∀ d', oj.dst = some d' → d' ∉ q.o.looksAt all.toArray
theorem noSel {o : Op} (h : stillB o = true) : ∀ cs b, o ≠ .select cs b := by
  intro cs b e; subst e; simp [stillB] at h
theorem Early.step {m : Array Bool} {a a' : Act} {q : Early} {i : Nat} {oi : Oper} (h : q.ok all m a) (hoi : all[i]? = some oi) (hun : m.getD i true = false) {u : Value} (hk : a'.tmps = (a.put oi.dst u).tmps) : q.ok all (m.setIfInBounds i true) a' := by
  obtain ⟨h1, h1b, h2, h3, h4, h5⟩ := h
  have h6 := h5 i oi hoi hun
  have he : a'.eval = (a.put oi.dst u).eval := by
    funext x
    cases x <;> simp only [Act.eval, hk]
  refine ⟨h1, h1b, h2, ?_, by rw [hk, put_ne h6.1]; exact h4, fun j oj hj hm => h5 j oj hj ?_⟩
  · rw [he, execOp_put q.o (noSel h1) a oi.dst u h6.2]; exact h3
  · by_cases hij : i = j
    · subst hij
      by_cases hlt : i < m.size
      · simp [hlt] at hm
      · simp [Array.setIfInBounds_eq_of_size_le (Nat.le_of_not_lt hlt)] at hm ⊢
        exact hm
    · rwa [getD_set_ne true hij] at hm
theorem stays_sound {S' : St} (hC : C.Ok) (hat : At C S' a w) : ∀ {L : List Early} {m : Array Bool}, (∀ q ∈ L, q.ok all m a) → stays C.E S' (L.map fun q => (q.o, q.d)) → ∀ p ∈ L.map fun q => Ys C.P q.o q.f q.v, p w
  | [], _, _, _, p, hp => by simp at hp
  | q :: L, m, hL, h, p, hp => by
    rcases List.mem_cons.1 hp with rfl | hp
    · obtain ⟨hs, hcp, hdst, hex, hv, _⟩ := hL q (List.mem_cons_self ..)
      obtain ⟨h1, _⟩ := h
      split at h1
      · rename_i sv R hsl hR
        obtain ⟨hob, hsv, hn⟩ := h1
        obtain ⟨kp, hn0, β, ϕ, sat, h0⟩ := hat
        obtain ⟨hhy, v', β', ϕ', hrun, hps⟩ := op_uni hC.env hs (by rw [hdst]; simp) (fun hc => absurd hc hcp) hR sat hob
        have hslv : a.tmps[q.d]? = some (SV.val β sv) ∧ SV.lt S'.n sv := by
          unfold St.slot at hsl
          split at hsl
          · rename_i y hy
            cases hsl
            have := sat.lt q.d true sv hy
            exact ⟨(this.2.1 rfl).1, this.1 rfl⟩
          · split at hsl
            · rename_i y hy
              cases hsl
              exact ⟨(sat.lp q.d sv hy).1, (sat.lp q.d sv hy).2.1⟩
            · cases hsl
        have e : v' = q.v := by
          have e1 := hps.v (by rw [hdst]; simp)
          rw [hsv, SV.val_congr (n := S'.n) hps.bt _ hslv.2] at e1
          rw [hslv.1] at hv
          rw [e1]; exact Option.some.inj hv
        intro w1 hw1
        have := hrun w1 hw1
        rw [e, hex] at this
        exact this
      · exact h1.elim
    · exact stays_sound hC hat (fun q hq => hL q (List.mem_cons_of_mem _ hq)) h.2 p hp
theorem vcD_sound {bs : List Nat} {K : St → Prop} {Q : Exit → Act → World → Prop} (hC : C.Ok) (hns : Region.noSelect all.toArray = true) (hQ : ∀ c a d v w, Q (.panic c) (a.put d v) w → Q (.panic c) a w)
    (hK : ∀ S a w, K S → At C S a w → Q .normal a w) : ∀ (p : Pl) (f : Nat) (m : Array Bool) (acc : List Nat) (L : List Early) (S : St) (a : Act) (w : World), chk all.toArray bs f p m acc = true → At C S a w → vcD C.E C.N C.keep all bs K (L.map fun q => (q.o, q.d)) p S → (∀ q ∈ L, q.ok all m a) →
    (∀ f', f = f' + 1 → ∀ i ∈ acc, i ∈ Region.ready .any all.toArray m → wpOp C.P all.toArray Q i (fun a' w' => ((i ∉ bs → Fr w [] w') ∧ (i ∈ bs → ∀ p ∈ L.map fun q => Ys C.P q.o q.f q.v, p w')) ∧ wpH C.P .any all.toArray Q bs (L.map fun q => Ys C.P q.o q.f q.v) f' (m.setIfInBounds i true) a' w') a w) →
    wpH C.P .any all.toArray Q bs (L.map fun q => Ys C.P q.o q.f q.v) f m a w
  | .done, f, m, acc, L, S, a, w, hc, hat, hv, _, _ => by
    have hr : Region.ready .any all.toArray m = [] := by
      cases f <;> simpa [chk] using hc
    cases f with
    | zero => exact ⟨hr, hK S a w hv hat⟩
    | succ f => exact ⟨fun _ => hK S a w hv hat, fun i hi => by rw [hr] at hi; cases hi⟩
  | .take i p, 0, m, acc, L, S, a, w, hc, hat, hv, _, _ => by simp [chk] at hc
  | .take i p, f + 1, m, acc, L, S, a, w, hc, hat, hv, hL, _ => by
    simp only [chk, Bool.and_eq_true] at hc
    obtain ⟨⟨⟨⟨⟨c1, c2⟩, c3⟩, c4⟩, c6⟩, c5⟩ := hc
    have hib : i ∉ bs := by simpa using c6
    have hrd : i ∈ Region.ready .any all.toArray m := by simpa using c1
    split at c3
    · rename_i oi hoi
      simp only [Bool.and_eq_true] at c3
      have hoi' : all[i]? = some oi := by simpa using hoi
      have hdd : oi.dst ≠ none := by intro e; rw [e] at c3; simp at c3
      have hL' : ∀ v, ∀ q ∈ L, q.ok all (m.setIfInBounds i true) (a.put oi.dst v) := fun v q hq => Early.step (hL q hq) hoi' (mem_ready.1 hrd).1 rfl
      cases hpu : pureB oi.op with
      | true =>
        obtain ⟨v, y1, S', y2, y3⟩ := take_soundU hC hat hoi' c3.1 hpu hdd hv
        exact wpH_firstU hoi (Region.noSelect_spec hns) (fun c a w => hQ c a _ v w) hib f m a w (Region.free_spec hoi c2) hrd y1 (vcD_sound hC hns hQ hK p f _ [] L S' _ w c5 y2 y3 (hL' v) (fun _ _ i hi => by cases hi))
      | false =>
        simp only [hoi, hpu, Bool.false_or] at c4
        obtain ⟨v, y1, S', y2, y3⟩ := take_sound hC hat hoi' c3.1 (by cases h : oi.op <;> rw [h] at hpu <;> first | rfl | (simp [pureB] at hpu)) hdd hv
        refine wpH_first hoi (Region.noSelect_spec hns) (fun c a w => hQ c a _ v w) hib f m a w (Region.free_spec hoi c2) ?_ hrd y1 (vcD_sound hC hns hQ hK p f _ [] L S' _ w c5 y2 y3 (hL' v) (fun _ _ i hi => by cases hi))
        intro j hj hji hun
        have := List.all_eq_true.1 c4 j hj
        simp only [Bool.or_eq_true, beq_iff_eq, hji, false_or, hun, Bool.false_eq_true] at this
        exact ⟨_, this⟩
    · cases c3
  | .tak2 i p, 0, m, acc, L, S, a, w, hc, hat, hv, _, _ => by simp [chk] at hc
  | .tak2 i p, f + 1, m, acc, L, S, a, w, hc, hat, hv, hL, _ => by
    simp only [chk, Bool.and_eq_true] at hc
    obtain ⟨⟨⟨⟨⟨c1, c2⟩, c3⟩, c7⟩, c6⟩, c5⟩ := hc
    have hib : i ∉ bs := by simpa using c6
    have hrd : i ∈ Region.ready .any all.toArray m := by simpa using c1
    obtain ⟨hun, oi, hoi, _⟩ := mem_ready.1 hrd
    have hoi' : all[i]? = some oi := by simpa using hoi
    simp only [vcD, hoi'] at hv
    obtain ⟨d, v, e1, e1b, e2, y1, y2, y4, y5, S', y6, y7⟩ := ld_taken hC hat hoi' c3 hv
    rw [e2] at y7
    refine wpH_firstS hoi (Region.noSelect_spec hns) (fun c a w => hQ c a _ v w) hib f m a w (Region.free_spec hoi c2) hrd y1 y2 ?_
    have hself : ∀ d', oi.dst = some d' → d' ∉ oi.looksAt all.toArray := by
      intro d' hd'
      have hw := c7
      rw [hoi] at hw
      simp only [hd'] at hw
      simpa using hw
    refine vcD_sound hC hns hQ hK p f _ [] (⟨oi, d, a.eval, v⟩ :: L) S' _ w c5 y6 y7 ?_ (fun _ _ i hi => by cases hi)
    intro q hq
    rcases List.mem_cons.1 hq with rfl | hq
    · refine ⟨e1, e1b, e2, execOp_put oi (noSel e1) a oi.dst v hself, y4, fun j oj hj hm => ?_⟩
      by_cases hij : i = j
      · subst hij
        have hlt : i < m.size := by
          rcases Nat.lt_or_ge i m.size with h | h
          · exact h
          · simp [Array.getElem?_eq_none h] at hun
        simp [hlt] at hm
      · exact y5 j oj hj (Ne.symm hij) (by rwa [getD_set_ne true hij] at hm)
    · exact Early.step (hL q hq) hoi' hun rfl
  | .alt i p q, 0, m, acc, L, S, a, w, hc, hat, hv, _, _ => by simp [chk] at hc
  | .alt i p q, f + 1, m, acc, L, S, a, w, hc, hat, hv, hL, hacc => by
    simp only [chk, Bool.and_eq_true] at hc
    obtain ⟨hv1, hv2⟩ := hv
    refine vcD_sound hC hns hQ hK q (f + 1) m (i :: acc) L S a w hc.2 hat hv2 hL fun f' hf' j hj hrd => ?_
    cases hf'
    rcases List.mem_cons.1 hj with e | hj
    · subst e
      obtain ⟨hun, oi, hoi, _⟩ := mem_ready.1 hrd
      have hoi' : all[j]? = some oi := by simpa using hoi
      refine wpOp_mono (fun a' w' h3 => ?_) (wpOp_keeps hoi (step_sound (bs := bs) hC hat hv1))
      obtain ⟨⟨h4, S', h5, h6, h7⟩, hk⟩ := h3
      obtain ⟨u, hk⟩ := hk
      have hL' : ∀ q ∈ L, q.ok all (m.setIfInBounds j true) a' := fun q hq => Early.step (hL q hq) hoi' hun hk
      refine ⟨⟨fun hb => h4 ?_, fun hb => ?_⟩, vcD_sound hC hns hQ hK p f _ [] L S' a' w' hc.1 h5 h7 hL' (fun _ _ i hi => by cases hi)⟩
      · cases hm : memB bs j with
        | false => rfl
        | true => exact absurd (memB_iff.1 hm) hb
      · rw [if_pos (memB_iff.2 hb)] at h6
        exact stays_sound hC h5 hL' h6
    · exact hacc f rfl j hj hrd
  | .stop, 0, m, acc, L, S, a, w, hc, hat, hv, _, _ => by simp [chk] at hc
  | .stop, f + 1, m, acc, L, S, a, w, hc, hat, hv, hL, hacc => by
    simp only [chk, Bool.and_eq_true, Bool.not_eq_true', List.all_eq_true, List.contains_iff_mem] at hc
    refine ⟨fun h => by rw [h] at hc; simp at hc, fun i hi => hacc f rfl i (hc.2 i hi) hi⟩
theorem at_drew (h : At C S a w) : At C S a { w with drawn := w.drawn + 1 } := by
  obtain ⟨kp, hn, β, ϕ, sat, h0⟩ := h
  exact ⟨kp, hn, β, ϕ, ⟨sat.df, sat.sz, sat.lp, sat.lt, sat.hp.world fun _ _ _ _ _ _ => rfl, sat.hb, ⟨sat.fr.os, sat.fr.tape, sat.fr.output, sat.fr.size, sat.fr.block⟩, sat.gl⟩, h0⟩
theorem wp_plan {id : Nat} {ops : Array Oper} {bs : List Nat} {p : Pl} {K : St → Prop} (hC : C.Ok) (hK : ∀ S, K S → WP C k S) (hns : Region.noSelect ops = true) (hc : chk ops bs ops.size p (Array.replicate ops.size false) [] = true)
    (h : vcD C.E C.N C.keep ops.toList bs K [] p { S with Lt := [] }) : WP C (.code (.region id ops true) :: k) S := by
  intro a w hat
  refine wp_region_any hC.mix (wpAny_of_H (bs := bs) (es := []) _ _ _ _ ?_)
  have := vcD_sound (all := ops.toList) (bs := bs) (K := K) (Q := xt C k) hC (by simpa using hns) (fun c a d v w => xt_panic hC k c a d v w) (fun S' a w hS hat => hK S' hS a w hat) p ops.size (Array.replicate ops.size false) [] [] { S with Lt := [] } a _ (by simpa using hc) (at_lt (at_drew hat)) h (fun q hq => by cases hq)
    (fun _ _ i hi => by cases hi)
  simpa using this
end
end Go.Proofs.YtkofjkjcbljkdaaGreatDoor
end

section
namespace Go.Proofs.YtkofjkjcbljkdaaGreatDoor
variable [LaidG]
set_option linter.unusedVariables false
def vcK (E : Env) (N : Nat) (keep : List Nat) (fin : St → Prop) (W : List KI → St → Prop) (pls : List (Nat × List Nat × Pl)) (brk : List Nat) : List KI → St → Prop
  | [], S => fin S
  | .post p :: _, S => p S
  | .blk _ :: k, S => vcK E N keep fin W pls brk k S
  | .run _ [] :: k, S => vcK E N keep fin W pls brk k S
  | .run all (o :: l) :: k, S =>
    match guardOf S all o.guard with
    | none => False
    | some g => match opRes E S g o with
      | none => (match nilRes E S o with
        | none => (g = true → W (.run all (o :: l) :: k) S) ∧ (g = false → dstOk N keep false o.dst ∧ vcK E N keep fin W pls brk (.run all l :: k) (putS keep S false o.dst (skipR S)))
        | some (ob, es, ng) => g = true ∧ ob ∧ dstOk N keep g o.dst ∧ ∀ b : Bool, (b = true → es = []) → vcK E N keep fin W pls brk (.run all l :: k) (putS keep S g o.dst ⟨True, True, .bool (if ng then !b else b), S.A, S.n⟩))
      | some R => if splG E S o.op then (g = true → R.ob ∧ dstOk N keep true o.dst ∧ (R.hy → vcK E N keep fin W pls brk (.run all l :: k) (putS keep S true o.dst R))) ∧
            (g = false → dstOk N keep false o.dst ∧ vcK E N keep fin W pls brk (.run all l :: k) (putS keep S false o.dst (skipR S)))
          else R.ob ∧ dstOk N keep g o.dst ∧ (imp g R.hy → vcK E N keep fin W pls brk (.run all l :: k) (putS keep S g o.dst R))
  | .code .skip :: k, S => vcK E N keep fin W pls brk k S
  | .code (.seq a b) :: k, S => vcK E N keep fin W pls brk (.code a :: .code b :: k) S
  | .code (.region id ops d) :: k, S => if brk.contains id then W (.code (.region id ops d) :: k) S else if d then (match lk pls id with
      | some (bs, p) => planOk ops bs p ∧ vcD E N keep ops.toList bs (fun S' => vcK E N keep fin W pls brk k S') [] p { S with Lt := [] }
      | none => W (.code (.region id ops d) :: k) S)
    else vcK E N keep fin W pls brk (.run ops.toList ops.toList :: k) { S with Lt := [] }
  | .code (.cond c a b) :: k, S => match S.ev c with
    | some (g, .bool x) => g = true ∧ (x = true → vcK E N keep fin W pls brk (.code a :: k) S) ∧ (x = false → vcK E N keep fin W pls brk (.code b :: k) S)
    | _ => False
  | .code (.block id c) :: k, S => vcK E N keep fin W pls brk (.code c :: .blk id :: k) S
  | .code (.exit id) :: k, S => match h : unwd id k with
    | some k' => vcK E N keep fin W pls brk k' S
    | none => False
  | .code .ret :: k, S => fin S
  | .code (.loop c) :: k, S => W (.code (.loop c) :: k) S
  | .code _ :: _, _ => False
termination_by k => ksz k
decreasing_by
  all_goals simp only [ksz, csz, List.length_cons]
  all_goals first | omega | (letI : LaidG := ⟨fun _ => false⟩; have := unwd_sz h; omega)
theorem nil_sound {P : Program} {E : Env} {N : Nat} {w0 : World} {X F : List Nat} {S : St} {β : Nat → GV} {ϕ : Nat → List Nat} {a : Act} {w : World} {o : Oper} {ob : Prop} {es : List PV} {ng : Bool} (hT : EnvTy P E) (h : nilRes E S o = some (ob, es, ng)) (hob : ob) (sat : Sat N w0 X F S β ϕ a w) :
    ∃ b : Bool, (b = true → es = []) ∧ Runs P o a w (SV.val β (.bool (if ng then !b else b))) w := by
  unfold nilRes at h
  split at h
  · rename_i op t x y ty ho
    split at h
    · rename_i gx i gy ti hx hy hti
      have key : ∀ (ob' : Prop) (T : PTy), resL S.A (.list T) (.sl i) = some (ob', .list es) → gx = true ∧ gy = true ∧ ob' ∧ ti.d = .slice ti.el →
          ∃ (b : Bool) (ad : Option Addr) (l c : Nat), (b = true → es = []) ∧ a.eval x = .slice ad l c ∧ a.eval y = .slice none 0 0 ∧ (Op.equal t (.slice ad l c) (.slice none 0 0)).run P w = .ok b w := by
        rintro ob' T hr ⟨q1, q2, q3, q4⟩
        obtain ⟨_, x2⟩ := ev_sound hx sat
        obtain ⟨_, y2⟩ := ev_sound hy sat
        obtain ⟨x3, x4⟩ := x2 q1
        obtain ⟨y3, _⟩ := y2 q2
        have hd := (hT _ _ hti).und
        rw [q4] at hd
        obtain ⟨f, hL, _⟩ := resLs_sound (A := S.A) (ts := [.list T]) (xs := [.sl i]) (ob := ob' ∧ True) (ps := [.list es]) (by simp only [resLs, hr]) ⟨q3, trivial⟩ sat.hp ⟨x4, trivial⟩
        simp only [SV.vals, SV.val] at hL x3
        generalize (β i).v = v at hL x3
        cases hL with
        | empty _ => exact ⟨_, _, _, _, fun _ => rfl, x3, y3, run_equal_nil hd _ _ _⟩
        | list _ _ _ _ _ _ => exact ⟨false, _, _, _, (fun h => by cases h), x3, y3, run_equal_nil hd _ _ _⟩
      split at h
      · rename_i hr
        cases h
        obtain ⟨b, ad, l, c, k1, k2, k3, k4⟩ := key _ _ hr hob
        exact ⟨b, k1, .inl (by simp [execOp, ho, k2, k3, SV.val, eqGuard, binOp, k4])⟩
      · rename_i hr
        cases h
        obtain ⟨b, ad, l, c, k1, k2, k3, k4⟩ := key _ _ hr hob
        exact ⟨b, k1, .inl (by simp [execOp, ho, k2, k3, SV.val, eqGuard, binOp, k4])⟩
      · cases h
    · cases h
  · cases h
section
variable {C : Cx} {S : St} {a : Act} {w : World} {o : Oper} {R : RR} {g : Bool} {all l : List Oper} {k : List KI}
theorem vcK_sound {W : List KI → St → Prop} {pls : List (Nat × List Nat × Pl)} {brk : List Nat} (hC : C.Ok) (hW : ∀ k S, W k S → WP C k S) : ∀ (n : Nat) (k : List KI) (S : St), ksz k ≤ n → vcK C.E C.N C.keep C.fin W pls brk k S → WP C k S := by
  intro n
  induction n with
  | zero =>
    intro k S hk h a w hat
    match k with
    | [] => unfold vcK at h; exact (hC.fin _ _ _ hat h).1
    | .code c :: k => simp [ksz] at hk
    | .run _ _ :: k => simp [ksz] at hk
    | .blk _ :: k => simp [ksz] at hk
    | .post _ :: k => simp [ksz] at hk
  | succ n ih =>
    intro k S hk h a w hat
    match k with
    | [] => unfold vcK at h; exact (hC.fin _ _ _ hat h).1
    | .post p :: k => unfold vcK at h; exact ⟨S, hat, h⟩
    | .blk i :: k =>
      unfold vcK at h
      simp only [ksz] at hk
      exact ih k S (by omega) h a w hat
    | .run all [] :: k =>
      unfold vcK at h
      simp only [ksz] at hk
      exact ih k S (by omega) h a w hat
    | .run all (o :: l) :: k =>
      unfold vcK at h
      simp only [ksz, List.length_cons] at hk
      split at h
      · exact h.elim
      · rename_i g hg
        split at h
        · split at h
          · cases g with
            | true => exact hW _ _ (h.1 rfl) a w hat
            | false =>
              obtain ⟨hd, hrest⟩ := h.2 rfl
              obtain ⟨kp, hn, β, ϕ, sat, h0⟩ := hat
              have hgs := guard_sound hg sat
              show wpList C.P all.toArray (xt C k) (o :: l) a w
              unfold wpList
              rw [if_neg (by rw [hgs]; simp)]
              exact ih (.run all l :: k) _ (by simp only [ksz]; omega) hrest _ _ (at_skipped kp hn sat h0 hd rfl rfl)
          · rename_i ob es ng hnr
            obtain ⟨rfl, hob, hd, hrest⟩ := h
            obtain ⟨kp, hn, β, ϕ, sat, h0⟩ := hat
            have hgs := guard_sound hg sat
            show wpList C.P all.toArray (xt C k) (o :: l) a w
            unfold wpList
            rw [if_pos hgs]
            obtain ⟨b, hb1, hb2⟩ := nil_sound hC.env.ty hnr hob sat
            exact .inl (hb2.wp (ih (.run all l :: k) _ (by simp only [ksz]; omega) (hrest b hb1) _ _ (at_taken kp hn sat h0 hd (post_pure sat trivial trivial))))
        · rename_i R hR
          split at h
          · obtain ⟨kp, hn, β, ϕ, sat, h0⟩ := hat
            have hgs := guard_sound hg sat
            show wpList C.P all.toArray (xt C k) (o :: l) a w
            unfold wpList
            cases g with
            | true =>
              obtain ⟨hob, hd, hrest⟩ := h.1 rfl
              rw [if_pos hgs]
              obtain ⟨hhy, hwp⟩ := op_sound hC.env hR sat hob
              refine .inl (hwp _ _ fun v w' β' ϕ' hp _ => ?_)
              exact ih (.run all l :: k) _ (by simp only [ksz]; omega) (hrest hhy) _ _ (at_taken kp hn sat h0 hd hp)
            | false =>
              obtain ⟨hd, hrest⟩ := h.2 rfl
              rw [if_neg (by rw [hgs]; simp)]
              exact ih (.run all l :: k) _ (by simp only [ksz]; omega) hrest _ _ (at_skipped kp hn sat h0 hd rfl rfl)
          obtain ⟨hob, hd, hrest⟩ := h
          obtain ⟨kp, hn, β, ϕ, sat, h0⟩ := hat
          have hgs := guard_sound hg sat
          show wpList C.P all.toArray (xt C k) (o :: l) a w
          unfold wpList
          cases g with
          | true =>
            rw [if_pos hgs]
            obtain ⟨hhy, hwp⟩ := op_sound hC.env hR sat hob
            refine .inl (hwp _ _ fun v w' β' ϕ' hp _ => ?_)
            exact ih (.run all l :: k) _ (by simp only [ksz]; omega) (hrest fun _ => hhy) _ _ (at_taken kp hn sat h0 hd hp)
          | false =>
            rw [if_neg (by rw [hgs]; simp)]
            obtain ⟨hA, hRn⟩ := op_skip hR hob
            exact ih (.run all l :: k) _ (by simp only [ksz]; omega) (hrest fun h => by cases h) _ _ (at_skipped kp hn sat h0 hd hA hRn)
    | .code c :: k =>
      simp only [ksz] at hk
      cases c with
      | skip =>
        unfold vcK at h
        exact wp_skip (ih k S (by omega) h a w hat)
      | seq x y =>
        unfold vcK at h
        simp only [csz] at hk
        have h1 := ih (.code x :: .code y :: k) S (by simp only [ksz]; omega) h a w hat
        exact wp_seq h1
      | region id ops d =>
        unfold vcK at h
        split at h
        · exact hW _ _ h a w hat
        · split at h
          · rename_i hd
            subst hd
            split at h
            · rename_i bs p hp
              obtain ⟨h1, h2⟩ := h
              exact wp_plan hC (K := fun S' => vcK C.E C.N C.keep C.fin W pls brk k S') (fun S' hS' => ih k S' (by omega) hS') h1.1 h1.2 h2 a w hat
            · exact hW _ _ h a w hat
          rename_i hd
          simp only [csz] at hk
          have hd : d = false := by cases d <;> simp at hd ⊢
          subst hd
          have h1 := ih (.run ops.toList ops.toList :: k) _ (by simp only [ksz]; omega) h a w (at_lt hat)
          refine wp_region_list ?_
          have h2 : wpList C.P ops.toList.toArray (xt C k) ops.toList a w := h1
          simpa using h2
      | cond c x y =>
        unfold vcK at h
        simp only [csz] at hk
        split at h
        · rename_i g b hc
          obtain ⟨hg, ht, hf⟩ := h
          have hat0 := hat
          obtain ⟨kp, hn, β, ϕ, sat, h0⟩ := hat
          have hev := ((ev_sound hc sat).2 hg).1
          refine wp_cond_split (by rw [hev]; rfl) (fun hb => ?_) (fun hb => ?_)
          · exact ih (.code x :: k) S (by simp only [ksz]; omega) (ht hb) a w hat0
          · exact ih (.code y :: k) S (by simp only [ksz]; omega) (hf hb) a w hat0
        · exact h.elim
      | block id c =>
        unfold vcK at h
        simp only [csz] at hk
        exact wp_block (ih (.code c :: .blk id :: k) S (by simp only [ksz]; omega) h a w hat)
      | exit id =>
        unfold vcK at h
        split at h
        · rename_i k' hk'
          have := unwd_sz hk'
          exact wp_exit (xt_exit hk' (ih k' S (by simp only [csz] at hk; omega) h a w hat))
        · exact h.elim
      | ret =>
        unfold vcK at h
        exact wp_ret (xt_ret (hC.fin _ _ _ hat h).2)
      | loop c =>
        unfold vcK at h
        exact hW _ _ h a w hat
      | _ => unfold vcK at h; exact h.elim
end
end Go.Proofs.YtkofjkjcbljkdaaGreatDoor
end

section
namespace Go.Proofs.YtkofjkjcbljkdaaGreatDoor
variable [LaidG]
set_option linter.unusedVariables false
def rn (ρ : List (Nat × Nat)) (h : Nat) : Nat := match lk ρ h with | some i => i | none => h
mutual
/-- The same value, the handles of the second renamed. -/
def entV (ρ : List (Nat × Nat)) : SV → SV → Prop
  | x, .int k n => match x with | .int k' n' => k' = k ∧ n' = n | _ => False
  | x, .bool b => match x with | .bool b' => b' = b | _ => False
  | x, .str l => match x with | .str l' => l' = l | _ => False
  | x, .sl h => match x with | .sl h' => h' = rn ρ h | _ => False
  | x, .ptr h o => match x with | .ptr h' o' => h' = rn ρ h ∧ o' = o | _ => False
  | x, .elp h i d o => match x with | .elp h' i' d' o' => h' = rn ρ h ∧ i' = i ∧ d' = d ∧ o' = o | _ => False
  | x, .agg ys => match x with | .agg xs => entVs ρ xs ys | _ => False
  | x, .tup ys => match x with | .tup xs => entVs ρ xs ys | _ => False
  | x, .fn f ys => match x with | .fn f' xs => f' = f ∧ entVs ρ xs ys | _ => False
  | x, .nils => match x with | .nils => True | _ => False
  | x, .nilp => match x with | .nilp => True | _ => False
  | x, .glo g i => match x with | .glo g' i' => g' = g ∧ i' = i | _ => False
def entVs (ρ : List (Nat × Nat)) : List SV → List SV → Prop
  | xs, [] => match xs with | [] => True | _ => False
  | xs, y :: ys => match xs with | x :: xs => entV ρ x y ∧ entVs ρ xs ys | _ => False
end
def entR (ρ : List (Nat × Nat)) (D : List Nat) (rs rs' : List Nat) : Prop :=
  (∀ i ∈ D, memB rs (rn ρ i) = true → memB rs' i = true) ∧ ∀ r ∈ rs', memB D r = true ∧ memB rs (rn ρ r) = true
def entO (ρ : List (Nat × Nat)) (D : List Nat) : Own → Own → Prop
  | .vw rs, .vw rs' => entR ρ D rs rs'
  | .sh, .sh => True
  | .dp, .dp => True
  | .cs k, .cs k' => k = k'
  | .dp, .cs k => k = 0
  | .dp, .vw [] => True
  | .sh, .vw [] => True
  | _, _ => False
def entH (ρ : List (Nat × Nat)) (D : List Nat) : HL → HL → Prop
  | .arr o T es _, .arr o' T' es' p' => entO ρ D o o' ∧ T = T' ∧ es = es' ∧ p' = .no
  | .box ow _ cs, .box ow' _ cs' => ow = ow' ∧ entVs ρ cs cs'
  | .abx ow T es, .abx ow' T' es' => ow = ow' ∧ T = T' ∧ es = es'
  | .bld T e l, .bld T' e' l' => T = T' ∧ e = e' ∧ l = l'
  | _, _ => False
def hlts (n : Nat) : HL → Prop | .box _ _ cs => SV.lts n cs | _ => True
def domH : Hp → List Nat
  | [] => []
  | (h, _) :: r => h :: domH r
def entA (ρ : List (Nat × Nat)) (A : Hp) (B : List Nat) (n : Nat) : Hp → Prop
  | [] => True
  | (h, hl') :: r => (match lk A (rn ρ h) with | some hl => entH ρ B hl hl' | none => False) ∧ h < n ∧ hlts n hl' ∧ entA ρ A B n r
def entL (ρ : List (Nat × Nat)) (keep : List Nat) (n : Nat) (L : List (Nat × SV)) : List (Nat × SV) → Prop
  | [] => True
  | (t, v') :: r => (match lk L t with | some v => entV ρ v v' | none => False) ∧ keep.contains t = true ∧ SV.lt n v' ∧ entL ρ keep n L r
def ent (keep : List Nat) (n0 : Nat) (ρ : List (Nat × Nat)) (S T : St) : Prop :=
  T.Lt = [] ∧ n0 ≤ T.n ∧ (∀ p ∈ ρ, n0 ≤ p.1) ∧ (T.A.map fun p => rn ρ p.1).Nodup ∧ entL ρ keep T.n S.Lp T.Lp ∧ entA ρ S.A (domH T.A) T.n T.A
mutual
theorem entV_val {ρ : List (Nat × Nat)} (β : Nat → GV) : ∀ (x y : SV), entV ρ x y → SV.val (fun h => β (rn ρ h)) y = SV.val β x
  | x, .int k n, h => by cases x <;> simp only [entV] at h <;> obtain ⟨rfl, rfl⟩ := h; rfl
  | x, .bool b, h => by cases x <;> simp only [entV] at h; subst h; rfl
  | x, .str l, h => by cases x <;> simp only [entV] at h; subst h; rfl
  | x, .sl i, h => by cases x <;> simp only [entV] at h; subst h; rfl
  | x, .ptr i o, h => by cases x <;> simp only [entV] at h <;> obtain ⟨rfl, rfl⟩ := h; rfl
  | x, .elp i j d o, h => by cases x <;> simp only [entV] at h <;> obtain ⟨rfl, rfl, rfl, rfl⟩ := h; rfl
  | x, .agg ys, h => by cases x <;> simp only [entV] at h; simp only [SV.val]; rw [entVs_val β _ ys h]
  | x, .tup ys, h => by cases x <;> simp only [entV] at h; simp only [SV.val]; rw [entVs_val β _ ys h]
  | x, .fn f ys, h => by cases x <;> simp only [entV] at h <;> obtain ⟨rfl, h⟩ := h; simp only [SV.val]; rw [entVs_val β _ ys h]
  | x, .nils, h => by cases x <;> simp only [entV] at h; rfl
  | x, .nilp, h => by cases x <;> simp only [entV] at h; rfl
  | x, .glo g i, h => by cases x <;> simp only [entV] at h <;> obtain ⟨rfl, rfl⟩ := h; rfl
theorem entVs_val {ρ : List (Nat × Nat)} (β : Nat → GV) : ∀ (xs ys : List SV), entVs ρ xs ys → SV.vals (fun h => β (rn ρ h)) ys = SV.vals β xs
  | xs, [], h => by cases xs <;> simp only [entVs] at h; rfl
  | xs, y :: ys, h => by cases xs <;> simp only [entVs] at h; simp only [SV.vals]; rw [entV_val β _ y h.1, entVs_val β _ ys h.2]
end
mutual
theorem entV_ok {ρ : List (Nat × Nat)} (β : Nat → GV) : ∀ (x y : SV), entV ρ x y → SV.ok β x → SV.ok (fun h => β (rn ρ h)) y
  | x, .int k n, h, hk => by cases x <;> simp only [entV] at h <;> obtain ⟨rfl, rfl⟩ := h; exact hk
  | x, .bool b, h, hk => trivial
  | x, .str l, h, hk => by cases x <;> simp only [entV] at h; subst h; exact hk
  | x, .sl i, h, hk => trivial
  | x, .ptr i o, h, hk => by cases x <;> simp only [entV] at h <;> obtain ⟨rfl, rfl⟩ := h; exact hk
  | x, .elp i j d o, h, hk => by cases x <;> simp only [entV] at h <;> obtain ⟨rfl, rfl, rfl, rfl⟩ := h; exact hk
  | x, .agg ys, h, hk => by cases x <;> simp only [entV] at h; exact entVs_ok β _ ys h hk
  | x, .tup ys, h, hk => by cases x <;> simp only [entV] at h; exact entVs_ok β _ ys h hk
  | x, .fn f ys, h, hk => by cases x <;> simp only [entV] at h <;> obtain ⟨rfl, h⟩ := h; exact entVs_ok β _ ys h hk
  | x, .nils, h, hk => trivial
  | x, .nilp, h, hk => trivial
  | x, .glo g i, h, hk => trivial
theorem entVs_ok {ρ : List (Nat × Nat)} (β : Nat → GV) : ∀ (xs ys : List SV), entVs ρ xs ys → SV.oks β xs → SV.oks (fun h => β (rn ρ h)) ys
  | xs, [], h, hk => trivial
  | xs, y :: ys, h, hk => by cases xs <;> simp only [entVs] at h; exact ⟨entV_ok β _ y h.1 hk.1, entVs_ok β _ ys h.2 hk.2⟩
end
section
variable {C : Cx} {S T : St} {a : Act} {w : World} {ρ : List (Nat × Nat)} {k : List KI}
theorem rn_low {n0 h : Nat} (hρ : ∀ p ∈ ρ, n0 ≤ p.1) (hh : h < n0) : rn ρ h = h := by
  unfold rn
  have : lk ρ h = none := by
    induction ρ with
    | nil => rfl
    | cons p ρ ih =>
      obtain ⟨i, j⟩ := p
      simp only [lk]
      have := hρ (i, j) (by simp)
      rw [if_neg (by simp at this; omega)]
      exact ih fun p hp => hρ p (by simp [hp])
  rw [this]
theorem entL_lk {keep : List Nat} {n : Nat} {L : List (Nat × SV)} : ∀ {L' : List (Nat × SV)}, entL ρ keep n L L' → ∀ t v', lk L' t = some v' → ∃ v, lk L t = some v ∧ entV ρ v v' ∧ keep.contains t = true ∧ SV.lt n v'
  | [], _, t, v', h => by cases h
  | (i, x) :: r, hL, t, v', h => by
    obtain ⟨h1, h2, h3, h4⟩ := hL
    simp only [lk] at h
    split at h
    · rename_i e; subst e; cases h
      split at h1
      · rename_i v hv; exact ⟨v, hv, h1, h2, h3⟩
      · exact h1.elim
    · exact entL_lk h4 t v' h
theorem entA_lk {A : Hp} {B : List Nat} {n : Nat} : ∀ {A' : Hp}, entA ρ A B n A' → ∀ i hl', lk A' i = some hl' → ∃ hl, lk A (rn ρ i) = some hl ∧ entH ρ B hl hl' ∧ i < n ∧ hlts n hl' ∧ ∃ p ∈ A', p.1 = i
  | [], _, t, v', h => by cases h
  | (i, x) :: r, hL, t, v', h => by
    obtain ⟨h1, h2, h3, h4⟩ := hL
    simp only [lk] at h
    split at h
    · rename_i e; subst e; cases h
      split at h1
      · rename_i hl hv; exact ⟨hl, hv, h1, h2, h3, (i, x), by simp, rfl⟩
      · exact h1.elim
    · obtain ⟨hl, q1, q2, q3, q4, p, q5, q6⟩ := entA_lk h4 t v' h
      exact ⟨hl, q1, q2, q3, q4, p, by simp [q5], q6⟩
theorem nodup_inj {α β : Type} {f : α → β} : ∀ {l : List α}, (l.map f).Nodup → ∀ x ∈ l, ∀ y ∈ l, f x = f y → x = y
  | [], _, x, hx, _, _, _ => by cases hx
  | z :: l, h, x, hx, y, hy, e => by
    simp only [List.map_cons, List.nodup_cons] at h
    rcases List.mem_cons.1 hx with hx1 | hx2 <;> rcases List.mem_cons.1 hy with hy1 | hy2
    · rw [hx1, hy1]
    · subst hx1; exact absurd (List.mem_map.2 ⟨y, hy2, e.symm⟩) h.1
    · subst hy1; exact absurd (List.mem_map.2 ⟨x, hx2, e⟩) h.1
    · exact nodup_inj h.2 x hx2 y hy2 e
theorem domH_lk {A : Hp} {i : Nat} : i ∈ domH A ↔ ∃ hl, lk A i = some hl := by
  induction A with
  | nil => simp [domH, lk]
  | cons p A ih =>
    obtain ⟨h, x⟩ := p
    simp only [domH, List.mem_cons, lk]
    by_cases e : h = i
    · simp [e]
    · simp only [if_neg e, ← ih]
      exact ⟨fun h => h.resolve_left (Ne.symm e), .inr⟩
theorem entH_arr {D : List Nat} {o : Own} {T : PTy} {es : List PV} {p : Pth} : ∀ {hl : HL}, entH ρ D hl (.arr o T es p) → ∃ o' p', hl = .arr o' T es p' ∧ entO ρ D o' o ∧ p = .no
  | .arr o' T' es' p', h => by obtain ⟨ho, rfl, rfl, hp⟩ := h; exact ⟨_, _, rfl, ho, hp⟩
  | .dead, h => by simp [entH] at h
  | .box _ _ _, h => by simp [entH] at h
  | .abx _ _ _, h => by simp [entH] at h
  | .bld _ _ _, h => by simp [entH] at h
theorem entH_box {D : List Nat} {ow : Bool} {t : TypeId} {cs : List SV} : ∀ {hl : HL}, entH ρ D hl (.box ow t cs) → ∃ t' cs', hl = .box ow t' cs' ∧ entVs ρ cs' cs
  | .box ow t' cs', h => by obtain ⟨rfl, h⟩ := h; exact ⟨_, _, rfl, h⟩
  | .dead, h => by simp [entH] at h
  | .arr _ _ _ _, h => by simp [entH] at h
  | .abx _ _ _, h => by simp [entH] at h
  | .bld _ _ _, h => by simp [entH] at h
theorem entH_abx {D : List Nat} {ow : Bool} {T : PTy} {es : List PV} : ∀ {hl : HL}, entH ρ D hl (.abx ow T es) → hl = .abx ow T es
  | .abx ow' T' es', h => by obtain ⟨rfl, rfl, rfl⟩ := h; rfl
  | .dead, h => by simp [entH] at h
  | .arr _ _ _ _, h => by simp [entH] at h
  | .box _ _ _, h => by simp [entH] at h
  | .bld _ _ _, h => by simp [entH] at h
theorem entH_bld {D : List Nat} {T e : Nat} {l : List UInt8} : ∀ {hl : HL}, entH ρ D hl (.bld T e l) → hl = .bld T e l
  | .bld T' e' l', h => by obtain ⟨rfl, rfl, rfl⟩ := h; rfl
  | .dead, h => by simp [entH] at h
  | .arr _ _ _ _, h => by simp [entH] at h
  | .box _ _ _, h => by simp [entH] at h
  | .abx _ _ _, h => by simp [entH] at h
theorem entH_dead {D : List Nat} : ∀ {hl : HL}, ¬ entH ρ D hl .dead
  | .arr o' T' es' _, h => by simp [entH] at h
  | .dead, h => by simp [entH] at h
  | .box _ _ _, h => by simp [entH] at h
  | .abx _ _ _, h => by simp [entH] at h
  | .bld _ _ _, h => by simp [entH] at h
theorem entH_all {D : List Nat} {w : World} {g : GV} {β : Nat → GV} {f : List Nat} {hl hl' : HL} (h : entH ρ D hl hl') :
    (HLSat w g β f hl → HLSat w g (fun h => β (rn ρ h)) f hl') ∧ (∀ b ∈ owned f hl', b ∈ owned f hl) ∧ (isA hl' → isA hl) ∧ (ndOk f hl → ndOk f hl') ∧ hl ≠ .dead ∧ (∀ i ∈ D, rn ρ i ∈ roots hl → i ∈ roots hl') ∧ (∀ r ∈ roots hl', r ∈ D ∧ rn ρ r ∈ roots hl) ∧ (∀ A β' w' g', pathOk A β' w' g' hl') := by
  cases hl' with
  | dead => exact (entH_dead h).elim
  | box ow t cs =>
    obtain ⟨t', cs', rfl, q⟩ := entH_box h
    refine ⟨?_, fun b hb => by cases ow with | true => simpa [owned] using hb | false => simp [owned] at hb, fun h => by cases ow <;> exact h, fun _ => trivial, by simp, by simp [roots], by simp [roots], fun _ _ _ _ => trivial⟩
    rintro ⟨b, t', s1, s2, s3⟩
    exact ⟨b, t', s1, s2, by rw [entVs_val β _ _ q]; exact s3⟩
  | bld T e l =>
    have := entH_bld h
    subst this
    exact ⟨fun h => h, fun b hb => hb, fun h => h, fun h => h, by simp, by simp [roots], by simp [roots], fun _ _ _ _ => trivial⟩
  | abx ow T es =>
    have := entH_abx h
    subst this
    exact ⟨fun h => h, fun b hb => hb, fun h => h, fun h => h, by simp, by simp [roots], by simp [roots], fun _ _ _ _ => trivial⟩
  | arr o T es p =>
    obtain ⟨o', p', rfl, ho, rfl⟩ := entH_arr h
    have hpath : ∀ A β' w' g', pathOk A β' w' g' (.arr o T es .no) := fun A β' w' g' => by cases o <;> trivial
    cases o' with
    | vw rs =>
      cases o <;> simp only [entO] at ho
      rename_i rs'
      refine ⟨fun h => h, fun b hb => by simp [owned] at hb, fun h => h, fun h => h, by simp, fun i hi hm => memB_iff.1 (ho.1 i hi (memB_iff.2 hm)), fun r hr => ⟨memB_iff.1 (ho.2 r hr).1, memB_iff.1 (ho.2 r hr).2⟩, hpath⟩
    | sh =>
      cases o with
      | sh => exact ⟨fun h => h, fun b hb => hb, fun h => h, fun h => h, by simp, by simp [roots], by simp [roots], hpath⟩
      | vw rs =>
        cases rs with
        | nil => exact ⟨fun h => OwnS.lv h, fun b hb => by simp [owned] at hb, fun h => h, fun _ => trivial, by simp, by simp [roots], by simp [roots], hpath⟩
        | cons => simp [entO] at ho
      | _ => simp [entO] at ho
    | cs k =>
      cases o <;> simp only [entO] at ho
      subst ho
      exact ⟨fun h => h, fun b hb => hb, fun h => h, fun h => h, by simp, by simp [roots], by simp [roots], hpath⟩
    | dp =>
      cases o with
      | dp => exact ⟨fun h => h, fun b hb => hb, fun h => h, fun h => h, by simp, by simp [roots], by simp [roots], hpath⟩
      | vw rs =>
        cases rs with
        | nil => exact ⟨fun h => OwnD.lv h, fun b hb => by simp [owned] at hb, fun h => h, fun _ => trivial, by simp, by simp [roots], by simp [roots], hpath⟩
        | cons => simp [entO] at ho
      | cs k =>
        simp only [entO] at ho
        subst ho
        refine ⟨fun h => ?_, fun b hb => hb, fun h => h, fun h => h, by simp, by simp [roots], by simp [roots], hpath⟩
        rcases h with h | ⟨b, f1, cs, rfl, hr, hs, hv⟩
        · exact .inl h
        · exact .inr ⟨b, f1, [], cs, rfl, by simpa using hr, by simp, hs, by simpa using hv⟩
      | sh => simp [entO] at ho
theorem ent_at (h : ent C.keep C.n0 ρ S T) (hat : At C S a w) : At C T a w := by
  obtain ⟨e1, e2, e3, e4, e5, e6⟩ := h
  obtain ⟨kp, hn, β, ϕ, sat, h0⟩ := hat
  have hlk := fun i hl' hi => entA_lk e6 i hl' hi
  have inj : ∀ i j hl hl', lk T.A i = some hl → lk T.A j = some hl' → rn ρ i = rn ρ j → i = j := by
    intro i j hl hl' hi hj e
    obtain ⟨_, _, _, _, _, p, p1, p2⟩ := hlk i hl hi
    obtain ⟨_, _, _, _, _, q, q1, q2⟩ := hlk j hl' hj
    have := nodup_inj e4 p p1 q q1 (by rw [p2, q2]; exact e)
    rw [← p2, ← q2, this]
  refine ⟨⟨fun t v h => (entL_lk e5 t v h).elim fun _ q => q.2.2.1, fun t x h => by rw [e1] at h; cases h⟩, e2, fun h => β (rn ρ h), fun h => ϕ (rn ρ h), ⟨sat.df, sat.sz, ?_, ?_, ?_, ?_, sat.fr, sat.gl⟩, ?_⟩
  · intro t v' ht
    obtain ⟨v, q1, q2, q3, q4⟩ := entL_lk e5 t v' ht
    obtain ⟨s1, s2, s3⟩ := sat.lp t v q1
    exact ⟨by rw [entV_val β v v' q2]; exact s1, q4, entV_ok β v v' q2 s3⟩
  · intro t g v ht; rw [e1] at ht; cases ht
  · refine ⟨fun h => sat.hp.pl _, ?_, ?_, ?_, ?_, ?_, ?_, ?_⟩
    · intro i hl' hi
      obtain ⟨hl, q1, q2, q3, q4, _⟩ := hlk i hl' hi
      exact (entH_all q2).1 (sat.hp.sat _ _ q1)
    · intro i hl' hi b hb
      obtain ⟨hl, q1, q2, q3, q4, _⟩ := hlk i hl' hi
      exact sat.hp.own _ _ q1 b ((entH_all (w := w) (g := β 0) (β := β) q2).2.1 b hb)
    · intro i hl' hi ha b hb
      obtain ⟨hl, q1, q2, q3, q4, _⟩ := hlk i hl' hi
      exact sat.hp.all _ _ q1 ((entH_all (w := w) (g := β 0) (β := β) (f := []) q2).2.2.1 ha) b hb
    · intro i hl' hi
      obtain ⟨hl, q1, q2, q3, q4, _⟩ := hlk i hl' hi
      exact (entH_all (w := w) (g := β 0) (β := β) q2).2.2.2.1 (sat.hp.nd _ _ q1)
    · intro i j hl hl' hi hj hne hnv hdd b hb
      obtain ⟨hl1, q1, q2, q3, q4, _⟩ := hlk i hl hi
      obtain ⟨hl2, r1, r2, r3, r4, _⟩ := hlk j hl' hj
      have k1 := entH_all (w := w) (g := β 0) (β := β) (f := ϕ (rn ρ i)) q2
      have k2 := entH_all (w := w) (g := β 0) (β := β) (f := []) r2
      exact sat.hp.dj _ _ _ _ q1 r1 (fun e => hne (inj _ _ _ _ hi hj e)) (fun hm => hnv (k2.2.2.2.2.2.1 i (domH_lk.2 ⟨_, hi⟩) hm)) k2.2.2.2.2.1 b (k1.2.1 b hb)
    · intro i hl' hi
      obtain ⟨hl, q1, q2, q3, q4, _⟩ := hlk i hl' hi
      exact (entH_all (w := w) (g := β 0) (β := β) (f := []) q2).2.2.2.2.2.2.2 _ _ _ _
    · intro i hl' hi r hr o t cs hc
      obtain ⟨hl, q1, q2, q3, q4, _⟩ := hlk i hl' hi
      obtain ⟨_, k2⟩ := (entH_all (w := w) (g := β 0) (β := β) (f := []) q2).2.2.2.2.2.2.1 r hr
      obtain ⟨hl0, r1, r2, _⟩ := hlk r _ hc
      obtain ⟨t', cs', rfl, _⟩ := entH_box r2
      exact sat.hp.rt _ _ q1 _ k2 _ _ _ r1
  · intro i hl' hi
    obtain ⟨hl, q1, q2, q3, q4, _⟩ := hlk i hl' hi
    refine ⟨q3, ?_⟩
    cases hl' with
    | box ow t cs =>
      obtain ⟨t', cs', rfl, q5⟩ := entH_box q2
      exact ⟨q4, entVs_ok β _ _ q5 (sat.hb _ _ q1).2.2⟩
    | arr o T' es p =>
      cases o <;> (try trivial)
      intro r hr
      obtain ⟨k1, _⟩ := (entH_all (w := w) (g := β 0) (β := β) (f := []) q2).2.2.2.2.2.2.1 r hr
      obtain ⟨hl0, k3⟩ := domH_lk.1 k1
      obtain ⟨_, _, _, k4, _⟩ := hlk r _ k3
      exact k4
    | abx _ _ _ => trivial
    | bld _ _ _ => trivial
    | dead => trivial
  · intro h hh
    show β (rn ρ h) = _
    rw [rn_low e3 hh]
    exact h0 h hh
theorem wp_loopF {c : Code} {Y : Type} (st : Y → St) (Φ : Y → Prop) (μ : Y → Nat) (h0 : ∃ y ρ, Φ y ∧ ent C.keep C.n0 ρ S (st y))
    (round : ∀ y, Φ y → WP C (.code c :: .post (fun S' => ∃ y' ρ, Φ y' ∧ μ y' < μ y ∧ ent C.keep C.n0 ρ S' (st y')) :: k) (st y)) : WP C (.code (.loop c) :: k) S := by
  classical
  intro a w hat
  let M : Act → World → Nat → Prop := fun a w n => ∃ y, Φ y ∧ At C (st y) a w ∧ μ y = n
  have least : ∀ a w n, M a w n → ∃ m, M a w m ∧ ∀ j, M a w j → m ≤ j := by
    intro a w n hn
    induction n using Nat.strongRecOn with
    | ind n ih =>
      by_cases h : ∃ j, M a w j ∧ j < n
      · obtain ⟨j, h1, h2⟩ := h; exact ih j h2 h1
      · exact ⟨n, hn, fun j hj => Nat.le_of_not_lt fun hl => h ⟨j, hj, hl⟩⟩
  let mu : Act → World → Nat := fun a w => if h : ∃ m, M a w m ∧ ∀ j, M a w j → m ≤ j then h.choose else 0
  refine wp_loop (fun a w => ∃ y, Φ y ∧ At C (st y) a w) mu ?_ ?_
  · obtain ⟨y, ρ, h1, h2⟩ := h0
    exact ⟨y, h1, ent_at h2 hat⟩
  · intro a w ⟨y, hy, hay⟩
    have hex := least a w _ ⟨y, hy, hay, rfl⟩
    have hmu : mu a w = hex.choose := dif_pos hex
    obtain ⟨⟨y1, hy1, hay1, he1⟩, hmin⟩ := hex.choose_spec
    have hr := round y1 hy1 a w hay1
    refine Code.wp_mono ?_ hr
    intro e a' w' hq
    cases e with
    | normal =>
      obtain ⟨S', hS', y', ρ, p1, p2, p3⟩ := hq
      have hay' := ent_at p3 hS'
      refine ⟨⟨y', p1, hay'⟩, ?_⟩
      have hex' := least a' w' _ ⟨y', p1, hay', rfl⟩
      have hmu' : mu a' w' = hex'.choose := dif_pos hex'
      have := hex'.choose_spec.2 _ ⟨y', p1, hay', rfl⟩
      rw [hmu, hmu', ← he1]
      omega
    | _ => exact hq
theorem xt_lift {k1 k2 : List KI} (h : ∀ e a w, xt C k1 e a w → xt C k2 e a w) : ∀ (l : List KI) e a w, xt C (l ++ k1) e a w → xt C (l ++ k2) e a w
  | [], e, a, w, hx => h e a w hx
  | .code c :: l, e, a, w, hx => by
    have ih := xt_lift h l
    cases e <;> first | exact Code.wp_mono (fun e a w q => ih e a w q) hx | exact ih _ _ _ hx
  | .blk i :: l, e, a, w, hx => by
    have ih := xt_lift h l
    cases e with
    | exit j =>
      simp only [List.cons_append, xt, Exit.inBlock] at hx ⊢
      split
      · rename_i e; rw [if_pos e] at hx; exact ih _ _ _ hx
      · rename_i e; rw [if_neg e] at hx; exact ih _ _ _ hx
    | _ => exact ih _ _ _ hx
  | .post p :: l, e, a, w, hx => by
    have ih := xt_lift h l
    cases e <;> first | exact hx | exact ih _ _ _ hx
  | .run all m :: l, e, a, w, hx => by
    have ih := xt_lift h l
    cases e with
    | normal =>
      have mono : ∀ (m : List Oper) a w, wpList C.P all.toArray (xt C (l ++ k1)) m a w → wpList C.P all.toArray (xt C (l ++ k2)) m a w := by
        intro m
        induction m with
        | nil => intro a w h; exact ih _ _ _ h
        | cons o m ihm =>
          intro a w h
          unfold wpList at h ⊢
          split
          · rename_i hw
            rw [if_pos hw] at h
            rcases h with h | ⟨h, a', w', hl⟩
            · refine .inl ?_
              unfold Oper.wp at *
              generalize (execOp a.eval o).run C.P w = r at *
              cases r with
              | ok n w' =>
                cases n <;> simp only [Oper.upon] at h ⊢ <;>
                  first
                    | exact ihm _ _ h
                    | exact Calls.mono h (fun e w'' he => by cases e <;> first | exact ihm _ _ he | exact ih _ _ _ he | (obtain ⟨a', w', he⟩ := he; exact ⟨a', w', ih _ _ _ he⟩))
                    | exact Rows.mono h (fun _ _ he => ihm _ _ he)
              | halt x w' => cases x <;> simp only [Oper.upon] at h ⊢ <;> exact ih _ _ _ h
            · exact .inr ⟨h, a', w', ih _ _ _ hl⟩
          · rename_i hw
            rw [if_neg hw] at h
            exact ihm _ _ h
      exact mono m a w hx
    | _ => exact ih _ _ _ hx
theorem wp_cut {p : St → Prop} (l : List KI) (h1 : WP C (l ++ .post p :: k) S) (h2 : ∀ S', p S' → WP C k S') : WP C (l ++ k) S := by
  intro a w hat
  refine xt_lift (k1 := .post p :: k) ?_ l _ _ _ (h1 a w hat)
  intro e a w hx
  cases e with
  | normal => obtain ⟨S', h, hp⟩ := hx; exact h2 S' hp a w h
  | _ => exact hx
theorem wp_ent (h : ent C.keep C.n0 ρ S T) (h1 : WP C k T) : WP C k S := fun a w hat => h1 a w (ent_at h hat)
def ords (all : List Oper) : Nat → List Bool → List (List Nat)
  | 0, _ => [[]]
  | f + 1, m => match (List.range all.length).filter fun i => !(m.getD i true) && (match all[i]? with | some o => o.after.toList.all fun e => !Region.binds .any e || m.getD e.on false | none => false) with
    | [] => [[]]
    | r => r.flatMap fun i => (ords all f (m.set i true)).map fun l => i :: l
def pickOps (all : List Oper) (l : List Nat) : List Oper := l.filterMap fun i => all[i]?
theorem ords_spec (all : List Oper) : ∀ (f t : Nat) (m : List Bool), Region.linearise.go .any all.toArray f t m.toArray [] ∈ ords all f m := by
  intro f
  induction f with
  | zero => intro t m; simp [Region.linearise.go, ords]
  | succ f ih =>
    intro t m
    have hrs : ((List.range all.toArray.size).filter fun i => !m.toArray.getD i true && ((all.toArray[i]?).map (·.after.all fun e => !Region.binds .any e || m.toArray.getD e.on false)).getD false)
        = (List.range all.length).filter fun i => !(m.getD i true) && (match all[i]? with | some o => o.after.toList.all fun e => !Region.binds .any e || m.getD e.on false | none => false) := by
      simp only [List.size_toArray]
      apply List.filter_congr
      intro i _
      cases h : all[i]? <;> simp [h]
    simp only [Region.linearise.go, ords]
    rw [hrs]
    generalize ((List.range all.length).filter fun i => !(m.getD i true) && (match all[i]? with | some o => o.after.toList.all fun e => !Region.binds .any e || m.getD e.on false | none => false)) = r
    cases r with
    | nil => simp
    | cons x xs =>
      have hlt : t % (x :: xs).length < (x :: xs).length := Nat.mod_lt _ (by simp)
      have hg := List.getElem?_eq_getElem hlt
      rw [hg]
      simp only
      rw [linearise_go_acc, List.reverse_singleton, List.singleton_append]
      refine List.mem_flatMap.2 ⟨_, List.getElem_mem hlt, List.mem_map.2 ⟨_, ?_, rfl⟩⟩
      have := ih (t / (x :: xs).length) (m.set ((x :: xs)[t % (x :: xs).length]) true)
      simpa using this
theorem wpOps_pick {P : Program} {all : List Oper} {Q : Exit → Act → World → Prop} : ∀ (l : List Nat), wpOps P all.toArray Q l = wpList P all.toArray Q (pickOps all l)
  | [] => by funext a w; simp [wpOps, pickOps, wpList]
  | i :: l => by
    have ih := wpOps_pick (P := P) (all := all) (Q := Q) l
    funext a w
    cases h : all[i]? with
    | none => simp [wpOps, pickOps, h, ih]
    | some o =>
      have : pickOps all (i :: l) = o :: pickOps all l := by simp [pickOps, h]
      rw [this]
      simp [wpOps, h, wpList, ih]
theorem wp_draw {id : Nat} {ops : Array Oper} (hC : C.Ok) (h : ∀ l ∈ ords ops.toList ops.toList.length (List.replicate ops.toList.length false), WP C (.run ops.toList (pickOps ops.toList l) :: k) { S with Lt := [] }) : WP C (.code (.region id ops true) :: k) S := by
  intro a w hat
  refine wp_region_draw fun t => ?_
  have ho := ords_spec ops.toList ops.size t (List.replicate ops.size false)
  have h1 := h _ (by simpa using ho) a _ (at_lt (at_drew hat))
  have h2 : wpList C.P ops.toList.toArray (xt C k) _ a _ := h1
  have h3 : Region.schedule (C.P.follows .mixedOrders) ops t = Region.linearise.go .any ops.toList.toArray ops.size t (List.replicate ops.size false).toArray [] := by
    simp only [Region.schedule, hC.mix, Bool.true_or, if_true, Region.linearise]
    simp
  rw [h3]
  have h4 := wpOps_pick (P := C.P) (all := ops.toList) (Q := xt C k) (Region.linearise.go .any ops.toList.toArray ops.size t (List.replicate ops.size false).toArray [])
  simp only [Array.toArray_toList] at h4 h2 ⊢
  rw [h4]
  exact h2
end
inductive It where
  | sl (t : Nat) (o : Own) (T : PTy)
  | bx (t : Nat) (Ts : List PTy)
  | ar (t : Nat) (T : PTy)
  | bl (t : Nat)
  | ax (t : Nat)
  | bs (t : Nat) (Ts : List PTy)
  | nb (t bt : Nat) (Ts : List PTy)
  | fx (t : Nat) (Ts : List PTy)
def itVal (S : St) : List It → Option (Prop × List PV)
  | [] => some (True, [])
  | .sl t _ T :: r => match lk S.Lp t with
    | some x => (match resB S.A T x, itVal S r with | some (o, p), some (o', ps) => some (o ∧ o', p :: ps) | _, _ => none)
    | none => none
  | .bx t Ts :: r => match lk S.Lp t with
    | some (.ptr h _) => (match lk S.A h with
      | some (.box _ _ cs) => (match resLs S.A Ts cs, itVal S r with | some (o, p), some (o', ps) => some (o ∧ o', .agg p :: ps) | _, _ => none)
      | _ => none)
    | _ => none
  | .bs t Ts :: r => match lk S.Lp t with
    | some (.ptr h _) => (match lk S.A h with
      | some (.box _ _ cs) => (match resLs S.A Ts cs, itVal S r with | some (o, p), some (o', ps) => some (o ∧ o', .agg p :: ps) | _, _ => none)
      | _ => none)
    | _ => none
  | .fx t Ts :: r => match lk S.Lp t with
    | some (.ptr h _) => (match lk S.A h with
      | some (.box _ _ cs) => (match resLs S.A Ts cs, itVal S r with | some (o, p), some (o', ps) => some (o ∧ o', .agg p :: ps) | _, _ => none)
      | _ => none)
    | _ => none
  | .nb t _ Ts :: r => match lk S.Lp t with
    | some (.ptr h _) => (match lk S.A h with
      | some (.box _ _ cs) => (match resLs S.A Ts cs, itVal S r with | some (o, p), some (o', ps) => some (o ∧ o', .agg p :: ps) | _, _ => none)
      | _ => none)
    | _ => none
  | .ar t T :: r => match lk S.Lp t with
    | some (.sl h) => (match resB S.A (.list T) (.sl h), itVal S r with | some (o, p), some (o', ps) => some (o ∧ o', p :: ps) | _, _ => none)
    | _ => none
  | .bl t :: r => match lk S.Lp t with
    | some (.ptr h 0) => (match lk S.A h, itVal S r with | some (.bld _ _ l), some (o', ps) => some (o', .str l :: ps) | _, _ => none)
    | _ => none
  | .ax t :: r => match lk S.Lp t with
    | some (.ptr h 0) => (match lk S.A h, itVal S r with | some (.abx _ _ es), some (o', ps) => some (o', .list es :: ps) | _, _ => none)
    | _ => none
mutual
/-- The handles in a value. -/
def hsV : SV → List Nat
  | .sl h => [h]
  | .ptr h _ => [h]
  | .elp h _ _ _ => [h]
  | .agg xs => hsVs xs
  | .tup xs => hsVs xs
  | .fn _ xs => hsVs xs
  | _ => []
def hsVs : List SV → List Nat
  | [] => []
  | x :: xs => hsV x ++ hsVs xs
end
def itSlots : List It → List Nat
  | [] => []
  | .sl t _ _ :: r => t :: itSlots r
  | .nb t _ _ :: r => t :: itSlots r
  | _ :: r => itSlots r
def itBoxes (S : St) : List It → List Nat
  | [] => []
  | .bx t _ :: r => match lk S.Lp t with | some (.ptr h _) => h :: itBoxes S r | _ => itBoxes S r
  | .bs t _ :: r => match lk S.Lp t with | some (.ptr h _) => h :: itBoxes S r | _ => itBoxes S r
  | .fx t _ :: r => match lk S.Lp t with | some (.ptr h _) => h :: itBoxes S r | _ => itBoxes S r
  | .ar t _ :: r => match lk S.Lp t with | some (.sl h) => h :: itBoxes S r | _ => itBoxes S r
  | .bl t :: r => match lk S.Lp t with | some (.ptr h _) => h :: itBoxes S r | _ => itBoxes S r
  | .ax t :: r => match lk S.Lp t with | some (.ptr h _) => h :: itBoxes S r | _ => itBoxes S r
  | _ :: r => itBoxes S r
def dropL (ms : List Nat) : List (Nat × SV) → List (Nat × SV)
  | [] => []
  | (t, v) :: r => if memB ms t then dropL ms r else (t, v) :: dropL ms r
def hsL : List (Nat × SV) → List Nat
  | [] => []
  | (_, v) :: r => hsV v ++ hsL r
def hsA (A : Hp) (bs : List Nat) : List Nat → List Nat
  | [] => []
  | h :: r => (if memB bs h then [] else match lk A h with | some (.box _ _ cs) => hsVs cs | _ => []) ++ hsA A bs r
def onlyR (R : List Nat) : List Nat → List Nat
  | [] => []
  | r :: l => if memB R r then r :: onlyR R l else onlyR R l
def gcH (R : List Nat) : HL → HL
  | .arr (.vw rs) T es _ => .arr (.vw (onlyR R rs)) T es .no
  | .arr o T es _ => .arr o T es .no
  | x => x
def gcA (R bs : List Nat) : Hp → Hp
  | [] => []
  | (h, x) :: r => if memB R h && !memB bs h then (match x with | .dead => gcA R bs r | x => (h, gcH R x) :: gcA R bs r) else gcA R bs r
def itKeep (S : St) : List It → List Nat
  | [] => []
  | .bs t _ :: r => (match lk S.Lp t with | some (.ptr h _) => (match lk S.A h with | some (.box _ _ cs) => slsOf cs | _ => []) | _ => []) ++ itKeep S r
  | _ :: r => itKeep S r
def itReach (S : St) (its : List It) : List Nat :=
  itKeep S its ++ hsL (dropL (itSlots its) S.Lp) ++ hsA S.A (itBoxes S its) (hsL (dropL (itSlots its) S.Lp)) ++ hsA S.A (itBoxes S its) (hsA S.A (itBoxes S its) (hsL (dropL (itSlots its) S.Lp)))
def itLay (S0 T : St) : List It → List PV → St
  | .sl t o ty :: r, p :: ps => itLay S0 ⟨T.Lp ++ [(t, (introV o noP 0 T.n ty p).1)], [], (introV o noP 0 T.n ty p).2.1 ++ T.A, (introV o noP 0 T.n ty p).2.2⟩ r ps
  | .nb t bt Ts :: r, p :: ps => itLay S0 ⟨T.Lp ++ [(t, .ptr (introL .dp noP 0 T.n Ts p.A).2.2 0)], [], ((introL .dp noP 0 T.n Ts p.A).2.2, .box true bt (introL .dp noP 0 T.n Ts p.A).1) :: ((introL .dp noP 0 T.n Ts p.A).2.1 ++ T.A), (introL .dp noP 0 T.n Ts p.A).2.2 + 1⟩ r ps
  | .bx t Ts :: r, p :: ps => match lk S0.Lp t with
    | some (.ptr h _) => (match lk S0.A h with
      | some (.box ow bt _) => itLay S0 ⟨T.Lp, [], (h, .box ow bt (introL .dp noP 0 T.n Ts p.A).1) :: ((introL .dp noP 0 T.n Ts p.A).2.1 ++ T.A), (introL .dp noP 0 T.n Ts p.A).2.2⟩ r ps
      | _ => T)
    | _ => T
  | .fx t Ts :: r, p :: ps => match lk S0.Lp t with
    | some (.ptr h _) => (match lk S0.A h with
      | some (.box ow bt _) => itLay S0 ⟨T.Lp, [], (h, .box ow bt (introL (.vw []) noP 0 T.n Ts p.A).1) :: ((introL (.vw []) noP 0 T.n Ts p.A).2.1 ++ T.A), (introL (.vw []) noP 0 T.n Ts p.A).2.2⟩ r ps
      | _ => T)
    | _ => T
  | .bs t Ts :: r, p :: ps => match lk S0.Lp t with
    | some (.ptr h _) => (match lk S0.A h with
      | some (.box ow bt cs) => itLay S0 ⟨T.Lp, [], (h, .box ow bt (keepS Ts cs p.A)) :: T.A, T.n⟩ r ps
      | _ => T)
    | _ => T
  | .ar t E :: r, p :: ps => match lk S0.Lp t with
    | some (.sl h) => itLay S0 ⟨T.Lp, [], (h, .arr .dp E p.L .no) :: T.A, T.n⟩ r ps
    | _ => T
  | .bl t :: r, p :: ps => match lk S0.Lp t with
    | some (.ptr h _) => (match lk S0.A h with
      | some (.bld B e _) => itLay S0 ⟨T.Lp, [], (h, .bld B e p.S) :: T.A, T.n⟩ r ps
      | _ => T)
    | _ => T
  | .ax t :: r, p :: ps => match lk S0.Lp t with
    | some (.ptr h _) => (match lk S0.A h with
      | some (.abx ow E _) => itLay S0 ⟨T.Lp, [], (h, .abx ow E p.L) :: T.A, T.n⟩ r ps
      | _ => T)
    | _ => T
  | _, _ => T
def itSt (S : St) (its : List It) (ps : List PV) : St :=
  itLay S ⟨dropL (itSlots its) S.Lp, [], gcA (itReach S its) (itBoxes S its) S.A, S.n⟩ its ps
mutual
def mr : SV → SV → List (Nat × Nat)
  | .sl h', .sl h => if h' = h then [] else [(h', h)]
  | .agg xs, .agg ys => mrs xs ys
  | .tup xs, .tup ys => mrs xs ys
  | _, _ => []
def mrs : List SV → List SV → List (Nat × Nat)
  | x :: xs, y :: ys => mr x y ++ mrs xs ys
  | _, _ => []
end
def itRho (T S : St) : List It → List (Nat × Nat)
  | [] => []
  | .sl t _ _ :: r => (match lk T.Lp t, lk S.Lp t with | some x, some y => mr x y | _, _ => []) ++ itRho T S r
  | .bx t _ :: r => (match lk T.Lp t with | some (.ptr h _) => (match lk T.A h, lk S.A h with | some (.box _ _ xs), some (.box _ _ ys) => mrs xs ys | _, _ => []) | _ => []) ++ itRho T S r
  | .fx t _ :: r => (match lk T.Lp t with | some (.ptr h _) => (match lk T.A h, lk S.A h with | some (.box _ _ xs), some (.box _ _ ys) => mrs xs ys | _, _ => []) | _ => []) ++ itRho T S r
  | .nb t _ _ :: r => (match lk T.Lp t, lk S.Lp t with | some (.ptr h _), some (.ptr h' _) => (match lk T.A h, lk S.A h' with | some (.box _ _ xs), some (.box _ _ ys) => (if h = h' then [] else [(h, h')]) ++ mrs xs ys | _, _ => []) | _, _ => []) ++ itRho T S r
  | .bs _ _ :: r => itRho T S r
  | .ar _ _ :: r => itRho T S r
  | .bl _ :: r => itRho T S r
  | .ax _ :: r => itRho T S r
def itOk (keep : List Nat) (n0 : Nat) (S : St) (its : List It) (Φ : List PV → Prop) (S' : St) : Prop :=
  match itVal S' its with
  | some (o, ps) => o ∧ Φ ps ∧ ent keep n0 (itRho (itSt S its ps) S' its) S' (itSt S its ps)
  | none => False
theorem itOk_ex {keep : List Nat} {n0 : Nat} {S S' : St} {its : List It} {Φ : List PV → Prop} (h : itOk keep n0 S its Φ S') : ∃ ps ρ, Φ ps ∧ ent keep n0 ρ S' (itSt S its ps) := by
  unfold itOk at h
  split at h
  · exact ⟨_, _, h.2.1, h.2.2⟩
  · exact h.elim
structure Rules (E : Env) (N : Nat) (keep : List Nat) (n0 : Nat) (fin : St → Prop) (W : List KI → St → Prop) : Prop where
  vc : ∀ (pls : List (Nat × List Nat × Pl)) (k : List KI) (S : St), vcK E N keep fin W pls [] k S → W k S
  loop : ∀ (c : Code) (k : List KI) (S : St) (Y : Type) (st : Y → St) (Φ : Y → Prop) (μ : Y → Nat), (∃ y ρ, Φ y ∧ ent keep n0 ρ S (st y)) →
    (∀ y, Φ y → W (.code c :: .post (fun S' => ∃ y' ρ, Φ y' ∧ μ y' < μ y ∧ ent keep n0 ρ S' (st y')) :: k) (st y)) → W (.code (.loop c) :: k) S
  loopS : ∀ (c : Code) (k : List KI) (S : St) (its : List It) (Φ : List PV → Prop) (μ : List PV → Nat), itOk keep n0 S its Φ S →
    (∀ ys, Φ ys → W (.code c :: .post (itOk keep n0 S its fun ps => Φ ps ∧ μ ps < μ ys) :: k) (itSt S its ys)) → W (.code (.loop c) :: k) S
  cutS : ∀ (l k : List KI) (S : St) (its : List It) (Φ : List PV → Prop), W (l ++ .post (itOk keep n0 S its Φ) :: k) S → (∀ ys, Φ ys → W k (itSt S its ys)) → W (l ++ k) S
  cut : ∀ (l k : List KI) (S : St) (p : St → Prop), W (l ++ .post p :: k) S → (∀ S', p S' → W k S') → W (l ++ k) S
  ent : ∀ (k : List KI) (S T : St) (ρ : List (Nat × Nat)), ent keep n0 ρ S T → W k T → W k S
  draw : ∀ (id : Nat) (ops : Array Oper) (k : List KI) (S : St), (∀ l ∈ ords ops.toList ops.toList.length (List.replicate ops.toList.length false), W (.run ops.toList (pickOps ops.toList l) :: k) { S with Lt := [] }) →
    W (.code (.region id ops true) :: k) S
theorem rules_wp {C : Cx} (hC : C.Ok) : Rules C.E C.N C.keep C.n0 C.fin (WP C) := by
  refine ⟨fun pls k S h => vcK_sound hC (fun _ _ h => h) _ k S (Nat.le_refl _) h, fun c k S Y st Φ μ h0 hr => wp_loopF st Φ μ h0 hr, fun c k S its Φ μ h0 hr => ?_, fun l k S its Φ h1 h2 => ?_, fun l k S p h1 h2 => wp_cut l h1 h2, fun k S T ρ h h1 => wp_ent h h1,
    fun id ops k S h => wp_draw hC h⟩
  · refine wp_loopF (Y := List PV) (itSt S its) Φ μ (itOk_ex h0) fun y hy => ?_
    have h1 := hr y hy
    intro a w hat
    have := h1 a w hat
    refine xt_lift (k1 := .post (itOk C.keep C.n0 S its fun ps => Φ ps ∧ μ ps < μ y) :: k) ?_ [.code c] _ _ _ this
    intro e a w hx
    cases e with
    | normal =>
      obtain ⟨S', h, hp⟩ := hx
      obtain ⟨ps, ρ, q1, q2⟩ := itOk_ex hp
      exact ⟨S', h, ps, ρ, q1.1, q1.2, q2⟩
    | _ => exact hx
  · refine wp_cut l h1 fun S' hS' => ?_
    obtain ⟨ps, ρ, q1, q2⟩ := itOk_ex hS'
    exact wp_ent q2 (h2 ps q1)
end Go.Proofs.YtkofjkjcbljkdaaGreatDoor
end

section
namespace Go.Proofs.YtkofjkjcbljkdaaGreatDoor
variable [LaidG]
set_option linter.unusedVariables false
def introB (n : Nat) : PTy → PV → SV × Hp × Nat
  | .box ts, p => (.ptr (introL (.vw []) noP 0 n ts p.A).2.2 0, ((introL (.vw []) noP 0 n ts p.A).2.2, .box false 0 (introL (.vw []) noP 0 n ts p.A).1) :: (introL (.vw []) noP 0 n ts p.A).2.1, (introL (.vw []) noP 0 n ts p.A).2.2 + 1)
  | .abx T, p => (.ptr n 0, [(n, .abx false T p.L)], n + 1)
  | .agg ts, p => (.agg (introL (.vw []) noP 0 n ts p.A).1, (introL (.vw []) noP 0 n ts p.A).2.1, (introL (.vw []) noP 0 n ts p.A).2.2)
  | T, p => ((introL (.vw []) noP 0 n [T] [p]).1.headD .nilp, (introL (.vw []) noP 0 n [T] [p]).2.1, (introL (.vw []) noP 0 n [T] [p]).2.2)
def introBs (n : Nat) : List PTy → List PV → List SV × Hp × Nat
  | t :: ts, p :: ps => ((introB n t p).1 :: (introBs (introB n t p).2.2 ts ps).1, (introBs (introB n t p).2.2 ts ps).2.1 ++ (introB n t p).2.1, (introBs (introB n t p).2.2 ts ps).2.2)
  | _, _ => ([], [], n)
def introR (n : Nat) : PTy → PV → SV × Hp × Nat
  | .fn f ts, p => (.fn f (introBs n ts p.A).1, (introBs n ts p.A).2.1, (introBs n ts p.A).2.2)
  | T, p => introB n T p
def introX (n : Nat) : PTy → PV → SV × Hp × Nat
  | .box ts, p => (.ptr (introL .dp noP 0 n ts p.A).2.2 0, ((introL .dp noP 0 n ts p.A).2.2, .box true 0 (introL .dp noP 0 n ts p.A).1) :: (introL .dp noP 0 n ts p.A).2.1, (introL .dp noP 0 n ts p.A).2.2 + 1)
  | .abx T, p => (.ptr n 0, [(n, .abx true T p.L)], n + 1)
  | _, _ => (.nilp, [], n)
def introS (n : Nat) : PTy → PV → SV × Hp × Nat
  | .box ts, p => (.ptr (introL (.vw []) noP 0 n ts p.A).2.2 0, ((introL (.vw []) noP 0 n ts p.A).2.2, .box true 0 (introL (.vw []) noP 0 n ts p.A).1) :: (introL (.vw []) noP 0 n ts p.A).2.1, (introL (.vw []) noP 0 n ts p.A).2.2 + 1)
  | _, _ => (.nilp, [], n)
def introT (n : Nat) : Md → PTy → PV → SV × Hp × Nat
  | .rd, T, p => introR n T p
  | .mt, T, p => introV .dp noP 0 n T p
  | .ow, T, p => introV .dp noP 0 n T p
  | .bx, T, p => introX n T p
  | .bs, T, p => introS n T p
def introTs (n : Nat) : List (Md × PTy) → List PV → List SV × Hp × Nat
  | (m, t) :: ts, p :: ps => ((introT n m t p).1 :: (introTs (introT n m t p).2.2 ts ps).1, (introTs (introT n m t p).2.2 ts ps).2.1 ++ (introT n m t p).2.1, (introTs (introT n m t p).2.2 ts ps).2.2)
  | _, _ => ([], [], n)
mutual
/-- A pure value is of a type. -/
def Ty : PTy → PV → Prop
  | .int k, p => ∃ n, p = .int k n ∧ inR k n
  | .bool, p => ∃ b, p = .bool b
  | .str, p => ∃ l, p = .str l ∧ l.length ≤ LIM
  | .list T, p => ∃ es, p = .list es ∧ es.length ≤ LIM ∧ ∀ e ∈ es, Ty T e
  | .agg ts, p => ∃ qs, p = .agg qs ∧ Tys ts qs
  | .box ts, p => ∃ qs, p = .agg qs ∧ Tys ts qs
  | .abx T, p => ∃ es, p = .list es ∧ ∀ e ∈ es, Ty T e
  | .fn _ ts, p => ∃ qs, p = .agg qs ∧ Tys ts qs
  | .opq, _ => True
def Tys : List PTy → List PV → Prop
  | [], ps => ps = []
  | t :: ts, ps => ∃ p qs, ps = p :: qs ∧ Ty t p ∧ Tys ts qs
end
def TyA : List (Md × PTy) → List PV → Prop
  | [], ps => ps = []
  | (_, t) :: ts, ps => ∃ p qs, ps = p :: qs ∧ Ty t p ∧ TyA ts qs
section
variable {P : Program} {E : Env} {N : Nat} {w0 : World} {X F : List Nat} {S : St} {β : Nat → GV} {ϕ : Nat → List Nat} {a : Act} {w w' : World} {o : Oper} {R : RR} {A : Hp} {B : Nat}
theorem Tys_append : ∀ {ts ts' : List PTy} {ps ps' : List PV}, ts.length = ps.length → (Tys (ts ++ ts') (ps ++ ps') ↔ Tys ts ps ∧ Tys ts' ps')
  | [], ts', [], ps', _ => by simp [Tys]
  | [], ts', p :: ps, ps', h => by simp at h
  | t :: ts, ts', [], ps', h => by simp at h
  | t :: ts, ts', p :: ps, ps', h => by
    have ih := Tys_append (ts := ts) (ts' := ts') (ps := ps) (ps' := ps') (by simpa using h)
    simp only [List.cons_append, Tys]
    constructor
    · rintro ⟨_, _, e, h1, h2⟩
      cases e
      obtain ⟨h3, h4⟩ := ih.1 h2
      exact ⟨⟨_, _, rfl, h1, h3⟩, h4⟩
    · rintro ⟨⟨_, _, e, h1, h2⟩, h3⟩
      cases e
      exact ⟨_, _, rfl, h1, ih.2 ⟨h2, h3⟩⟩
theorem Tys_elems {T : PTy} (hT : ∀ t ∈ T.leaves, t.leaves = [t]) : ∀ (es : List PV), (∀ e ∈ es, Shp T e) → Tys (flatT T es.length) (flatP es) → ∀ e ∈ es, Ty T e
  | [], _, _, e, he => by cases he
  | p :: es, hs, h, e, he => by
    have hs1 := hs p (by simp)
    have e1 : flatT T (p :: es).length = T.leaves ++ flatT T es.length := by simp [flatT, List.replicate_succ]
    have e2 : flatP (p :: es) = p.leaves ++ flatP es := by simp [flatP]
    have hlen : T.leaves.length = p.leaves.length := by
      cases T <;> simp only [Shp] at hs1
      case agg ts => obtain ⟨qs, rfl, hq⟩ := hs1; simp [PTy.leaves, PV.leaves, hq]
      all_goals (cases p <;> simp [PTy.leaves, PV.leaves] at hs1 ⊢)
    rw [e1, e2, Tys_append hlen] at h
    rcases List.mem_cons.1 he with rfl | he
    · have h1 := h.1
      cases T <;> simp only [Shp] at hs1
      case agg ts => obtain ⟨qs, rfl, hq⟩ := hs1; exact ⟨qs, rfl, h1⟩
      all_goals (cases e <;> simp only [PTy.leaves, PV.leaves, Tys] at h1 hs1 <;> first | (obtain ⟨_, _, e, h1, _⟩ := h1; cases e; exact h1) | exact absurd rfl (hs1 _))
    · exact Tys_elems hT es (fun e he => hs e (by simp [he])) h.2 e he
theorem Lv.tys {w : World} {Ts : List PTy} {ps : List PV} {vs : List Value} {fp : List Nat} (h : Lv w Ts ps vs fp) : Tys Ts ps := by
  induction h with
  | nil => simp [Tys]
  | int h1 _ ih => exact ⟨_, _, rfl, ⟨_, rfl, h1⟩, ih⟩
  | bool _ ih => exact ⟨_, _, rfl, ⟨_, rfl⟩, ih⟩
  | str h1 _ ih => exact ⟨_, _, rfl, ⟨_, rfl, h1⟩, ih⟩
  | empty _ ih => exact ⟨_, _, rfl, ⟨[], rfl, by simp, by simp⟩, ih⟩
  | @list T es b o cap c t fr cs f1 Ts ps vs fp hb hs hl hv hc _ ih1 ih2 =>
    refine ⟨_, _, rfl, ⟨es, rfl, hl.1, ?_⟩, ih2⟩
    intro e he
    have hT : ∀ t ∈ T.leaves, t.leaves = [t] := by
      intro t ht
      refine hv.ty_of t ?_
      simp only [flatT, List.mem_flatten, List.mem_replicate]
      exact ⟨T.leaves, ⟨(by intro h0; have := List.length_eq_zero_iff.1 h0; subst this; cases he), rfl⟩, ht⟩
    exact Tys_elems hT es hs ih1 e he
theorem flat_tys {w : World} {T : PTy} {es : List PV} {cs : List Value} {f : List Nat} (hT : flatB T = true) (hs : ∀ e ∈ es, Shp T e) (h : Lv w (flatT T es.length) (flatP es) cs f) : ∀ e ∈ es, Ty T e := by
  intro e he
  have hT : ∀ t ∈ T.leaves, t.leaves = [t] := by
    intro t ht
    refine h.ty_of t ?_
    simp only [flatT, List.mem_flatten, List.mem_replicate]
    exact ⟨T.leaves, ⟨(by intro h0; have := List.length_eq_zero_iff.1 h0; subst this; cases he), rfl⟩, ht⟩
  exact Tys_elems hT es hs h.tys e he
theorem ArgB.ty {T : PTy} {p : PV} {v : Value} {f fl : List Nat} (h : ArgB w T p v f fl) : Ty T p := by
  have leaf : Lv w [T] [p] [v] f → Ty T p := fun hL => by
    have := hL.tys
    simp only [Tys] at this
    obtain ⟨_, _, e, h1, _⟩ := this
    cases e
    exact h1
  cases T with
  | agg ts => obtain ⟨qs, cs, rfl, _, hL, _⟩ := h; exact ⟨qs, rfl, hL.tys⟩
  | box ts => obtain ⟨qs, cs, b, t, pre, post, rfl, _, _, hL, _⟩ := h; exact ⟨qs, rfl, hL.tys⟩
  | abx T => obtain ⟨es, b, t, c, rfl, _, _, h1, h2, h3, _⟩ := h; exact ⟨es, rfl, flat_tys h1 h2 h3⟩
  | fn _ _ => exact h.elim
  | _ => exact leaf h.1
theorem ArgBs.tys {ts : List PTy} {ps : List PV} {vs : List Value} {f fl : List Nat} (h : ArgBs w ts ps vs f fl) : Tys ts ps := by
  induction h with
  | nil => simp [Tys]
  | cons h1 _ ih => exact ⟨_, _, rfl, h1.ty, ih⟩
theorem ArgV.ty {T : PTy} {p : PV} {v : Value} {f fl : List Nat} (h : ArgV w T p v f fl) : Ty T p := by
  cases T with
  | fn g ts => obtain ⟨qs, cs, rfl, _, hL⟩ := h; exact ⟨qs, rfl, hL.tys⟩
  | _ => exact ArgB.ty h
theorem ArgM.ty {T : PTy} {p : PV} {v : Value} {f : List Nat} (h : ArgM w T p v f) : Ty T p := by
  cases T with
  | agg ts => obtain ⟨qs, cs, fs, rfl, _, hL, _⟩ := h; exact ⟨qs, rfl, hL.lv.tys⟩
  | list T =>
    obtain ⟨es, rfl, hO⟩ := h
    have := hO.lv.tys
    simp only [Tys] at this
    obtain ⟨_, _, e, h1, _⟩ := this
    cases e
    exact h1
  | _ => exact h.elim
theorem ArgX.ty {T : PTy} {p : PV} {v : Value} {f : List Nat} (h : ArgX w T p v f) : Ty T p := by
  cases T with
  | box ts => obtain ⟨qs, cs, fs, b, t, pre, post, rfl, _, _, hL, _⟩ := h; exact ⟨qs, rfl, hL.lv.tys⟩
  | abx T => obtain ⟨es, b, t, c, rfl, _, _, h1, h2, h3, _⟩ := h; exact ⟨es, rfl, flat_tys h1 h2 h3⟩
  | _ => exact h.elim
theorem ArgS.ty {T : PTy} {p : PV} {v : Value} {f : List Nat} {b : Nat} (h : ArgS w T p v f b) : Ty T p := by
  cases T with
  | box ts => obtain ⟨qs, cs, t, pre, post, rfl, _, _, hL⟩ := h; exact ⟨qs, rfl, hL.tys⟩
  | _ => exact h.elim
theorem ArgsV.ty {ts : List (Md × PTy)} {ps : List PV} {vs : List Value} {f fl ms : List Nat} (h : ArgsV w ts ps vs f fl ms) : TyA ts ps := by
  induction h with
  | nil => simp [TyA]
  | rd h1 _ ih => exact ⟨_, _, rfl, h1.ty, ih⟩
  | mt h1 _ ih => exact ⟨_, _, rfl, h1.ty, ih⟩
  | ow h1 _ ih => exact ⟨_, _, rfl, h1.ty, ih⟩
  | bx h1 _ ih => exact ⟨_, _, rfl, h1.ty, ih⟩
  | bs h1 _ ih => exact ⟨_, _, rfl, h1.ty, ih⟩
theorem apart_add {n : Nat} {hl0 : HL} {f G : List Nat} (hb : Bd n β A) (h : Apart A ϕ G) (hf : ∀ b ∈ f, b ∉ G) : Apart ((n, hl0) :: A) (upd ϕ n f) G :=
  apart_put h (fun i => lk_cons' A i) hf
theorem viewOk_rd {f : List Nat} {n : Nat} (hp : Holds B X F A β ϕ w) (hB : w.heap.size = B) (hf : ∀ b ∈ f, b < w.heap.size) (hX : ∀ b ∈ f, b ∉ X) (hF : ∀ b ∈ f, b ∈ F) : ViewOk B F A ϕ n f [] := by
  refine ⟨?_, fun b hb => .inl (hF b hb), by simp, by simp⟩
  intro i hl hi _ b hb hm
  rcases hp.own i hl hi b hb with h | h
  · exact hX b hm h
  · have := hf b hm; omega
theorem introL_rd : ∀ (Ts : List PTy) (ps : List PV) (vs : List Value) (f G : List Nat) (j n : Nat) (A : Hp) (β : Nat → GV) (ϕ : Nat → List Nat), Lv w Ts ps vs f → Holds B X F A β ϕ w → Bd n β A → w.heap.size = B → (∀ b ∈ f, b ∉ X) → (∀ b ∈ f, b ∈ F) → Apart A ϕ G → (∀ b ∈ f, b ∉ G) →
    ∃ β' ϕ', Laid B X F ((introL (.vw []) noP j n Ts ps).2.1 ++ A) β β' ϕ ϕ' w n (introL (.vw []) noP j n Ts ps).2.2 (introL (.vw []) noP j n Ts ps).1 vs G := by
  intro Ts
  induction Ts with
  | nil =>
    intro ps vs f G j n A β ϕ hL hp hb hB hX hF hG hf
    cases hL
    exact ⟨β, ϕ, hp, hb, fun _ _ => rfl, fun _ _ => rfl, rfl, trivial, trivial, Nat.le_refl _, hG⟩
  | cons T Ts ih =>
    intro ps vs f G j n A β ϕ hL hp hb hB hX hF hG hf
    cases ps with
    | nil => have := hL.lens.1; simp at this
    | cons p ps =>
      obtain ⟨v, vs', f1, f2, rfl, rfl, h1, h2⟩ := hL.cons_inv
      have scal : ∀ (x : SV), (introL (.vw []) noP j n (T :: Ts) (p :: ps)) = (x :: (introL (.vw []) noP (j + 1) n Ts ps).1, (introL (.vw []) noP (j + 1) n Ts ps).2.1, (introL (.vw []) noP (j + 1) n Ts ps).2.2) → (∀ β, SV.val β x = v) → (∀ m, SV.lt m x) → (∀ β, SV.ok β x) →
          ∃ β' ϕ', Laid B X F ((introL (.vw []) noP j n (T :: Ts) (p :: ps)).2.1 ++ A) β β' ϕ ϕ' w n (introL (.vw []) noP j n (T :: Ts) (p :: ps)).2.2 (introL (.vw []) noP j n (T :: Ts) (p :: ps)).1 (v :: vs') G := by
        intro x he hx hlt hok
        obtain ⟨β', ϕ', a1, a2, a3, a4, a5, a6, a7, a8, a9⟩ := ih ps vs' f2 G (j + 1) n A β ϕ h2 hp hb hB (fun b hb => hX b (by simp [hb])) (fun b hb => hF b (by simp [hb])) hG (fun b hb => hf b (by simp [hb]))
        rw [he]
        exact ⟨β', ϕ', a1, a2, a3, a4, by simp [SV.vals, hx, a5], ⟨hlt _, a6⟩, ⟨hok _, a7⟩, a8, a9⟩
      cases T with
      | int k =>
        obtain ⟨m, rfl, rfl, hr, rfl⟩ := h1.int_inv
        exact scal (.int k m) rfl (fun _ => rfl) (fun _ => trivial) (fun _ => hr)
      | bool =>
        obtain ⟨m, rfl, rfl, rfl⟩ := h1.bool_inv
        exact scal (.bool m) rfl (fun _ => rfl) (fun _ => trivial) (fun _ => trivial)
      | str =>
        obtain ⟨m, rfl, rfl, hr, rfl⟩ := h1.str_inv
        exact scal (.str m) rfl (fun _ => rfl) (fun _ => trivial) (fun _ => hr)
      | list T =>
        obtain ⟨es, rfl⟩ : ∃ es, p = .list es := by cases h1 <;> exact ⟨_, rfl⟩
        have hv1 : ViewOk B F A ϕ n f1 [] := viewOk_rd hp hB h1.inb (fun b hb => hX b (by simp [hb])) (fun b hb => hF b (by simp [hb]))
        obtain ⟨c1, c2⟩ := add_view (T := T) (es := es) (v := v) (p := .no) hp hb h1 hv1 trivial
        have hG' := apart_add (hl0 := .arr (.vw []) T es .no) hb hG (fun b hb => hf b (by simp [hb]) : ∀ b ∈ f1, b ∉ G)
        obtain ⟨β', ϕ', a1, a2, a3, a4, a5, a6, a7, a8, a9⟩ := ih ps vs' f2 G (j + 1) (n + 1) _ _ _ h2 c1 c2 hB (fun b hb => hX b (by simp [hb])) (fun b hb => hF b (by simp [hb])) hG' (fun b hb => hf b (by simp [hb]))
        refine ⟨β', ϕ', ?_, ?_, fun k hk => (a3 k (by omega)).trans (upd_lt _ _ _ hk), fun k hk => (a4 k (by omega)).trans (upd_lt _ _ _ hk), ?_, ?_, ?_, ?_, ?_⟩
        · simpa [introL, noP, PV.L, List.append_assoc] using a1
        · simpa [introL, noP, PV.L, List.append_assoc] using a2
        · simp only [introL, SV.vals, SV.val, a5, a3 n (by omega), upd_eq]; rfl
        · exact ⟨by simp only [SV.lt, introL]; omega, a6⟩
        · exact ⟨trivial, a7⟩
        · simp only [introL]; omega
        · simpa [introL, noP, PV.L, List.append_assoc] using a9
      | agg ts => cases h1
      | box ts => cases h1
      | abx t => cases h1
      | fn f ts => cases h1
      | opq => cases h1
theorem introB_rd {T : PTy} {p : PV} {v : Value} {f fl G : List Nat} {n : Nat} (hL : ArgB w T p v f fl) (hp : Holds B X F A β ϕ w) (hb : Bd n β A) (hB : w.heap.size = B) (hX : ∀ b ∈ f, b ∉ X) (hF : ∀ b ∈ fl, b ∈ F) (hG : Apart A ϕ G) (hf : ∀ b ∈ f, b ∉ G) :
    ∃ β' ϕ', Laid B X F ((introB n T p).2.1 ++ A) β β' ϕ ϕ' w n (introB n T p).2.2 [(introB n T p).1] [v] G := by
  have leaf : (introB n T p = ((introL (.vw []) noP 0 n [T] [p]).1.headD .nilp, (introL (.vw []) noP 0 n [T] [p]).2.1, (introL (.vw []) noP 0 n [T] [p]).2.2)) → Lv w [T] [p] [v] f → fl = f →
      ∃ β' ϕ', Laid B X F ((introB n T p).2.1 ++ A) β β' ϕ ϕ' w n (introB n T p).2.2 [(introB n T p).1] [v] G := by
    intro he hL' hfl
    subst hfl
    obtain ⟨β', ϕ', a1, a2, a3, a4, a5, a6, a7, a8, a9⟩ := introL_rd [T] [p] [v] fl G 0 n A β ϕ hL' hp hb hB hX hF hG hf
    have hx : (introL (.vw []) noP 0 n [T] [p]).1 = [(introL (.vw []) noP 0 n [T] [p]).1.headD .nilp] := by cases T <;> simp [introL]
    rw [he]
    rw [hx] at a5 a6 a7
    exact ⟨β', ϕ', a1, a2, a3, a4, a5, a6, a7, a8, a9⟩
  cases T with
  | agg ts =>
    obtain ⟨qs, cs, rfl, rfl, hL, rfl⟩ := hL
    obtain ⟨β', ϕ', a1, a2, a3, a4, a5, a6, a7, a8, a9⟩ := introL_rd ts qs cs fl G 0 n A β ϕ hL hp hb hB hX hF hG hf
    exact ⟨β', ϕ', a1, a2, a3, a4, by simp [introB, SV.vals, SV.val, PV.A, a5], ⟨a6, trivial⟩, ⟨a7, trivial⟩, a8, a9⟩
  | box ts =>
    obtain ⟨qs, cs, b, t, pre, post, rfl, rfl, hblk, hL, rfl⟩ := hL
    obtain ⟨β', ϕ', a1, a2, a3, a4, a5, a6, a7, a8, a9⟩ := introL_rd ts qs cs fl G 0 n A β ϕ hL hp hb hB (fun c hc => hX c (by simp [hc])) hF hG (fun c hc => hf c (by simp [hc]))
    have hbb : b < w.heap.size := (Array.getElem?_eq_some_iff.1 hblk).1
    have hbc : ∀ k, k < (introL (.vw []) noP 0 n ts qs).2.2 → upd β' (introL (.vw []) noP 0 n ts qs).2.2 ⟨.pointer (some ⟨b, pre.length, none⟩), pre, post⟩ k = β' k := fun k hk => upd_lt _ _ _ hk
    have hadd := a1.add (n := (introL (.vw []) noP 0 n ts qs).2.2) (hl0 := .box false 0 (introL (.vw []) noP 0 n ts qs).1) (g := ⟨.pointer (some ⟨b, pre.length, none⟩), pre, post⟩) (f := [b]) a2 rfl
      ⟨b, t, rfl, rfl, by rw [SV.vals_congr hbc _ a6, a5]; exact hblk⟩ (by simp [owned]) (fun h => h.elim) trivial (by intro i hl hi hd c hc hm; simp [owned] at hm)
      (fun i hl hi _ c hc hm => by
        simp only [List.mem_singleton] at hm
        subst hm
        rcases a1.own i hl hi c hc with h | h
        · exact hX c (by simp) h
        · omega) trivial (by simp [roots]) (by simp [roots])
    refine ⟨_, _, hadd, hb_add a2 ⟨SV.lts_mono (Nat.le_succ (introL (.vw []) noP 0 n ts qs).2.2) _ a6, SV.oks_congr hbc _ a6 a7⟩, fun k hk => (upd_lt _ _ _ (show k < (introL (.vw []) noP 0 n ts qs).2.2 by omega)).trans (a3 k hk), fun k hk => (upd_lt _ _ _ (show k < (introL (.vw []) noP 0 n ts qs).2.2 by omega)).trans (a4 k hk), ?_, ?_, ?_, ?_, ?_⟩
    · simp [introB, SV.vals, SV.val, PV.A, upd_eq]
    · exact ⟨by simp [introB, SV.lt, PV.A], trivial⟩
    · exact ⟨⟨b, pre.length, by simp [PV.A, upd_eq]⟩, trivial⟩
    · show n ≤ (introL (.vw []) noP 0 n ts qs).2.2 + 1; omega
    · exact apart_add a2 a9 (fun c hc => by simp only [List.mem_singleton] at hc; subst hc; exact hf c (by simp))
  | abx T =>
    obtain ⟨es, b, t, c, rfl, rfl, hblk, h1, h2, h3, rfl, rfl⟩ := hL
    have hbb : b < w.heap.size := (Array.getElem?_eq_some_iff.1 hblk).1
    have hadd := hp.add (n := n) (hl0 := .abx false T es) (g := ⟨.pointer (some ⟨b, 0, none⟩), [], []⟩) (f := [b]) hb rfl
      ⟨h1, h2, b, t, c, rfl, rfl, hblk, h3⟩ (by simp [owned]) (fun h => h.elim) trivial (by intro i hl hi hd c hc hm; simp [owned] at hm)
      (fun i hl hi _ c hc hm => by
        simp only [List.mem_singleton] at hm
        subst hm
        rcases hp.own i hl hi c hc with h | h
        · exact hX c (by simp) h
        · omega) trivial (by simp [roots]) (by simp [roots])
    refine ⟨_, _, hadd, hb_add hb trivial, fun k hk => upd_lt _ _ _ hk, fun k hk => upd_lt _ _ _ hk, ?_, ?_, ?_, ?_, ?_⟩
    · simp [introB, SV.vals, SV.val, upd_eq]
    · exact ⟨by simp [introB, SV.lt], trivial⟩
    · exact ⟨⟨b, 0, by simp [upd_eq]⟩, trivial⟩
    · show n ≤ n + 1; omega
    · exact apart_add hb hG (fun c hc => by simp only [List.mem_singleton] at hc; subst hc; exact hf c (by simp))
  | fn g ts => exact hL.elim
  | int k => exact leaf rfl hL.1 hL.2
  | bool => exact leaf rfl hL.1 hL.2
  | str => exact leaf rfl hL.1 hL.2
  | list T => exact leaf rfl hL.1 hL.2
  | opq => exact leaf rfl hL.1 hL.2
theorem introBs_rd : ∀ (Ts : List PTy) (ps : List PV) (vs : List Value) (f fl G : List Nat) (n : Nat) (A : Hp) (β : Nat → GV) (ϕ : Nat → List Nat), ArgBs w Ts ps vs f fl → Holds B X F A β ϕ w → Bd n β A → w.heap.size = B → (∀ b ∈ f, b ∉ X) → (∀ b ∈ fl, b ∈ F) → Apart A ϕ G → (∀ b ∈ f, b ∉ G) →
    ∃ β' ϕ', Laid B X F ((introBs n Ts ps).2.1 ++ A) β β' ϕ ϕ' w n (introBs n Ts ps).2.2 (introBs n Ts ps).1 vs G := by
  intro Ts
  induction Ts with
  | nil =>
    intro ps vs f fl G n A β ϕ hL hp hb hB hX hF hG hf
    cases hL
    exact ⟨β, ϕ, hp, hb, fun _ _ => rfl, fun _ _ => rfl, rfl, trivial, trivial, Nat.le_refl _, hG⟩
  | cons T Ts ih =>
    intro ps vs f fl G n A β ϕ hL hp hb hB hX hF hG hf
    cases hL with
    | @cons _ _ p ps' v vs' f g fl1 gl h1 h2 =>
      obtain ⟨β1, ϕ1, b1, b2, b3, b4, b5, b6, b7, b8, b9⟩ := introB_rd (n := n) h1 hp hb hB (fun b hb => hX b (by simp [hb])) (fun b hb => hF b (by simp [hb])) hG (fun b hb => hf b (by simp [hb]))
      obtain ⟨β', ϕ', a1, a2, a3, a4, a5, a6, a7, a8, a9⟩ := ih ps' vs' g gl G _ _ _ _ h2 b1 b2 hB (fun b hb => hX b (by simp [hb])) (fun b hb => hF b (by simp [hb])) b9 (fun b hb => hf b (by simp [hb]))
      refine ⟨β', ϕ', ?_, ?_, fun k hk => (a3 k (by omega)).trans (b3 k hk), fun k hk => (a4 k (by omega)).trans (b4 k hk), ?_, ?_, ?_, ?_, ?_⟩
      · simpa [introBs, List.append_assoc] using a1
      · simpa [introBs, List.append_assoc] using a2
      · simp only [introBs, SV.vals, a5]
        simp only [SV.vals, List.cons.injEq, and_true] at b5
        rw [SV.val_congr a3 _ b6.1, b5]
      · exact ⟨SV.lt_mono a8 _ b6.1, a6⟩
      · exact ⟨SV.ok_congr a3 _ b6.1 b7.1, a7⟩
      · simp only [introBs]; omega
      · simpa [introBs, List.append_assoc] using a9
theorem introR_rd {T : PTy} {p : PV} {v : Value} {f fl G : List Nat} {n : Nat} (hL : ArgV w T p v f fl) (hp : Holds B X F A β ϕ w) (hb : Bd n β A) (hB : w.heap.size = B) (hX : ∀ b ∈ f, b ∉ X) (hF : ∀ b ∈ fl, b ∈ F) (hG : Apart A ϕ G) (hf : ∀ b ∈ f, b ∉ G) :
    ∃ β' ϕ', Laid B X F ((introR n T p).2.1 ++ A) β β' ϕ ϕ' w n (introR n T p).2.2 [(introR n T p).1] [v] G := by
  cases T with
  | fn g ts =>
    obtain ⟨qs, cs, rfl, rfl, hL⟩ := hL
    obtain ⟨β', ϕ', a1, a2, a3, a4, a5, a6, a7, a8, a9⟩ := introBs_rd ts qs cs f fl G n A β ϕ hL hp hb hB hX hF hG hf
    exact ⟨β', ϕ', a1, a2, a3, a4, by simp [introR, SV.vals, SV.val, PV.A, a5], ⟨a6, trivial⟩, ⟨a7, trivial⟩, a8, a9⟩
  | _ => exact introB_rd hL hp hb hB hX hF hG hf
def OldX1 (w : World) (β : Nat → GV) (T : PTy) (x : SV) : Prop :=
  match T, x with
  | .box l, .ptr h 0 => ∃ b t cs0, (β h).v = .pointer (some ⟨b, (β h).pre.length, none⟩) ∧ w.heap[b]? = some (.cells ((β h).pre ++ cs0 ++ (β h).post).toArray t (0, 0)) ∧ cs0.length = l.length
  | _, _ => True
def nL : List PTy → Nat
  | [] => 0
  | .list _ :: ts => nL ts + 1
  | _ :: ts => nL ts
def KpOld (β : Nat → GV) : List PTy → Nat → List Value → Prop
  | .list _ :: ts, i, c :: cs => c = (β i).v ∧ KpOld β ts (i + 1) cs
  | _ :: ts, i, _ :: cs => KpOld β ts i cs
  | _, _, _ => True
theorem KpOld.congr {β β' : Nat → GV} {n : Nat} (hβ : ∀ k, k < n → β' k = β k) : ∀ {ts : List PTy} {i : Nat} {cs : List Value}, KpOld β ts i cs → i + nL ts ≤ n → KpOld β' ts i cs
  | [], i, cs, h, hn => by cases cs <;> trivial
  | t :: ts, i, [], h, hn => by cases t <;> trivial
  | t :: ts, i, c :: cs, h, hn => by
    cases t <;> simp only [KpOld, nL] at h hn ⊢ <;> first | exact KpOld.congr hβ h hn | exact ⟨h.1.trans (by rw [hβ i (by omega)]), KpOld.congr hβ h.2 (by omega)⟩
theorem introL_old {o : Own} {q : Nat → Pth} {β : Nat → GV} : ∀ {ts : List PTy} {ps : List PV} {j n : Nat}, ts.length = ps.length → KpOld β ts n (SV.vals β (introL o q j n ts ps).1) ∧ (introL o q j n ts ps).2.2 = n + nL ts
  | [], ps, j, n, h => by simp [introL, KpOld, nL]
  | t :: ts, [], j, n, h => by simp at h
  | t :: ts, p :: ps, j, n, h => by
    have hl : ts.length = ps.length := by simpa using h
    cases t with
    | list T =>
      obtain ⟨a1, a2⟩ := introL_old (o := o) (q := q) (β := β) (j := j + 1) (n := n + 1) hl
      simp only [introL, SV.vals, KpOld, nL]
      exact ⟨⟨rfl, a1⟩, by omega⟩
    | _ =>
      obtain ⟨a1, a2⟩ := introL_old (o := o) (q := q) (β := β) (j := j + 1) (n := n) hl
      simp only [introL, SV.vals, KpOld, nL]
      exact ⟨a1, a2⟩
def OldS1 (w : World) (β : Nat → GV) (T : PTy) (x : SV) : Prop :=
  match T, x with
  | .box l, .ptr h 0 => ∃ b t cs0, (β h).v = .pointer (some ⟨b, (β h).pre.length, none⟩) ∧ w.heap[b]? = some (.cells ((β h).pre ++ cs0 ++ (β h).post).toArray t (0, 0)) ∧ cs0.length = l.length ∧ nL l ≤ h ∧ KpOld β l (h - nL l) cs0
  | _, _ => True
theorem OldS1.congr {β β' : Nat → GV} {n : Nat} {T : PTy} {x : SV} (h : OldS1 w β T x) (hβ : ∀ k, k < n → β' k = β k) (hx : SV.lt n x) : OldS1 w β' T x := by
  unfold OldS1 at h ⊢
  split at h
  · rename_i l i
    obtain ⟨b, t, cs0, h1, h2, h3, h4, h5⟩ := h
    have hi : i < n := hx
    rw [hβ i hx]; exact ⟨b, t, cs0, h1, h2, h3, h4, h5.congr hβ (by omega)⟩
  · trivial
def OldX (w : World) (β : Nat → GV) : List (Md × PTy) → List SV → Prop
  | (.bx, t) :: ts, x :: xs => OldX1 w β t x ∧ OldX w β ts xs
  | (.bs, t) :: ts, x :: xs => OldS1 w β t x ∧ OldX w β ts xs
  | _ :: ts, _ :: xs => OldX w β ts xs
  | _, _ => True
theorem OldX1.congr {β β' : Nat → GV} {n : Nat} {T : PTy} {x : SV} (h : OldX1 w β T x) (hβ : ∀ k, k < n → β' k = β k) (hx : SV.lt n x) : OldX1 w β' T x := by
  unfold OldX1 at h ⊢
  split at h
  · rename_i l i
    rw [hβ i hx]; exact h
  · trivial
theorem OldX.congr {β β' : Nat → GV} {n : Nat} (hβ : ∀ k, k < n → β' k = β k) : ∀ {ts : List (Md × PTy)} {xs : List SV}, OldX w β ts xs → SV.lts n xs → OldX w β' ts xs
  | [], xs, h, hx => by cases xs <;> trivial
  | (m, t) :: ts, [], h, hx => by cases m <;> trivial
  | (m, t) :: ts, x :: xs, h, hx => by
    cases m with
    | bx => exact ⟨h.1.congr hβ hx.1, OldX.congr hβ h.2 hx.2⟩
    | bs => exact ⟨h.1.congr hβ hx.1, OldX.congr hβ h.2 hx.2⟩
    | _ => exact OldX.congr (ts := ts) (xs := xs) hβ h hx.2
theorem introX_own {T : PTy} {p : PV} {v : Value} {f G : List Nat} {n : Nat} (hL : ArgX w T p v f) (hp : Holds B X F A β ϕ w) (hb : Bd n β A) (hn : (f ++ G).Nodup) (hw : ∀ b ∈ f, (b ∈ X ∨ B ≤ b) ∧ (b ∈ F ∨ B ≤ b)) (hd : Apart A ϕ (f ++ G)) :
    ∃ β' ϕ', Laid B X F ((introX n T p).2.1 ++ A) β β' ϕ ϕ' w n (introX n T p).2.2 [(introX n T p).1] [v] G ∧ OldX1 w β' T (introX n T p).1 := by
  cases T with
  | box ts =>
    obtain ⟨qs, cs, fs, b, t, pre, post, rfl, rfl, hblk, hL, rfl⟩ := hL
    have hn' : (fs.flatten ++ (b :: G)).Nodup := by
      simp only [List.cons_append, List.nodup_cons, List.mem_append, not_or, List.nodup_append, List.mem_cons] at hn ⊢
      obtain ⟨⟨q1, q2⟩, q3, q4, q5⟩ := hn
      refine ⟨q3, ⟨q2, q4⟩, ?_⟩
      rintro a ha b' (rfl | hb') e
      · subst e; exact q1 ha
      · exact q5 a ha b' hb' e
    obtain ⟨β', ϕ', a1, a2, a3, a4, a5, a6, a7, a8, a9⟩ := introL_own noP (fun _ => rfl) ts qs cs fs (b :: G) 0 n A β ϕ hL hp hb hn' (fun c hc => hw c (by simp only [List.mem_cons]; exact .inr hc)) (hd.mono fun c hc => by simp only [List.mem_append, List.mem_cons] at hc ⊢; rcases hc with h | h | h <;> simp [h])
    have hbc : ∀ k, k < (introL .dp noP 0 n ts qs).2.2 → upd β' (introL .dp noP 0 n ts qs).2.2 ⟨.pointer (some ⟨b, pre.length, none⟩), pre, post⟩ k = β' k := fun k hk => upd_lt _ _ _ hk
    have hadd := a1.add (n := (introL .dp noP 0 n ts qs).2.2) (hl0 := .box true 0 (introL .dp noP 0 n ts qs).1) (g := ⟨.pointer (some ⟨b, pre.length, none⟩), pre, post⟩) (f := [b]) a2 rfl
      ⟨b, t, rfl, rfl, by rw [SV.vals_congr hbc _ a6, a5]; exact hblk⟩ (fun c hc => by simp only [owned, List.mem_singleton] at hc; subst hc; exact (hw c (by simp)).1) (fun _ c hc => by simp only [List.mem_singleton] at hc; subst hc; exact (hw c (by simp)).2) trivial
      (a9.mono fun c hc => by simp only [owned, List.mem_singleton] at hc; simp [hc])
      (fun i hl hi _ c hc hm => by
        simp only [List.mem_singleton] at hm
        subst hm
        by_cases hdd : hl = .dead
        · subst hdd; simp [owned] at hc
        · exact a9 i hl hi hdd c (owned_sub c hc) (by simp)) trivial (by simp [roots]) (by simp [roots])
    refine ⟨_, _, ⟨hadd, hb_add a2 ⟨SV.lts_mono (Nat.le_succ (introL .dp noP 0 n ts qs).2.2) _ a6, SV.oks_congr hbc _ a6 a7⟩, fun k hk => (upd_lt _ _ _ (show k < (introL .dp noP 0 n ts qs).2.2 by omega)).trans (a3 k hk), fun k hk => (upd_lt _ _ _ (show k < (introL .dp noP 0 n ts qs).2.2 by omega)).trans (a4 k hk), ?_, ?_, ?_, ?_, ?_⟩, ⟨b, t, cs, by simp [PV.A, upd_eq], by simpa [PV.A, upd_eq] using hblk, hL.lv.lens.2.trans hL.lv.lens.1.symm⟩⟩
    · simp [introX, SV.vals, SV.val, PV.A, upd_eq]
    · exact ⟨by simp [introX, SV.lt, PV.A], trivial⟩
    · exact ⟨⟨b, pre.length, by simp [PV.A, upd_eq]⟩, trivial⟩
    · show n ≤ (introL .dp noP 0 n ts qs).2.2 + 1; omega
    · refine apart_add a2 (a9.mono fun c hc => by simp [hc]) (fun c hc hm => ?_)
      simp only [List.mem_singleton] at hc
      subst hc
      simp only [List.cons_append, List.nodup_cons, List.mem_append, not_or] at hn
      exact hn.1.2 hm
  | abx T =>
    obtain ⟨es, b, t, c, rfl, rfl, hblk, h1, h2, h3, rfl⟩ := hL
    have hadd := hp.add (n := n) (hl0 := .abx true T es) (g := ⟨.pointer (some ⟨b, 0, none⟩), [], []⟩) (f := [b]) hb rfl
      ⟨h1, h2, b, t, c, rfl, rfl, hblk, h3⟩ (fun c hc => (hw c (by simpa [owned] using hc)).1) (fun _ c hc => (hw c hc).2) trivial
      (hd.mono fun c hc => by simp only [owned, List.mem_singleton] at hc; simp [hc])
      (fun i hl hi _ c hc hm => by
        simp only [List.mem_singleton] at hm
        subst hm
        by_cases hdd : hl = .dead
        · subst hdd; simp [owned] at hc
        · exact hd i hl hi hdd c (owned_sub c hc) (by simp)) trivial (by simp [roots]) (by simp [roots])
    refine ⟨_, _, ⟨hadd, hb_add hb trivial, fun k hk => upd_lt _ _ _ hk, fun k hk => upd_lt _ _ _ hk, ?_, ?_, ?_, ?_, ?_⟩, trivial⟩
    · simp [introX, SV.vals, SV.val, upd_eq]
    · exact ⟨by simp [introX, SV.lt], trivial⟩
    · exact ⟨⟨b, 0, by simp [upd_eq]⟩, trivial⟩
    · show n ≤ n + 1; omega
    · refine apart_add hb (hd.mono fun c hc => by simp [hc]) (fun c hc hm => ?_)
      simp only [List.mem_singleton] at hc
      subst hc
      simp only [List.cons_append, List.nil_append, List.nodup_cons] at hn
      exact hn.1 hm
  | _ => exact hL.elim
theorem introS_own {T : PTy} {p : PV} {v : Value} {f G : List Nat} {b n : Nat} (hL : ArgS w T p v f b) (hp : Holds B X F A β ϕ w) (hb : Bd n β A) (hB : w.heap.size = B) (hX : ∀ c ∈ f, c ∉ X) (hF : ∀ c ∈ f, c ∈ F) (hM : ∀ c ∈ b :: G, c ∈ X ∧ c ∈ F) (hn : b ∉ G) (hd : Apart A ϕ (b :: G)) :
    ∃ β' ϕ', Laid B X F ((introS n T p).2.1 ++ A) β β' ϕ ϕ' w n (introS n T p).2.2 [(introS n T p).1] [v] G ∧ OldS1 w β' T (introS n T p).1 := by
  cases T with
  | box ts =>
    obtain ⟨qs, cs, t, pre, post, rfl, rfl, hblk, hL⟩ := hL
    obtain ⟨β', ϕ', a1, a2, a3, a4, a5, a6, a7, a8, a9⟩ := introL_rd ts qs cs f (b :: G) 0 n A β ϕ hL hp hb hB hX hF hd (fun c hc hm => hX c hc (hM c hm).1)
    have hlen : ts.length = qs.length := hL.lens.1
    have hbc : ∀ k, k < (introL (.vw []) noP 0 n ts qs).2.2 → upd β' (introL (.vw []) noP 0 n ts qs).2.2 ⟨.pointer (some ⟨b, pre.length, none⟩), pre, post⟩ k = β' k := fun k hk => upd_lt _ _ _ hk
    have hadd := a1.add (n := (introL (.vw []) noP 0 n ts qs).2.2) (hl0 := .box true 0 (introL (.vw []) noP 0 n ts qs).1) (g := ⟨.pointer (some ⟨b, pre.length, none⟩), pre, post⟩) (f := [b]) a2 rfl
      ⟨b, t, rfl, rfl, by rw [SV.vals_congr hbc _ a6, a5]; exact hblk⟩ (fun c hc => by simp only [owned, List.mem_singleton] at hc; subst hc; exact .inl (hM c (by simp)).1) (fun _ c hc => by simp only [List.mem_singleton] at hc; subst hc; exact .inl (hM c (by simp)).2) trivial
      (a9.mono fun c hc => by simp only [owned, List.mem_singleton] at hc; simp [hc])
      (fun i hl hi _ c hc hm => by
        simp only [List.mem_singleton] at hm
        subst hm
        by_cases hdd : hl = .dead
        · subst hdd; simp [owned] at hc
        · exact a9 i hl hi hdd c (owned_sub c hc) (by simp)) trivial (by simp [roots]) (by simp [roots])
    refine ⟨_, _, ⟨hadd, hb_add a2 ⟨SV.lts_mono (Nat.le_succ (introL (.vw []) noP 0 n ts qs).2.2) _ a6, SV.oks_congr hbc _ a6 a7⟩, fun k hk => (upd_lt _ _ _ (show k < (introL (.vw []) noP 0 n ts qs).2.2 by omega)).trans (a3 k hk), fun k hk => (upd_lt _ _ _ (show k < (introL (.vw []) noP 0 n ts qs).2.2 by omega)).trans (a4 k hk), ?_, ?_, ?_, ?_, ?_⟩, ?_⟩
    · simp [introS, SV.vals, SV.val, PV.A, upd_eq]
    · exact ⟨by simp [introS, SV.lt, PV.A], trivial⟩
    · exact ⟨⟨b, pre.length, by simp [PV.A, upd_eq]⟩, trivial⟩
    · show n ≤ (introL (.vw []) noP 0 n ts qs).2.2 + 1; omega
    · refine apart_add a2 (a9.mono fun c hc => by simp [hc]) (fun c hc hm => ?_)
      simp only [List.mem_singleton] at hc
      subst hc
      exact hn hm
    · obtain ⟨k1, k2⟩ := introL_old (o := .vw []) (q := noP) (β := β') (j := 0) (n := n) hlen
      refine ⟨b, t, cs, by simp [PV.A, upd_eq], by simpa [PV.A, upd_eq] using hblk, hL.lens.2.trans hlen.symm, ?_, ?_⟩
      · show nL ts ≤ (introL (.vw []) noP 0 n ts qs).2.2; omega
      · have e : (introL (.vw []) noP 0 n ts qs).2.2 - nL ts = n := by omega
        show KpOld _ ts ((introL (.vw []) noP 0 n ts qs).2.2 - nL ts) cs
        rw [e]
        rw [a5] at k1
        exact k1.congr hbc (by omega)
  | _ => exact hL.elim
theorem ArgM.ret {t : PTy} {p : PV} {v : Value} {f : List Nat} (h : ArgM w t p v f) : RetV w t p v f := by
  cases t with
  | agg ts => exact h
  | list T => obtain ⟨es, rfl, hO⟩ := h; exact ⟨[f], .list hO .nil, by simp⟩
  | _ => exact h.elim
theorem introTs_sound : ∀ (Ts : List (Md × PTy)) (ps : List PV) (vs : List Value) (fs fl ms : List Nat) (n : Nat) (A : Hp) (β : Nat → GV) (ϕ : Nat → List Nat), ArgsV w Ts ps vs fs fl ms → Holds B X F A β ϕ w → Bd n β A → w.heap.size = B →
    (∀ b ∈ fs, b ∉ X) → (∀ b ∈ fl, b ∈ F) → (∀ b ∈ ms, b ∈ X ∧ b ∈ F) → ms.Nodup → Apart A ϕ ms →
    ∃ β' ϕ', Laid B X F ((introTs n Ts ps).2.1 ++ A) β β' ϕ ϕ' w n (introTs n Ts ps).2.2 (introTs n Ts ps).1 vs [] ∧ OldX w β' Ts (introTs n Ts ps).1 := by
  intro Ts
  induction Ts with
  | nil =>
    intro ps vs fs fl ms n A β ϕ hL hp hb hB hX hF hM hn hG
    cases hL
    exact ⟨β, ϕ, ⟨hp, hb, fun _ _ => rfl, fun _ _ => rfl, rfl, trivial, trivial, Nat.le_refl _, hG.mono (by simp)⟩, trivial⟩
  | cons T Ts ih =>
    intro ps vs fs fl ms n A β ϕ hL hp hb hB hX hF hM hn hG
    have comb : ∀ {m t p ps' v vs'} {K : SV × Hp × Nat} {β1 ϕ1} {fs' fl' ms'}, introT n m t p = K → (m = .bx → OldX1 w β1 t K.1) → (m = .bs → OldS1 w β1 t K.1) → Laid B X F (K.2.1 ++ A) β β1 ϕ ϕ1 w n K.2.2 [K.1] [v] ms' → ArgsV w Ts ps' vs' fs' fl' ms' → (∀ b ∈ fs', b ∉ X) → (∀ b ∈ fl', b ∈ F) → (∀ b ∈ ms', b ∈ X ∧ b ∈ F) → ms'.Nodup →
        ∃ β' ϕ', Laid B X F ((introTs n ((m, t) :: Ts) (p :: ps')).2.1 ++ A) β β' ϕ ϕ' w n (introTs n ((m, t) :: Ts) (p :: ps')).2.2 (introTs n ((m, t) :: Ts) (p :: ps')).1 (v :: vs') [] ∧ OldX w β' ((m, t) :: Ts) (introTs n ((m, t) :: Ts) (p :: ps')).1 := by
      rintro m t p ps' v vs' K β1 ϕ1 fs' fl' ms' rfl hold holdS ⟨b1, b2, b3, b4, b5, b6, b7, b8, b9⟩ h2 g1 g2 g3 g4
      obtain ⟨β', ϕ', ⟨a1, a2, a3, a4, a5, a6, a7, a8, a9⟩, ho⟩ := ih ps' vs' fs' fl' ms' _ _ _ _ h2 b1 b2 hB g1 g2 g3 g4 b9
      refine ⟨β', ϕ', ⟨?_, ?_, fun k hk => (a3 k (by omega)).trans (b3 k hk), fun k hk => (a4 k (by omega)).trans (b4 k hk), ?_, ?_, ?_, ?_, ?_⟩, by
        cases m with
        | bx => exact ⟨(hold rfl).congr a3 b6.1, ho⟩
        | bs => exact ⟨(holdS rfl).congr a3 b6.1, ho⟩
        | _ => exact ho⟩
      · simpa [introTs, List.append_assoc] using a1
      · simpa [introTs, List.append_assoc] using a2
      · simp only [introTs, SV.vals, a5]
        simp only [SV.vals, List.cons.injEq, and_true] at b5
        rw [SV.val_congr a3 _ b6.1, b5]
      · exact ⟨SV.lt_mono a8 _ b6.1, a6⟩
      · exact ⟨SV.ok_congr a3 _ b6.1 b7.1, a7⟩
      · simp only [introTs]; omega
      · simpa [introTs, List.append_assoc] using a9
    cases hL with
    | rd h1 h2 =>
      obtain ⟨β1, ϕ1, hl⟩ := introR_rd (n := n) h1 hp hb hB (fun b hb => hX b (by simp [hb])) (fun b hb => hF b (by simp [hb])) hG (fun b hb hm => hX b (by simp [hb]) (hM b hm).1)
      exact comb rfl (fun e => by cases e) (fun e => by cases e) hl h2 (fun b hb => hX b (by simp [hb])) (fun b hb => hF b (by simp [hb])) hM hn
    | mt h1 h2 =>
      obtain ⟨β1, ϕ1, hl⟩ := introV_own (n := n) h1.ret hp hb hn (fun b hb => ⟨.inl (hM b (by simp [hb])).1, .inl (hM b (by simp [hb])).2⟩) hG
      exact comb rfl (fun e => by cases e) (fun e => by cases e) hl h2 hX hF (fun b hb => hM b (by simp [hb])) (List.nodup_append.1 hn).2.1
    | ow h1 h2 =>
      obtain ⟨β1, ϕ1, hl⟩ := introV_own (n := n) h1.ret hp hb hn (fun b hb => ⟨.inl (hM b (by simp [hb])).1, .inl (hM b (by simp [hb])).2⟩) hG
      exact comb rfl (fun e => by cases e) (fun e => by cases e) hl h2 hX hF (fun b hb => hM b (by simp [hb])) (List.nodup_append.1 hn).2.1
    | bx h1 h2 =>
      obtain ⟨β1, ϕ1, hl, hold⟩ := introX_own (n := n) h1 hp hb hn (fun b hb => ⟨.inl (hM b (by simp [hb])).1, .inl (hM b (by simp [hb])).2⟩) hG
      exact comb rfl (fun _ => hold) (fun e => by cases e) hl h2 hX hF (fun b hb => hM b (by simp [hb])) (List.nodup_append.1 hn).2.1
    | bs h1 h2 =>
      simp only [List.nodup_cons] at hn
      obtain ⟨β1, ϕ1, hl, hold⟩ := introS_own (n := n) h1 hp hb hB (fun b hb => hX b (by simp [hb])) (fun b hb => hF b (by simp [hb])) hM hn.1 hG
      exact comb rfl (fun e => by cases e) (fun _ => hold) hl h2 (fun b hb => hX b (by simp [hb])) (fun b hb => hF b (by simp [hb])) (fun b hb => hM b (by simp [hb])) hn.2
end
end Go.Proofs.YtkofjkjcbljkdaaGreatDoor
end

