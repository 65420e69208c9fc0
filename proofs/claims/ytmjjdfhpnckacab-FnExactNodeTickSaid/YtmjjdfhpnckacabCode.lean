/-
  The operations together: what each asks and gives, taken or passed over.
  Conditions: the contracts of the called functions hold.
-/
import Derived.Test.YtmjjdfhpnckacabCaly
import Derived.Test.YtmjjdfhpnckacabOpL
namespace Go.Proofs.Ytmjjdfhpnckacab
set_option linter.unusedVariables false
section
variable {P : Program} {E : Env} {N : Nat} {w0 : World} {X F : List Nat} {S : St} {β : Nat → GV} {ϕ : Nat → List Nat} {a : Act} {w w' : World} {o : Oper} {R : RR}

/-- A call of a function that only reads. -/
def rdCall (E : Env) (S : St) (o : Op) : Prop :=
  match o with
  | .call c => (match c.callee with
    | .value f => (match S.ev f, evs S true c.args.toList with
      | some (_, .fn f _), some (_, vs) => (match findFn E.fn f (closes vs) with | some s => allRd s.args = true | none => False)
      | _, _ => False)
    | _ => False)
  | _ => False

/-- What a sound operation gives to whatever comes behind it. -/
def Wps (P : Program) (E : Env) (w0 : World) (X F : List Nat) (S : St) (β : Nat → GV) (ϕ : Nat → List Nat) (o : Oper) (a : Act) (w : World) (R : RR) : Prop :=
  R.hy ∧ ∀ (next : Act → World → Prop) (Q : Exit → Act → World → Prop), (∀ v w' β' ϕ', Post w0 X F S R β ϕ o.dst v w' β' ϕ' → (growP o.op ∨ rdCall E S o.op → Fr w [] w') → next (a.put o.dst v) w') → o.wp P a w next Q

/-- No call of a function of the text. -/
def calls (o : Op) : Bool := match o with | .call c => (match c.callee with | .value _ => true | _ => false) | _ => false

theorem op_snd (hE : EnvOk P E) (hc : calls o.op = false) (hR : opRes E S true o = some R) (sat : Sat N w0 X F S β ϕ a w) (hob : R.ob) : Snd P w0 X F S β ϕ o a w R := by
  have hT := hE.ty
  cases ho : o.op with
  | move x => exact s_move ho hR sat hob
  | assign x => exact s_assign hT ho hR sat hob
  | pick c x y => exact s_pick ho hR sat hob
  | box t x => exact s_box hT ho hR sat hob
  | alloc t => exact s_alloc hT ho hR sat hob
  | load t x => exact s_load hT ho hR sat hob
  | store t x y => exact s_store hT ho hR sat hob
  | fieldAddr t x f => exact s_fieldAddr hT ho hR sat hob
  | indexAddr t x i => exact s_indexAddr hT ho hR sat hob
  | index t x i => exact s_index hT ho hR sat hob
  | binOp op t x y t2 => exact s_binOp hT ho hR sat hob
  | unOp op t x => exact s_unOp ho hR sat hob
  | nilCheck x => exact s_nilCheck ho hR sat hob
  | convert t1 t2 x => exact s_convert hT ho hR sat hob
  | build t ps => exact s_build hT ho hR sat hob
  | buildSlice t n ps => exact s_buildSlice hT ho hR sat hob
  | makeSlice t l c => exact s_makeSlice hT ho hR sat hob
  | slice t x lo hi mx => exact s_slice hT ho hR sat hob
  | makeFunc f xs ys => exact s_makeFunc ho hR sat hob
  | extract x i => exact s_extract ho hR sat hob
  | call c =>
    rw [ho] at hc
    unfold opRes at hR
    rw [ho] at hR
    simp only at hR
    split at hR
    · rename_i b hc
      split at hR
      · rename_i ob vs hvs
        cases b with
        | len => exact s_len hT ho hc hvs hR sat hob
        | append => exact s_append hT ho hc hvs hR sat hob
        | min => exact s_minmax (.inl rfl) ho hc hvs hR sat hob
        | max => exact s_minmax (.inr rfl) ho hc hvs hR sat hob
        | copy => exact s_copy hT ho hc hvs hR sat hob
        | _ => simp [builtinRes] at hR
      · cases hR
    · rename_i f hcc
      simp [calls, hcc] at hc
    · cases hR
  | _ => unfold opRes at hR; rw [ho] at hR; simp at hR

theorem op_sound (hE : EnvOk P E) (hR : opRes E S true o = some R) (sat : Sat N w0 X F S β ϕ a w) (hob : R.ob) : Wps P E w0 X F S β ϕ o a w R := by
  cases hc : calls o.op with
  | false =>
    obtain ⟨h1, v, w', β', ϕ', h2, h3, _, h4⟩ := op_snd hE hc hR sat hob
    refine ⟨h1, fun next Q hn => h2.wp (hn _ _ _ _ h3 fun h => ?_)⟩
    rcases h with h | h
    · exact h4 h
    · exfalso
      unfold rdCall at h
      unfold calls at hc
      split at h
      · rename_i c ho
        rw [ho] at hc
        simp only at hc
        split at h
        · rename_i f hcc; rw [hcc] at hc; cases hc
        · exact h
      · exact h
  | true =>
    unfold calls at hc
    split at hc
    · rename_i c ho
      split at hc
      · rename_i f hcc
        unfold opRes at hR
        rw [ho] at hR
        simp only at hR
        rw [hcc] at hR
        simp only at hR
        split at hR
        · rename_i g' fid caps ob vs hf hvs
          split at hR
          · rename_i R0 hcr
            cases hR
            obtain ⟨q1, q2⟩ := hob
            obtain ⟨h1, h2⟩ := s_call hE ho hcc hf (q1 rfl).1 hvs (q1 rfl).2 hcr q2 sat
            refine ⟨h1, fun next Q hn => h2 next Q fun v w' β' ϕ' hp hfr => hn v w' β' ϕ' ⟨hp.v, hp.bt, hp.hp, hp.hb, hp.lt, hp.ok, hp.n, hp.fr⟩ fun h => ?_⟩
            rcases h with h | h
            · simp [ho, growP, hcc] at h
            · simp only [ho, rdCall, hcc, hf, hvs] at h
              split at h
              · rename_i s hs; exact hfr s hs h
              · exact h.elim
          · cases hR
        · cases hR
      · cases hc
    · cases hc

theorem introL_calm (o : Own) (q : Nat → Pth) : ∀ (j n : Nat) (Ts : List PTy) (ps : List PV), (introL o q j n Ts ps).2.1 = [] → (introL o q j n Ts ps).2.2 = n := by
  intro j n Ts
  induction Ts generalizing n j with
  | nil => intro ps _; simp [introL]
  | cons t ts ih =>
    intro ps h
    cases ps with
    | nil => cases t <;> simp [introL]
    | cons p ps =>
      cases t <;> simp only [introL, List.append_eq_nil_iff, reduceCtorEq, and_false] at h ⊢ <;> exact ih _ _ _ h

theorem introV_calm (o : Own) (q : Nat → Pth) (j n : Nat) (T : PTy) (p : PV) (h : (introV o q j n T p).2.1 = []) : (introV o q j n T p).2.2 = n := by
  cases T <;> exact introL_calm o q j n _ _ h

theorem introVs_calm (o : Own) : ∀ (Ts : List PTy) (n : Nat) (ps : List PV), (introVs o n Ts ps).2.1 = [] → (introVs o n Ts ps).2.2 = n := by
  intro Ts
  induction Ts with
  | nil => intro n ps _; simp [introVs]
  | cons t ts ih =>
    intro n ps h
    cases ps with
    | nil => simp [introVs]
    | cons p ps =>
      simp only [introVs, List.append_eq_nil_iff] at h ⊢
      rw [ih _ _ h.1, introV_calm _ _ _ _ _ _ h.2]

theorem isNil_of {α : Type} {l : List α} (h : isNil l = false → false = true) : l = [] := by
  cases l with
  | nil => rfl
  | cons a l => exact absurd (h rfl) (by simp)

/-- What is passed over leaves the heap. -/
theorem op_skip (hR : opRes E S false o = some R) (hob : R.ob) : R.A = S.A ∧ R.n = S.n := by
  cases ho : o.op with
  | call c =>
    unfold opRes at hR
    rw [ho] at hR
    simp only at hR
    split at hR
    · split at hR
      · rename_i b _ _ _ _
        unfold builtinRes at hR
        split at hR
        all_goals (try (simp only [reduceCtorEq] at hR))
        · (repeat' split at hR) <;> first | (cases hR; done) | (cases hR; exact ⟨rfl, rfl⟩)
        · (repeat' split at hR) <;> first | (cases hR; done) | (cases hR; exact ⟨rfl, rfl⟩)
        · split at hR
          · unfold appRes at hR
            (repeat' split at hR) <;> first | (cases hR; done) | (cases hR; exact absurd hob.1 (by simp))
          · cases hR
        · unfold copyRes at hR
          (repeat' split at hR) <;> first | (cases hR; done) | (cases hR; exact absurd hob.1 (by simp))
        · cases hR; exact ⟨rfl, rfl⟩
        · cases hR; exact ⟨rfl, rfl⟩
      · cases hR
    · split at hR
      · split at hR
        · rename_i R0 hcr
          cases hR
          obtain ⟨_, q2⟩ := hob
          unfold callRes at hcr
          split at hcr
          · cases hcr
          · split at hcr
            · cases hcr
            · split at hcr
              · cases hcr
                obtain ⟨_, k1, _⟩ := q2
                have e1 := isNil_of k1
                exact ⟨by simp only [callRd, e1, List.nil_append], introVs_calm _ _ _ _ e1⟩
              · split at hcr
                · split at hcr
                  · simp only [callPt] at hcr
                    (repeat' split at hcr) <;> first | (cases hcr; done) | (cases hcr; exact absurd q2.1 (by simp))
                  · cases hcr
                    exact absurd q2.1 (by simp)
                · cases hcr
                  exact absurd q2.1 (by simp)
        · cases hR
      · cases hR
    · cases hR
  | load t x =>
    unfold opRes at hR
    rw [ho] at hR
    simp only at hR
    split at hR
    · split at hR
      · split at hR
        · split at hR
          · cases hR; exact ⟨rfl, rfl⟩
          · split at hR
            · cases hR; exact ⟨rfl, rfl⟩
            · cases hR
        · cases hR
      · cases hR
    · split at hR
      · split at hR
        · cases hR
          exact absurd hob.1 (by simp)
        · cases hR
      · split at hR
        · cases hR
          obtain ⟨_, q⟩ := hob
          have e : (introV _ _ _ S.n _ _).2.1 = [] := Classical.byContradiction fun h => absurd (q h) (by simp)
          exact ⟨by simp [e], introV_calm _ _ _ _ _ _ e⟩
        · cases hR
      · split at hR
        · cases hR
          exact ⟨rfl, rfl⟩
        · cases hR
      · cases hR
    · cases hR
  | convert a b x =>
    unfold opRes at hR
    rw [ho] at hR
    simp only at hR
    split at hR
    · unfold convRes at hR
      (repeat' split at hR) <;> first | (cases hR; done) | (cases hR; exact ⟨rfl, rfl⟩) | (cases hR; exact absurd hob.1 (by simp)) | (cases hR; cases hob; done)
    · cases hR
  | slice t x lo hi mx =>
    unfold opRes at hR
    rw [ho] at hR
    simp only at hR
    split at hR
    · unfold sliceRes at hR
      (repeat' split at hR) <;> first | (cases hR; done) | (cases hR; exact ⟨rfl, rfl⟩) | (cases hR; exact absurd hob.1 (by simp)) | (cases hR; cases hob; done)
    · cases hR
  | makeFunc fn xs ys =>
    unfold opRes at hR
    rw [ho] at hR
    cases fn <;> simp only at hR <;> (repeat' split at hR) <;> first | (cases hR; done) | (cases hR; exact ⟨rfl, rfl⟩)
  | _ =>
    unfold opRes at hR
    rw [ho] at hR
    simp only at hR
    (repeat' split at hR) <;> first | (cases hR; done) | (cases hR; exact ⟨rfl, rfl⟩) | (cases hR; exact absurd hob.1 (by simp)) | (cases hR; cases hob; done)

end
end Go.Proofs.Ytmjjdfhpnckacab
