/-
  A call by a contract.
  Conditions: the contract holds.
-/
import Derived.Test.YtmjjdfhpnckacabCalp
namespace Go.Proofs.Ytmjjdfhpnckacab
set_option linter.unusedVariables false
section
variable {P : Program} {E : Env} {N : Nat} {w0 : World} {X F : List Nat} {S : St} {β : Nat → GV} {ϕ : Nat → List Nat} {a : Act} {w w' : World} {o : Oper} {R : RR} {A : Hp} {B : Nat}

theorem s_call {c : Call} {f : Operand} {g' : Bool} {fid : Nat} {caps vs : List SV} {ob : Prop} {R0 : RR} (hE : EnvOk P E) (ho : o.op = .call c) (hc : c.callee = .value f) (hf : S.ev f = some (g', .fn fid caps)) (hg : g' = true)
    (hvs : evs S true c.args.toList = some (ob, vs)) (hobv : ob) (hcr : callRes E S true fid caps vs = some R0) (hob : R0.ob) (sat : Sat N w0 X F S β ϕ a w) :
    R0.hy ∧ ∀ (next : Act → World → Prop) (Q : Exit → Act → World → Prop), (∀ v w' β' ϕ', Post w0 X F S R0 β ϕ o.dst v w' β' ϕ' → (∀ s, findFn E.fn fid (closes vs) = some s → allRd s.args = true → Fr w [] w') → next (a.put o.dst v) w') → o.wp P a w next Q := by
  obtain ⟨f1, f2⟩ := ev_sound hf sat
  replace f1 := f1 hg
  obtain ⟨f3, f4⟩ := f2 hg
  obtain ⟨v1, v2⟩ := evs_sound hvs sat
  replace v1 := v1 rfl hobv
  obtain ⟨v3, v4⟩ := v2 rfl hobv
  have hok : SV.oks β (vs ++ caps) := by
    rw [SV.oks_iff]; intro x hx
    rcases List.mem_append.1 hx with h | h
    · exact SV.oks_iff.1 v4 x h
    · exact SV.oks_iff.1 f4 x h
  have hlt : SV.lts S.n (vs ++ caps) := by
    rw [SV.lts_iff]; intro x hx
    rcases List.mem_append.1 hx with h | h
    · exact SV.lts_iff.1 v1 x h
    · exact SV.lts_iff.1 f1 x h
  unfold callRes at hcr
  split at hcr
  · cases hcr
  · rename_i s hs
    obtain ⟨hmeet, fn, hfn, hbody, hname⟩ := hE.fn _ _ _ hs
    have hrun := call_enter (P := P) (w := w) (ob := ob) ho hc f3 v3 hfn hbody hname
    split at hcr
    · cases hcr
    · rename_i o1 ps hps
      have go : R0.hy → Calls P fid (SV.vals β (vs ++ caps)).toArray w (fun e w' => ∃ v β' ϕ', e = .returned v ∧ Post w0 X F S R0 β ϕ o.dst v w' β' ϕ' ∧ (allRd s.args = true → Fr w [] w')) →
          R0.hy ∧ ∀ (next : Act → World → Prop) (Q : Exit → Act → World → Prop), (∀ v w' β' ϕ', Post w0 X F S R0 β ϕ o.dst v w' β' ϕ' → (∀ s, findFn E.fn fid (closes vs) = some s → allRd s.args = true → Fr w [] w') → next (a.put o.dst v) w') → o.wp P a w next Q := by
        refine fun h0 hcall => ⟨h0, fun next Q hnext => ?_⟩
        unfold Oper.wp
        rw [hrun, Oper.upon_enter]
        refine hcall.mono fun e w' he => ?_
        obtain ⟨v, β', ϕ', rfl, hpost, hf⟩ := he
        exact hnext _ w' β' ϕ' hpost fun s' hs' ha => by rw [hs] at hs'; cases hs'; exact hf ha
      have own : allRd s.args = false → R0 = callOwn S true s o1 ps (vs ++ caps) → R0.hy ∧ ∀ (next : Act → World → Prop) (Q : Exit → Act → World → Prop), (∀ v w' β' ϕ', Post w0 X F S R0 β ϕ o.dst v w' β' ϕ' → (∀ s, findFn E.fn fid (closes vs) = some s → allRd s.args = true → Fr w [] w') → next (a.put o.dst v) w') → o.wp P a w next Q := by
        intro hna e
        subst e
        exact go trivial ((call_own hmeet hps hok hlt sat hob).mono fun e w' ⟨v, β', ϕ', h1, h2⟩ => ⟨v, β', ϕ', h1, h2, fun h => by rw [hna] at h; cases h⟩)
      split at hcr
      · rename_i hall
        cases hcr
        exact go trivial ((call_rd hmeet hps hall hok sat hob).mono fun e w' ⟨v, β', ϕ', h1, h2, h3⟩ => ⟨v, β', ϕ', h1, h2, fun _ => h3⟩)
      · rename_i hna
        split at hcr
        · split at hcr
          · obtain ⟨r1, r2⟩ := call_pt (P := P) (w := w) (o := o) hmeet hps hcr hok hlt sat hob
            exact go r1 (r2.mono fun e w' ⟨v, β', ϕ', h1, h2⟩ => ⟨v, β', ϕ', h1, h2, fun h => absurd h hna⟩)
          · cases hcr; exact own (by simpa using hna) rfl
        · cases hcr; exact own (by simpa using hna) rfl

end
end Go.Proofs.Ytmjjdfhpnckacab
