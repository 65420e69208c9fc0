/-
  A call of a function that reads its arguments does what its contract says.
  Conditions: the contract holds.
-/
import Derived.Test.YtmjjdfhpnckacabMeet
namespace Go.Proofs.Ytmjjdfhpnckacab
set_option linter.unusedVariables false
section
variable {P : Program} {E : Env} {N : Nat} {w0 : World} {X F : List Nat} {S : St} {β : Nat → GV} {ϕ : Nat → List Nat} {a : Act} {w w' : World} {o : Oper} {R : RR} {A A' : Hp} {B : Nat}

theorem argsRd : ∀ {ts : List (Md × PTy)} {xs : List SV} {ob : Prop} {ps : List PV}, resTs A ts xs = some (ob, ps) → allRd ts = true → ob → Holds B X F A β ϕ w → (∀ i o t cs, lk A i = some (.box o t cs) → SV.oks β cs) → SV.oks β xs →
    ∃ fs fl, ArgsV w ts ps (SV.vals β xs) fs fl [] ∧ From A ϕ (rdsHs A ts xs) fs fl
  | [], [], ob, ps, h, hr, hob, hp, hbx, hk => by cases h; exact ⟨[], [], .nil, ⟨by simp, by simp, by simp⟩⟩
  | [], x :: xs, ob, ps, h, hr, hob, hp, hbx, hk => by cases h
  | (m, t) :: ts, [], ob, ps, h, hr, hob, hp, hbx, hk => by cases h
  | (m, t) :: ts, x :: xs, ob, ps, h, hr, hob, hp, hbx, hk => by
    cases m <;> simp only [allRd, Bool.false_eq_true] at hr
    simp only [resTs] at h
    split at h
    · rename_i o1 p o2 qs h1 h2
      cases h
      obtain ⟨f1, l1, q1, q2⟩ := resT_sound h1 hob.1 hp hbx hk.1
      obtain ⟨f2, l2, r1, r2⟩ := argsRd h2 hr hob.2 hp hbx hk.2
      exact ⟨_, _, .rd q1 r1, q2.app r2⟩
    · cases h

theorem outV_rd : ∀ {ts : List (Md × PTy)} {ps : List PV} {vs : List Value} {mo : List Nat}, OutV w w' ts ps vs mo → allRd ts = true → mo = [] ∧ ps = [] := by
  intro ts ps vs mo h
  induction h with
  | nil => intro _; exact ⟨rfl, rfl⟩
  | rd _ ih => intro hr; exact ih hr
  | ow _ _ => intro hr; simp [allRd] at hr
  | mt _ _ _ => intro hr; simp [allRd] at hr
  | bx _ _ _ => intro hr; simp [allRd] at hr

theorem introV_own {T : PTy} {p : PV} {v : Value} {f G : List Nat} {n : Nat} (hL : RetV w T p v f) (hp : Holds B X F A β ϕ w) (hb : Bd n β A) (hn : (f ++ G).Nodup) (hw : ∀ b ∈ f, (b ∈ X ∨ B ≤ b) ∧ (b ∈ F ∨ B ≤ b)) (hd : Apart A ϕ (f ++ G)) :
    ∃ β' ϕ', Laid B X F ((introV .dp noP 0 n T p).2.1 ++ A) β β' ϕ ϕ' w n (introV .dp noP 0 n T p).2.2 [(introV .dp noP 0 n T p).1] [v] G := by
  by_cases hT : ∃ ts, T = .agg ts
  · obtain ⟨ts, rfl⟩ := hT
    obtain ⟨qs, cs, fs, rfl, rfl, hL, rfl⟩ := hL
    obtain ⟨β', ϕ', a1, a2, a3, a4, a5, a6, a7, a8, a9⟩ := introL_own noP (fun _ => rfl) ts qs cs fs G 0 n A β ϕ hL hp hb hn hw hd
    exact ⟨β', ϕ', a1, a2, a3, a4, by simp [introV, SV.vals, SV.val, PV.A, a5], ⟨a6, trivial⟩, ⟨a7, trivial⟩, a8, a9⟩
  · have hL' : ∃ fs, LoD w [T] [p] [v] fs ∧ f = fs.flatten := by cases T <;> first | exact hL | exact absurd ⟨_, rfl⟩ hT
    obtain ⟨fs, hL', rfl⟩ := hL'
    have he : introV .dp noP 0 n T p = ((introL .dp noP 0 n [T] [p]).1.headD .nilp, (introL .dp noP 0 n [T] [p]).2.1, (introL .dp noP 0 n [T] [p]).2.2) := by
      cases T <;> first | rfl | exact absurd ⟨_, rfl⟩ hT
    obtain ⟨β', ϕ', a1, a2, a3, a4, a5, a6, a7, a8, a9⟩ := introL_own noP (fun _ => rfl) [T] [p] [v] fs G 0 n A β ϕ hL' hp hb hn hw hd
    have hx : (introL .dp noP 0 n [T] [p]).1 = [(introL .dp noP 0 n [T] [p]).1.headD .nilp] := by cases T <;> simp [introL]
    rw [he]
    rw [hx] at a5 a6 a7
    exact ⟨β', ϕ', a1, a2, a3, a4, a5, a6, a7, a8, a9⟩

theorem introVs_own : ∀ (Ts : List PTy) (ps : List PV) (vs : List Value) (f G : List Nat) (n : Nat) (A : Hp) (β : Nat → GV) (ϕ : Nat → List Nat), RetVs w Ts ps vs f → Holds B X F A β ϕ w → Bd n β A →
    (f ++ G).Nodup → (∀ b ∈ f, (b ∈ X ∨ B ≤ b) ∧ (b ∈ F ∨ B ≤ b)) → Apart A ϕ (f ++ G) →
    ∃ β' ϕ', Laid B X F ((introVs .dp n Ts ps).2.1 ++ A) β β' ϕ ϕ' w n (introVs .dp n Ts ps).2.2 (introVs .dp n Ts ps).1 vs G := by
  intro Ts
  induction Ts with
  | nil =>
    intro ps vs f G n A β ϕ hL hp hb hn hw hd
    cases hL
    exact ⟨β, ϕ, hp, hb, fun _ _ => rfl, fun _ _ => rfl, rfl, trivial, trivial, Nat.le_refl _, (by simpa using hd : Apart A ϕ G)⟩
  | cons T Ts ih =>
    intro ps vs f G n A β ϕ hL hp hb hn hw hd
    cases hL with
    | @cons _ _ p ps' v vs' f g h1 h2 =>
      simp only [List.append_assoc] at hn hd
      obtain ⟨β1, ϕ1, b1, b2, b3, b4, b5, b6, b7, b8, b9⟩ := introV_own (n := n) h1 hp hb hn (fun b hb => hw b (by simp [hb])) hd
      obtain ⟨β', ϕ', a1, a2, a3, a4, a5, a6, a7, a8, a9⟩ := ih ps' vs' g G _ _ _ _ h2 b1 b2 (List.nodup_append.1 hn).2.1 (fun b hb => hw b (by simp [hb])) b9
      refine ⟨β', ϕ', ?_, ?_, fun k hk => (a3 k (by omega)).trans (b3 k hk), fun k hk => (a4 k (by omega)).trans (b4 k hk), ?_, ?_, ?_, ?_, ?_⟩
      · simpa [introVs, List.append_assoc] using a1
      · simpa [introVs, List.append_assoc] using a2
      · simp only [introVs, SV.vals, a5]
        simp only [SV.vals, List.cons.injEq, and_true] at b5
        rw [SV.val_congr a3 _ b6.1, b5]
      · exact ⟨SV.lt_mono a8 _ b6.1, a6⟩
      · exact ⟨SV.ok_congr a3 _ b6.1 b7.1, a7⟩
      · simp only [introVs]; omega
      · simpa [introVs, List.append_assoc] using a9

theorem introV_vw {T : PTy} {p : PV} {v : Value} {f rs : List Nat} {n : Nat} (hL : RetN w T p v f) (hp : Holds B X F A β ϕ w) (hb : Bd n β A) (hv : ViewOk B F A ϕ n f rs) :
    ∃ β' ϕ', Holds B X F ((introV (.vw rs) noP 0 n T p).2.1 ++ A) β' ϕ' w ∧ Bd (introV (.vw rs) noP 0 n T p).2.2 β' ((introV (.vw rs) noP 0 n T p).2.1 ++ A) ∧ (∀ k, k < n → β' k = β k) ∧ (∀ k, k < n → ϕ' k = ϕ k) ∧
      SV.val β' (introV (.vw rs) noP 0 n T p).1 = v ∧ SV.lt (introV (.vw rs) noP 0 n T p).2.2 (introV (.vw rs) noP 0 n T p).1 ∧ SV.ok β' (introV (.vw rs) noP 0 n T p).1 ∧ n ≤ (introV (.vw rs) noP 0 n T p).2.2 := by
  by_cases hT : ∃ ts, T = .agg ts
  · obtain ⟨ts, rfl⟩ := hT
    obtain ⟨qs, cs, rfl, rfl, hL⟩ := hL
    obtain ⟨β', ϕ', a1, a2, a3, a5, a6, a7, a8, a9⟩ := introL_view rs noP ts qs cs f 0 n A β ϕ hL hp hb hv pthsOk_no
    exact ⟨β', ϕ', a1, a2, a3, a9, by simp [introV, SV.val, PV.A, a5], a6, a7, a8⟩
  · have hL' : Lv w [T] [p] [v] f := by cases T <;> first | exact hL | exact absurd ⟨_, rfl⟩ hT
    have he : introV (.vw rs) noP 0 n T p = ((introL (.vw rs) noP 0 n [T] [p]).1.headD .nilp, (introL (.vw rs) noP 0 n [T] [p]).2.1, (introL (.vw rs) noP 0 n [T] [p]).2.2) := by
      cases T <;> first | rfl | exact absurd ⟨_, rfl⟩ hT
    obtain ⟨β', ϕ', a1, a2, a3, a5, a6, a7, a8, a9⟩ := introL_view rs noP [T] [p] [v] f 0 n A β ϕ hL' hp hb hv pthsOk_no
    have hx : (introL (.vw rs) noP 0 n [T] [p]).1 = [(introL (.vw rs) noP 0 n [T] [p]).1.headD .nilp] := by cases T <;> simp [introL]
    rw [he]
    rw [hx] at a5 a6 a7
    simp only [SV.vals, List.cons.injEq, and_true] at a5
    exact ⟨β', ϕ', a1, a2, a3, a9, a5, a6.1, a7.1, a8⟩

theorem introL_vwA {rs : List Nat} : ∀ {Ts : List PTy} {ps : List PV} {j n i : Nat} {hl : HL}, lk (introL (.vw rs) noP j n Ts ps).2.1 i = some hl → n ≤ i ∧ owned ([] : List Nat) hl = [] ∧ (∀ f, owned f hl = []) ∧ (∀ o t cs, hl ≠ .box o t cs) := by
  intro Ts
  induction Ts with
  | nil => intro ps j n i hl h; simp [introL, lk] at h
  | cons T Ts ih =>
    intro ps j n i hl h
    cases ps with
    | nil => cases T <;> simp [introL, lk] at h
    | cons p ps =>
      cases T <;> simp only [introL] at h <;> try exact ih h
      rw [lk_append] at h
      split at h
      · rename_i x hx
        cases h
        obtain ⟨h1, h2⟩ := ih hx
        exact ⟨by omega, h2⟩
      · simp only [lk] at h
        split at h
        · rename_i e
          cases h
          exact ⟨by omega, rfl, fun _ => rfl, by simp⟩
        · cases h

theorem viewOk_more {rs f : List Nat} {n n' : Nat} {D : Hp} {ϕ' : Nat → List Nat} (h : ViewOk B F A ϕ n f rs) (hb : Bd n β A) (hle : n ≤ n') (hD : ∀ i hl, lk D i = some hl → n ≤ i ∧ (∀ f, owned f hl = []) ∧ (∀ o t cs, hl ≠ .box o t cs)) (hϕ : ∀ k, k < n → ϕ' k = ϕ k) : ViewOk B F (D ++ A) ϕ' n' f rs := by
  refine ⟨?_, h.all, ?_, fun r hr => by have := h.lt r hr; omega⟩
  · intro i hl hi hn b hb'
    rw [lk_append] at hi
    split at hi
    · rename_i x hx
      cases hi
      rw [(hD i _ hx).2.1] at hb'; cases hb'
    · rw [hϕ i (hb i hl hi).1] at hb'
      exact h.dj i hl hi hn b hb'
  · intro r hr o t cs hl
    rw [lk_append] at hl
    split at hl
    · rename_i x hx
      cases hl
      exact (hD r _ hx).2.2 o t cs rfl
    · exact h.bx r hr o t cs hl

theorem introVs_vw {rs : List Nat} : ∀ (Ts : List PTy) (ps : List PV) (vs : List Value) (f : List Nat) (n : Nat) (A : Hp) (β : Nat → GV) (ϕ : Nat → List Nat), RetNs w Ts ps vs f → Holds B X F A β ϕ w → Bd n β A → ViewOk B F A ϕ n f rs →
    ∃ β' ϕ', Holds B X F ((introVs (.vw rs) n Ts ps).2.1 ++ A) β' ϕ' w ∧ Bd (introVs (.vw rs) n Ts ps).2.2 β' ((introVs (.vw rs) n Ts ps).2.1 ++ A) ∧ (∀ k, k < n → β' k = β k) ∧
      SV.vals β' (introVs (.vw rs) n Ts ps).1 = vs ∧ SV.lts (introVs (.vw rs) n Ts ps).2.2 (introVs (.vw rs) n Ts ps).1 ∧ SV.oks β' (introVs (.vw rs) n Ts ps).1 ∧ n ≤ (introVs (.vw rs) n Ts ps).2.2 := by
  intro Ts
  induction Ts with
  | nil =>
    intro ps vs f n A β ϕ hL hp hb hv
    cases hL
    exact ⟨β, ϕ, hp, hb, fun _ _ => rfl, rfl, trivial, trivial, Nat.le_refl _⟩
  | cons T Ts ih =>
    intro ps vs f n A β ϕ hL hp hb hv
    cases hL with
    | @cons _ _ p ps' v vs' f g h1 h2 =>
      obtain ⟨β1, ϕ1, b1, b2, b3, b4, b5, b6, b7, b8⟩ := introV_vw (n := n) h1 hp hb (hv.mono fun b hb => by simp [hb])
      have hD : ∀ i hl, lk (introV (.vw rs) noP 0 n T p).2.1 i = some hl → n ≤ i ∧ (∀ f, owned f hl = []) ∧ (∀ o t cs, hl ≠ .box o t cs) := by
        intro i hl hi
        have : ∃ Ts' ps', (introV (.vw rs) noP 0 n T p).2.1 = (introL (.vw rs) noP 0 n Ts' ps').2.1 := by
          cases T <;> exact ⟨_, _, rfl⟩
        obtain ⟨Ts', ps', e⟩ := this
        rw [e] at hi
        obtain ⟨q1, _, q2, q3⟩ := introL_vwA hi
        exact ⟨q1, q2, q3⟩
      obtain ⟨β', ϕ', a1, a2, a3, a5, a6, a7, a8⟩ := ih ps' vs' g _ _ _ _ h2 b1 b2 (viewOk_more (hv.mono fun b hb => by simp [hb]) hb b8 hD b4)
      refine ⟨β', ϕ', ?_, ?_, fun k hk => (a3 k (by omega)).trans (b3 k hk), ?_, ?_, ?_, ?_⟩
      · simpa [introVs, List.append_assoc] using a1
      · simpa [introVs, List.append_assoc] using a2
      · simp only [introVs, SV.vals, a5]
        rw [SV.val_congr a3 _ b6, b5]
      · exact ⟨SV.lt_mono a8 _ b6, a6⟩
      · exact ⟨SV.ok_congr a3 _ b6 b7, a7⟩
      · simp only [introVs]; omega

theorem packV_val {β : Nat → GV} {xs : List SV} {vs : List Value} (h : SV.vals β xs = vs) : packR vs = SV.val β (packV xs) := by
  subst h
  match xs with
  | [] => rfl
  | [x] => rfl
  | x :: y :: r => rfl

theorem packV_lt {n : Nat} {xs : List SV} (h : SV.lts n xs) : SV.lt n (packV xs) := by
  match xs, h with
  | [], h => exact h
  | [x], h => exact h.1
  | x :: y :: r, h => exact h
theorem packV_ok {β : Nat → GV} {xs : List SV} (h : SV.oks β xs) : SV.ok β (packV xs) := by
  match xs, h with
  | [], h => exact h
  | [x], h => exact h.1
  | x :: y :: r, h => exact h

theorem ownersOf_mem {hs : List Nat} {r : Nat} : r ∈ ownersOf A hs ↔ ∃ h ∈ hs, (∃ rs T es p, lk A h = some (.arr (.vw rs) T es p) ∧ r ∈ rs) ∨ (r = h ∧ ∃ o T es p, lk A h = some (.arr o T es p) ∧ ∀ rs, o ≠ .vw rs) := by
  induction hs with
  | nil => simp [ownersOf]
  | cons x l ih =>
    simp only [ownersOf, List.mem_append, ih, List.mem_cons, exists_eq_or_imp]
    refine or_congr ?_ Iff.rfl
    cases hx : lk A x with
    | none => simp
    | some hl =>
      cases hl with
      | arr o T es p => cases o <;> simp [hx]
      | _ => simp

/-- How a call is entered. -/
theorem call_enter {c : Call} {f : Operand} {fid : Nat} {caps vs : List SV} {ob : Prop} {fn : Func} (ho : o.op = .call c) (hc : c.callee = .value f) (f3 : a.eval f = SV.val β (.fn fid caps)) (v3 : c.args.toList.map a.eval = SV.vals β vs)
    (hfn : P.funcs[fid]? = some fn) (hbody : fn.body.isNone = false) (hname : (fn.name == "runtime.NumGoroutine") = false) : (execOp a.eval o).run P w = .ok (.enter fid (SV.vals β (vs ++ caps)).toArray) w := by
  have harr : Array.map a.eval c.args = (SV.vals β vs).toArray := by
    rw [← v3]; apply Array.ext'; simp
  have happ : (SV.vals β vs).toArray ++ (SV.vals β caps).toArray = (SV.vals β (vs ++ caps)).toArray := by
    simp [SV.vals_map]
  simp only [execOp, ho, resolve, hc, harr, f3, SV.val, Deferred.ofValue, pure_bind, invoke]
  simp only [Array.empty_append, happ, callFunc, Sem.run_bind, run_program, Result.andThen_ok, hfn, hname, Bool.false_eq_true, if_false, hbody]
  rfl

/-- A call of a function that reads. -/
theorem call_rd {s : FSpec} {ob : Prop} {ps : List PV} {xs : List SV} {fid : Nat} (hm : Meets P fid s) (hps : resTs S.A s.args xs = some (ob, ps)) (hr : allRd s.args = true) (hk : SV.oks β xs) (sat : Sat N w0 X F S β ϕ a w) (hob : (callRd S true s ob ps xs).ob) :
    Calls P fid (SV.vals β xs).toArray w fun e w' => ∃ v β' ϕ', e = .returned v ∧ Post w0 X F S (callRd S true s ob ps xs) β ϕ o.dst v w' β' ϕ' ∧ Fr w [] w' := by
  obtain ⟨q1, _, q3⟩ := hob
  obtain ⟨q1, q2⟩ := q1 rfl
  have hbx : ∀ i o t cs, lk S.A i = some (.box o t cs) → SV.oks β cs := fun i o t cs hi => (sat.hb _ _ hi).2.2
  obtain ⟨fs, fl, hargs, hfrom⟩ := argsRd hps hr q1 sat.hp hbx hk
  refine (hm w ps _ fs fl [] hargs (by simp) (by simp) q2).mono fun e w' he => ?_
  obtain ⟨rvs, rfl, hFr, hcase⟩ := he
  have hgrow : ∀ b, b < w.heap.size → w'.heap[b]? = w.heap[b]? := fun b hb => hFr.block b hb (by simp)
  have hp' := sat.hp.grow hgrow
  have hfr : Fr w0 X w' := sat.fr.trans hFr (fun x hx => hx) (by simp)
  rcases hcase with ⟨hfresh, fr, mo, hret, hout, hnd, hge⟩ | ⟨hfresh, _, fr, hret, hge⟩
  · obtain ⟨rfl, _⟩ := outV_rd hout hr
    have hge' : ∀ b ∈ fr, w.heap.size ≤ b := fun b hb => by simpa using hge b (by simp [hb])
    obtain ⟨β', ϕ', b1, b2, b3, b4, b5, b6, b7, b8, b9⟩ := introVs_own s.ret (s.res ps) rvs fr [] S.n S.A β ϕ hret hp' sat.hb (by simpa using hnd) (fun b hb => ⟨.inr (Nat.le_trans sat.fr.size (hge' b hb)), .inr (Nat.le_trans sat.fr.size (hge' b hb))⟩)
      (fun i hl hi hd b hb hm => by
        have h1 := sat.hp.inb hi hd b hb
        have h2 := hge' b (by simpa using hm)
        omega)
    simp only [callRd, hfresh, if_true]
    exact ⟨_, β', ϕ', rfl, ⟨fun _ => packV_val b5, b3, b1, b2, packV_lt b6, packV_ok b7, b8, hfr⟩, hFr⟩
  · have hv : ViewOk w0.heap.size F S.A ϕ S.n fr (ownersOf S.A (rdsHs S.A s.args xs)) := by
      refine ⟨?_, ?_, ?_, ?_⟩
      · intro i hl hi hn b hb hm
        by_cases hd : hl = .dead
        · subst hd; simp [owned] at hb
        · rcases hge b hm with h1 | h1
          · obtain ⟨j, hj, hl', e1, e2, e3⟩ := hfrom.ls b h1
            cases hl' <;> simp only [isL] at e2
            rename_i o T es p
            by_cases hij : i = j
            · subst hij
              rw [hi] at e1; cases e1
              refine hn (ownersOf_mem.2 ⟨i, hj, .inr ⟨rfl, o, T, es, p, hi, fun rs e => ?_⟩⟩)
              subst e; simp [owned] at hb
            · refine sat.hp.dj i j hl _ hi e1 hij (fun hr => hn ?_) (by simp) b hb e3
              cases o <;> simp only [roots, List.not_mem_nil] at hr
              exact ownersOf_mem.2 ⟨j, hj, .inl ⟨_, _, _, _, e1, hr⟩⟩
          · have := sat.hp.inb hi hd b (owned_sub b hb); omega
      · intro b hb
        rcases hge b hb with h1 | h1
        · obtain ⟨j, hj, hl', e1, e2, e3⟩ := hfrom.ls b h1
          exact sat.hp.all _ _ e1 e2.isA b e3
        · exact .inr (Nat.le_trans sat.fr.size h1)
      · intro r hr o t cs hc
        obtain ⟨h, hh, ⟨rs, T, es, p, e1, e2⟩ | ⟨rfl, o, T, es, p, e1, e2⟩⟩ := ownersOf_mem.1 hr
        · exact sat.hp.rt h _ e1 r e2 _ _ _ hc
        · rw [e1] at hc; cases hc
      · intro r hr
        obtain ⟨h, hh, ⟨rs, T, es, p, e1, e2⟩ | ⟨rfl, o, T, es, p, e1, e2⟩⟩ := ownersOf_mem.1 hr
        · exact (sat.hb _ _ e1).2 r e2
        · exact (sat.hb _ _ e1).1
    obtain ⟨β', ϕ', b1, b2, b3, b5, b6, b7, b8⟩ := introVs_vw s.ret (s.res ps) rvs fr S.n S.A β ϕ hret hp' sat.hb hv
    simp only [callRd, hfresh, Bool.false_eq_true, if_false]
    exact ⟨_, β', ϕ', rfl, ⟨fun _ => packV_val b5, b3, b1, b2, packV_lt b6, packV_ok b7, b8, hfr⟩, hFr⟩

end
end Go.Proofs.Ytmjjdfhpnckacab
