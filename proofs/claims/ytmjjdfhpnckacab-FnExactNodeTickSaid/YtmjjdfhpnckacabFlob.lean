/-
  The conditions that a stack of what is left to do asks; what they mean.
  Conditions: none.
-/
import Derived.Test.YtmjjdfhpnckacabDraw
namespace Go.Proofs.Ytmjjdfhpnckacab
set_option linter.unusedVariables false

/-- A call whose result may share memory with its arguments. -/
def vwCall (E : Env) (S : St) (o : Op) : Bool :=
  match o with
  | .call c => (match c.callee with
    | .value f => (match S.ev f, evs S true c.args.toList with
      | some (_, .fn f _), some (_, vs) => (match findFn E.fn f (closes vs) with | some s => !s.fresh | none => false)
      | _, _ => false)
    | _ => false)
  | _ => false
/-- What stands for the value of an operation that is passed over. -/
def skipR (S : St) : RR := ⟨True, True, .bool false, S.A, S.n⟩

/-- The conditions: evaluated as far as it goes; what is beyond is left to W. -/
def vcK (E : Env) (N : Nat) (keep : List Nat) (fin : St → Prop) (W : List KI → St → Prop) (pls : List (Nat × List Nat × Pl)) (brk : List Nat) : List KI → St → Prop
  | [], S => fin S
  | .post p :: _, S => p S
  | .blk _ :: k, S => vcK E N keep fin W pls brk k S
  | .run _ [] :: k, S => vcK E N keep fin W pls brk k S
  | .run all (o :: l) :: k, S =>
    match guardOf S all o.guard with
    | none => False
    | some g => match opRes E S g o with
      | none => (match nilRes E S o with
        | none => (g = true → W (.run all (o :: l) :: k) S) ∧ (g = false → dstOk N keep false o.dst ∧ vcK E N keep fin W pls brk (.run all l :: k) (putS keep S false o.dst (skipR S)))
        | some (ob, es, ng) => g = true ∧ ob ∧ dstOk N keep g o.dst ∧ ∀ b : Bool, (b = true → es = []) → vcK E N keep fin W pls brk (.run all l :: k) (putS keep S g o.dst ⟨True, True, .bool (if ng then !b else b), S.A, S.n⟩))
      | some R => if vwCall E S o.op then (g = true → R.ob ∧ dstOk N keep true o.dst ∧ (R.hy → vcK E N keep fin W pls brk (.run all l :: k) (putS keep S true o.dst R))) ∧
            (g = false → dstOk N keep false o.dst ∧ vcK E N keep fin W pls brk (.run all l :: k) (putS keep S false o.dst (skipR S)))
          else R.ob ∧ dstOk N keep g o.dst ∧ (imp g R.hy → vcK E N keep fin W pls brk (.run all l :: k) (putS keep S g o.dst R))
  | .code .skip :: k, S => vcK E N keep fin W pls brk k S
  | .code (.seq a b) :: k, S => vcK E N keep fin W pls brk (.code a :: .code b :: k) S
  | .code (.region id ops d) :: k, S => if brk.contains id then W (.code (.region id ops d) :: k) S else if d then (match lk pls id with
      | some (bs, p) => planOk ops bs p ∧ vcD E N keep ops.toList bs (fun S' => vcK E N keep fin W pls brk k S') p { S with Lt := [] }
      | none => W (.code (.region id ops d) :: k) S)
    else vcK E N keep fin W pls brk (.run ops.toList ops.toList :: k) { S with Lt := [] }
  | .code (.cond c a b) :: k, S => match S.ev c with
    | some (g, .bool x) => g = true ∧ (x = true → vcK E N keep fin W pls brk (.code a :: k) S) ∧ (x = false → vcK E N keep fin W pls brk (.code b :: k) S)
    | _ => False
  | .code (.block id c) :: k, S => vcK E N keep fin W pls brk (.code c :: .blk id :: k) S
  | .code (.exit id) :: k, S => match h : unwd id k with
    | some k' => vcK E N keep fin W pls brk k' S
    | none => False
  | .code .ret :: k, S => fin S
  | .code (.loop c) :: k, S => W (.code (.loop c) :: k) S
  | .code _ :: _, _ => False
termination_by k => ksz k
decreasing_by
  all_goals simp only [ksz, csz, List.length_cons]
  all_goals first | omega | (have := unwd_sz h; omega)


theorem nil_sound {P : Program} {E : Env} {N : Nat} {w0 : World} {X F : List Nat} {S : St} {β : Nat → GV} {ϕ : Nat → List Nat} {a : Act} {w : World} {o : Oper} {ob : Prop} {es : List PV} {ng : Bool} (hT : EnvTy P E) (h : nilRes E S o = some (ob, es, ng)) (hob : ob) (sat : Sat N w0 X F S β ϕ a w) :
    ∃ b : Bool, (b = true → es = []) ∧ Runs P o a w (SV.val β (.bool (if ng then !b else b))) w := by
  unfold nilRes at h
  split at h
  · rename_i op t x y ty ho
    split at h
    · rename_i gx i gy ti hx hy hti
      have key : ∀ (ob' : Prop) (T : PTy), resL S.A (.list T) (.sl i) = some (ob', .list es) → gx = true ∧ gy = true ∧ ob' ∧ ti.d = .slice ti.el →
          ∃ (b : Bool) (ad : Option Addr) (l c : Nat), (b = true → es = []) ∧ a.eval x = .slice ad l c ∧ a.eval y = .slice none 0 0 ∧ (Op.equal t (.slice ad l c) (.slice none 0 0)).run P w = .ok b w := by
        rintro ob' T hr ⟨q1, q2, q3, q4⟩
        obtain ⟨_, x2⟩ := ev_sound hx sat
        obtain ⟨_, y2⟩ := ev_sound hy sat
        obtain ⟨x3, x4⟩ := x2 q1
        obtain ⟨y3, _⟩ := y2 q2
        have hd := (hT _ _ hti).und
        rw [q4] at hd
        obtain ⟨f, hL, _⟩ := resLs_sound (A := S.A) (ts := [.list T]) (xs := [.sl i]) (ob := ob' ∧ True) (ps := [.list es]) (by simp only [resLs, hr]) ⟨q3, trivial⟩ sat.hp ⟨x4, trivial⟩
        simp only [SV.vals, SV.val] at hL x3
        generalize (β i).v = v at hL x3
        cases hL with
        | empty _ => exact ⟨_, _, _, _, fun _ => rfl, x3, y3, run_equal_nil hd _ _ _⟩
        | list _ _ _ _ _ _ => exact ⟨false, _, _, _, (fun h => by cases h), x3, y3, run_equal_nil hd _ _ _⟩
      split at h
      · rename_i hr
        cases h
        obtain ⟨b, ad, l, c, k1, k2, k3, k4⟩ := key _ _ hr hob
        exact ⟨b, k1, .inl (by simp [execOp, ho, k2, k3, SV.val, eqGuard, binOp, k4])⟩
      · rename_i hr
        cases h
        obtain ⟨b, ad, l, c, k1, k2, k3, k4⟩ := key _ _ hr hob
        exact ⟨b, k1, .inl (by simp [execOp, ho, k2, k3, SV.val, eqGuard, binOp, k4])⟩
      · cases h
    · cases h
  · cases h

section
variable {C : Cx} {S : St} {a : Act} {w : World} {o : Oper} {R : RR} {g : Bool} {all l : List Oper} {k : List KI}

/-- The conditions hold: the rest runs as it should. -/
theorem vcK_sound {W : List KI → St → Prop} {pls : List (Nat × List Nat × Pl)} {brk : List Nat} (hC : C.Ok) (hW : ∀ k S, W k S → WP C k S) : ∀ (n : Nat) (k : List KI) (S : St), ksz k ≤ n → vcK C.E C.N C.keep C.fin W pls brk k S → WP C k S := by
  intro n
  induction n with
  | zero =>
    intro k S hk h a w hat
    match k with
    | [] => unfold vcK at h; exact (hC.fin _ _ _ hat h).1
    | .code c :: k => simp [ksz] at hk
    | .run _ _ :: k => simp [ksz] at hk
    | .blk _ :: k => simp [ksz] at hk
    | .post _ :: k => simp [ksz] at hk
  | succ n ih =>
    intro k S hk h a w hat
    match k with
    | [] => unfold vcK at h; exact (hC.fin _ _ _ hat h).1
    | .post p :: k => unfold vcK at h; exact ⟨S, hat, h⟩
    | .blk i :: k =>
      unfold vcK at h
      simp only [ksz] at hk
      exact ih k S (by omega) h a w hat
    | .run all [] :: k =>
      unfold vcK at h
      simp only [ksz] at hk
      exact ih k S (by omega) h a w hat
    | .run all (o :: l) :: k =>
      unfold vcK at h
      simp only [ksz, List.length_cons] at hk
      split at h
      · exact h.elim
      · rename_i g hg
        split at h
        · split at h
          · cases g with
            | true => exact hW _ _ (h.1 rfl) a w hat
            | false =>
              obtain ⟨hd, hrest⟩ := h.2 rfl
              obtain ⟨kp, hn, β, ϕ, sat, h0⟩ := hat
              have hgs := guard_sound hg sat
              show wpList C.P all.toArray (xt C k) (o :: l) a w
              unfold wpList
              rw [if_neg (by rw [hgs]; simp)]
              exact ih (.run all l :: k) _ (by simp only [ksz]; omega) hrest _ _ (at_skipped kp hn sat h0 hd rfl rfl)
          · rename_i ob es ng hnr
            obtain ⟨rfl, hob, hd, hrest⟩ := h
            obtain ⟨kp, hn, β, ϕ, sat, h0⟩ := hat
            have hgs := guard_sound hg sat
            show wpList C.P all.toArray (xt C k) (o :: l) a w
            unfold wpList
            rw [if_pos hgs]
            obtain ⟨b, hb1, hb2⟩ := nil_sound hC.env.ty hnr hob sat
            exact .inl (hb2.wp (ih (.run all l :: k) _ (by simp only [ksz]; omega) (hrest b hb1) _ _ (at_taken kp hn sat h0 hd (post_pure sat trivial trivial))))
        · rename_i R hR
          split at h
          · obtain ⟨kp, hn, β, ϕ, sat, h0⟩ := hat
            have hgs := guard_sound hg sat
            show wpList C.P all.toArray (xt C k) (o :: l) a w
            unfold wpList
            cases g with
            | true =>
              obtain ⟨hob, hd, hrest⟩ := h.1 rfl
              rw [if_pos hgs]
              obtain ⟨hhy, hwp⟩ := op_sound hC.env hR sat hob
              refine .inl (hwp _ _ fun v w' β' ϕ' hp _ => ?_)
              exact ih (.run all l :: k) _ (by simp only [ksz]; omega) (hrest hhy) _ _ (at_taken kp hn sat h0 hd hp)
            | false =>
              obtain ⟨hd, hrest⟩ := h.2 rfl
              rw [if_neg (by rw [hgs]; simp)]
              exact ih (.run all l :: k) _ (by simp only [ksz]; omega) hrest _ _ (at_skipped kp hn sat h0 hd rfl rfl)
          obtain ⟨hob, hd, hrest⟩ := h
          obtain ⟨kp, hn, β, ϕ, sat, h0⟩ := hat
          have hgs := guard_sound hg sat
          show wpList C.P all.toArray (xt C k) (o :: l) a w
          unfold wpList
          cases g with
          | true =>
            rw [if_pos hgs]
            obtain ⟨hhy, hwp⟩ := op_sound hC.env hR sat hob
            refine .inl (hwp _ _ fun v w' β' ϕ' hp _ => ?_)
            exact ih (.run all l :: k) _ (by simp only [ksz]; omega) (hrest fun _ => hhy) _ _ (at_taken kp hn sat h0 hd hp)
          | false =>
            rw [if_neg (by rw [hgs]; simp)]
            obtain ⟨hA, hRn⟩ := op_skip hR hob
            exact ih (.run all l :: k) _ (by simp only [ksz]; omega) (hrest fun h => by cases h) _ _ (at_skipped kp hn sat h0 hd hA hRn)
    | .code c :: k =>
      simp only [ksz] at hk
      cases c with
      | skip =>
        unfold vcK at h
        exact wp_skip (ih k S (by omega) h a w hat)
      | seq x y =>
        unfold vcK at h
        simp only [csz] at hk
        have h1 := ih (.code x :: .code y :: k) S (by simp only [ksz]; omega) h a w hat
        exact wp_seq h1
      | region id ops d =>
        unfold vcK at h
        split at h
        · exact hW _ _ h a w hat
        · split at h
          · rename_i hd
            subst hd
            split at h
            · rename_i bs p hp
              obtain ⟨h1, h2⟩ := h
              exact wp_plan hC (K := fun S' => vcK C.E C.N C.keep C.fin W pls brk k S') (fun S' hS' => ih k S' (by omega) hS') h1.1 h1.2 h2 a w hat
            · exact hW _ _ h a w hat
          rename_i hd
          simp only [csz] at hk
          have hd : d = false := by cases d <;> simp at hd ⊢
          subst hd
          have h1 := ih (.run ops.toList ops.toList :: k) _ (by simp only [ksz]; omega) h a w (at_lt hat)
          refine wp_region_list ?_
          have h2 : wpList C.P ops.toList.toArray (xt C k) ops.toList a w := h1
          simpa using h2
      | cond c x y =>
        unfold vcK at h
        simp only [csz] at hk
        split at h
        · rename_i g b hc
          obtain ⟨hg, ht, hf⟩ := h
          have hat0 := hat
          obtain ⟨kp, hn, β, ϕ, sat, h0⟩ := hat
          have hev := ((ev_sound hc sat).2 hg).1
          refine wp_cond_split (by rw [hev]; rfl) (fun hb => ?_) (fun hb => ?_)
          · exact ih (.code x :: k) S (by simp only [ksz]; omega) (ht hb) a w hat0
          · exact ih (.code y :: k) S (by simp only [ksz]; omega) (hf hb) a w hat0
        · exact h.elim
      | block id c =>
        unfold vcK at h
        simp only [csz] at hk
        exact wp_block (ih (.code c :: .blk id :: k) S (by simp only [ksz]; omega) h a w hat)
      | exit id =>
        unfold vcK at h
        split at h
        · rename_i k' hk'
          have := unwd_sz hk'
          exact wp_exit (xt_exit hk' (ih k' S (by simp only [csz] at hk; omega) h a w hat))
        · exact h.elim
      | ret =>
        unfold vcK at h
        exact wp_ret (xt_ret (hC.fin _ _ _ hat h).2)
      | loop c =>
        unfold vcK at h
        exact hW _ _ h a w hat
      | _ => unfold vcK at h; exact h.elim

end
end Go.Proofs.Ytmjjdfhpnckacab
