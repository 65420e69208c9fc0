/-
  append: what becomes of the arrays.
  Conditions: the table of types says what the program's says.
-/
import Derived.Test.YtmjjdfhpnckacabOpJ
namespace Go.Proofs.Ytmjjdfhpnckacab
set_option linter.unusedVariables false
section
variable {P : Program} {E : Env} {N : Nat} {w0 : World} {X F : List Nat} {S : St} {β : Nat → GV} {ϕ : Nat → List Nat} {a : Act} {w w' : World} {o : Oper} {R : RR} {A : Hp} {B : Nat}

theorem add_app {n : Nat} {A2 : Hp} {ϕ2 : Nat → List Nat} (hp : Holds w0.heap.size X F A2 β ϕ2 w) (hb : Bd n β A2) (hw : Fr w0 X w) {o' : Own} (ho' : o' = .dp ∨ o' = .sh) {bt b' : Option Nat} {gf : List Nat} {v' : Value} {T : PTy} {es : List PV}
    (hbt : ∀ b, bt = some b → (∀ i hl, lk A2 i = some hl → hl ≠ .dead → b ∉ ϕ2 i) ∧ (b ∈ X ∨ w0.heap.size ≤ b) ∧ (b ∈ F ∨ w0.heap.size ≤ b) ∧ b ∉ gf)
    (hgf : ∀ b ∈ gf, b < w.heap.size ∧ (b ∈ F ∨ w0.heap.size ≤ b))
    (hdp : o' = .dp → gf.Nodup ∧ Apart A2 ϕ2 gf ∧ ∀ b ∈ gf, b ∈ X ∨ w0.heap.size ≤ b)
    (hsh : ∀ i hl, lk A2 i = some hl → ∀ b ∈ owned (ϕ2 i) hl, b ∉ gf)
    (h7 : (b' = bt ∧ ∀ k, some k ≠ bt → w'.heap[k]? = w.heap[k]?) ∨ (b' = some w.heap.size ∧ ∀ k, k < w.heap.size → w'.heap[k]? = w.heap[k]?))
    (hone : v'.oneCell' = true) (hsat : HLSat w' (gv v') (upd β n (gv v')) (optF b' gf) (.arr o' T es .no)) :
    Holds w0.heap.size X F ((n, .arr o' T es .no) :: A2) (upd β n (gv v')) (upd ϕ2 n (optF b' gf)) w' ∧ Bd (n + 1) (upd β n (gv v')) ((n, .arr o' T es .no) :: A2) := by
  have hsz := hw.size
  have h1 : Holds w0.heap.size X F A2 β ϕ2 w' := by
    refine hp.world fun i hl hi hd b hb' => ?_
    rcases h7 with ⟨_, h⟩ | ⟨_, h⟩
    · refine h b fun e => ?_
      exact (hbt b e.symm).1 i hl hi hd hb'
    · exact h b (hp.inb hi hd b hb')
  -- the block
  have hbk : ∀ b, b' = some b → (∀ i hl, lk A2 i = some hl → hl ≠ .dead → b ∉ ϕ2 i) ∧ (b ∈ X ∨ w0.heap.size ≤ b) ∧ (b ∈ F ∨ w0.heap.size ≤ b) ∧ b ∉ gf := by
    intro b e
    rcases h7 with ⟨h, _⟩ | ⟨h, _⟩
    · exact hbt b (h ▸ e)
    · rw [h] at e; cases e
      refine ⟨fun i hl hi hd hm => ?_, .inr hsz, .inr hsz, fun hm => ?_⟩
      · have := hp.inb hi hd _ hm; omega
      · have := (hgf _ hm).1; omega
  have hpok : pathOk A2 (upd β n (gv v')) w' (gv v') (.arr o' T es .no) := by rcases ho' with rfl | rfl <;> trivial
  have hro : roots (.arr o' T es .no) = [] := by rcases ho' with rfl | rfl <;> rfl
  cases b' with
  | none =>
    refine ⟨h1.add hb hone hsat (fun x hx => ?_) (fun _ x hx => ?_) ?_ (fun i hl hi hd x hx hm => ?_) (fun i hl hi _ x hx hm => ?_) hpok (by rw [hro]; simp) (by rw [hro]; simp), hb_add hb (by rcases ho' with rfl | rfl <;> trivial)⟩
    · have := owned_sub x hx; simp [optF] at this
    · simp [optF] at hx
    · rcases ho' with rfl | rfl <;> simp [ndOk, optF]
    · have := owned_sub x hm; simp [optF] at this
    · simp [optF] at hm
  | some b =>
    obtain ⟨k1, k2, k3, k4⟩ := hbk b rfl
    refine ⟨h1.add hb hone hsat (fun x hx => ?_) (fun _ x hx => ?_) ?_ (fun i hl hi hd x hx hm => ?_) (fun i hl hi _ x hx hm => ?_) hpok (by rw [hro]; simp) (by rw [hro]; simp), hb_add hb (by rcases ho' with rfl | rfl <;> trivial)⟩
    · rcases ho' with rfl | rfl
      · simp only [owned, optF, List.mem_cons] at hx
        rcases hx with rfl | hx
        · exact k2
        · exact (hdp rfl).2.2 x hx
      · simp only [owned, optF, List.take_succ_cons, List.take_zero, List.mem_singleton] at hx
        subst hx; exact k2
    · simp only [optF, List.mem_cons] at hx
      rcases hx with rfl | hx
      · exact k3
      · exact (hgf x hx).2
    · rcases ho' with rfl | rfl
      · exact List.nodup_cons.2 ⟨k4, (hdp rfl).1⟩
      · intro b' r e; cases e; exact k4
    · rcases ho' with rfl | rfl
      · simp only [owned, optF, List.mem_cons] at hm
        rcases hm with rfl | hm
        · exact k1 i hl hi hd hx
        · exact (hdp rfl).2.1 i hl hi hd x hx hm
      · simp only [owned, optF, List.take_succ_cons, List.take_zero, List.mem_singleton] at hm
        subst hm; exact k1 i hl hi hd hx
    · simp only [optF, List.mem_cons] at hm
      by_cases hd : hl = .dead
      · subst hd; simp [owned] at hx
      · rcases hm with rfl | hm
        · exact k1 i hl hi hd (owned_sub x hx)
        · exact hsh i hl hi x hx hm

theorem fr_app {bt b' : Option Nat} (hw : Fr w0 X w) (r3 : w'.os = w.os) (r4 : w'.tape = w.tape) (r5 : w'.output = w.output) (r6 : w.heap.size ≤ w'.heap.size) (hbt : ∀ b, bt = some b → b ∈ X ∨ w0.heap.size ≤ b)
    (h7 : (b' = bt ∧ ∀ k, some k ≠ bt → w'.heap[k]? = w.heap[k]?) ∨ (b' = some w.heap.size ∧ ∀ k, k < w.heap.size → w'.heap[k]? = w.heap[k]?)) : Fr w0 X w' := by
  refine ⟨r3.trans hw.os, r4.trans hw.tape, r5.trans hw.output, Nat.le_trans hw.size r6, fun b hb hn => ?_⟩
  have hbs := Nat.lt_of_lt_of_le hb hw.size
  refine Eq.trans ?_ (hw.block b hb hn)
  rcases h7 with ⟨_, h⟩ | ⟨_, h⟩
  · refine h b fun e => ?_
    rcases hbt b e.symm with h8 | h8
    · exact hn h8
    · omega
  · exact h b hbs

/-- The target of an append, taken out of the heap. -/
structure Target (B : Nat) (X F : List Nat) (A1 : Hp) (β : Nat → GV) (ϕ1 : Nat → List Nat) (w : World) (n : Nat) (o1 : Own) (v : Value) (T : PTy) (es : List PV) (f0 : List Nat) : Prop where
  hp : Holds B X F A1 β ϕ1 w
  hb : Bd n β A1
  ho : o1 = .dp ∨ o1 = .sh
  own : (o1 = .dp → OwnD w v T es f0) ∧ (o1 = .sh → OwnS w v T es f0)
  nd : ndOk f0 (.arr o1 T es .no)
  ap : Apart A1 ϕ1 (owned f0 (.arr o1 T es .no))
  dj : ∀ i hl, lk A1 i = some hl → ∀ b ∈ owned (ϕ1 i) hl, b ∉ f0
  ow : ∀ b ∈ owned f0 (.arr o1 T es .no), b ∈ X ∨ B ≤ b
  all : ∀ b ∈ f0, b < w.heap.size ∧ (b ∈ F ∨ B ≤ b)

theorem app_core {t u e ty : TypeId} {tu te : TI} {n : Nat} {A1 : Hp} {ϕ1 : Nat → List Nat} {o1 : Own} {v xv : Value} {es new : List PV} {f0 : List Nat} (tg : Target w0.heap.size X F A1 β ϕ1 w n o1 v te.pty es f0) (hw : Fr w0 X w)
    (hu : P.underlying t = some (.slice e)) (htu : P.underlying u = some tu.d) (hd : tu.d = .slice tu.el ∨ tu.d = .string) (hTe : TIok P e te)
    {cells : List Value} {fx : List Nat} (hN : Lv w (flatT te.pty new.length) (flatP new) cells fx) (hS' : ∀ e ∈ new, Shp te.pty e)
    (hlen : ∀ w1, (Builtin.lenOf xv).run P w1 = .ok new.length w1) (hfc : ∀ w1, w1.heap = w.heap → (Builtin.firstCells te.pty.wd new.length xv).run P w1 = .ok cells.toArray w1)
    (hB : (es.length + new.length) * te.bytes ≤ LIM)
    {o2 : Own} {A2 : Hp} (ho2 : o2 = .dp ∨ o2 = .sh) (hp2 : Holds w0.heap.size X F A2 β ϕ1 w) (hb2 : Bd n β A2) (hA2 : ∀ i hl, lk A2 i = some hl → hl ≠ .dead → ∃ hl1, lk A1 i = some hl1 ∧ hl1 ≠ .dead ∧ ∀ b ∈ owned (ϕ1 i) hl, b ∈ owned (ϕ1 i) hl1)
    (h12 : o2 = .dp → o1 = .dp ∧ Lo w (flatT te.pty new.length) (flatP new) cells fx ∧ fx.Nodup ∧ Apart A2 ϕ1 fx ∧ (∀ b ∈ fx, b ∈ X ∨ w0.heap.size ≤ b)) (hfx0 : ∀ b ∈ fx, b ∉ owned f0 (.arr o1 te.pty es .no))
    (hfx : ∀ i hl, lk A2 i = some hl → ∀ b ∈ owned (ϕ1 i) hl, b ∉ fx) (hfx2 : ∀ b ∈ fx, b < w.heap.size ∧ (b ∈ F ∨ w0.heap.size ≤ b)) :
    ∃ v' w' f', (Builtin.append_ #[t, u] ty #[v, xv]).run P w = .ok v' w' ∧ Holds w0.heap.size X F ((n, .arr o2 te.pty (es ++ new) .no) :: A2) (upd β n (gv v')) (upd ϕ1 n f') w' ∧ Bd (n + 1) (upd β n (gv v')) ((n, .arr o2 te.pty (es ++ new) .no) :: A2) ∧ Fr w0 X w' := by
  have hcl : cells.length = new.length * te.pty.wd := by rw [hN.lens.2, flatP_len hS']
  -- the target's cells, for a relation that serves the result
  have parts : ∃ (L : World → List PTy → List PV → List Value → List Nat → Prop), (∀ w, LOk w (L w)) ∧ (∀ w w' Ts ps vs f, L w Ts ps vs f → (∀ b ∈ f, w'.heap[b]? = w.heap[b]?) → L w' Ts ps vs f) ∧ (∀ w v T es f (g : GV) β, g.v = v → OwnG (L w) w v T es f → HLSat w g β f (.arr o2 T es .no)) ∧
      (∃ cs g bt, RoomO w v te.pty.wd es.length cs bt ∧ L w (flatT te.pty es.length) (flatP es) cs g ∧ (∀ e ∈ es, Shp te.pty e) ∧ f0 = optF bt g ∧ (bt = none → g = [])) ∧ L w (flatT te.pty new.length) (flatP new) cells fx := by
    rcases ho2 with rfl | rfl
    · obtain ⟨h1, h2, _⟩ := h12 rfl
      refine ⟨Lo, lok_lo, fun _ _ _ _ _ _ h hf => h.frame hf, fun w v T es f g β e h => by subst e; exact h, ?_, h2⟩
      exact ownG_room ⟨[], rfl, .nil⟩ (tg.own.1 h1)
    · refine ⟨Lv, lok_lv, fun _ _ _ _ _ _ h hf => h.frame hf, fun w v T es f g β e h => by subst e; exact h, ?_, hN⟩
      have : OwnS w v te.pty es f0 := by
        rcases tg.ho with h | h
        · exact ownD_S (tg.own.1 h)
        · exact tg.own.2 h
      exact ownG_room .nil this
  obtain ⟨L, hLk, hLf, hLs, ⟨cs, g, bt, q1, q2, q3, q4, q5⟩, hLn⟩ := parts
  obtain ⟨v', w', b', r1, r2, r3, r4, r5, r6, r7⟩ := run_append_raw (P := P) (w := w) (ty := ty) (m := new.length) hu htu hd hTe (pty_wd hTe).1 q1 hcl (lv_one hN) hlen hfc hB hTe.bpos
  have hbtf : ∀ b, bt = some b → b ∈ owned f0 (.arr o1 te.pty es .no) := by
    intro b e
    subst e
    rw [q4]
    rcases tg.ho with rfl | rfl <;> simp [owned, optF]
  have hgsub : ∀ b ∈ g, b ∈ f0 := by
    intro b hb
    cases bt with
    | none => rw [q5 rfl] at hb; cases hb
    | some b0 => rw [q4]; exact List.mem_cons_of_mem _ hb
  have hbtg : ∀ b, bt = some b → b ∉ g := by
    intro b e hm
    subst e
    have := tg.nd
    rw [q4] at this
    rcases tg.ho with rfl | rfl
    · exact (List.nodup_cons.1 this).1 hm
    · exact this b g rfl hm
  have hgw : ∀ b ∈ g ++ fx, b < w.heap.size ∧ (b ∈ F ∨ w0.heap.size ≤ b) := by
    intro b hb
    rcases List.mem_append.1 hb with hb | hb
    · exact tg.all b (hgsub b hb)
    · exact hfx2 b hb
  have hbt : ∀ b, bt = some b → (∀ i hl, lk A2 i = some hl → hl ≠ .dead → b ∉ ϕ1 i) ∧ (b ∈ X ∨ w0.heap.size ≤ b) ∧ (b ∈ F ∨ w0.heap.size ≤ b) ∧ b ∉ g ++ fx := by
    intro b e
    have hbo := hbtf b e
    refine ⟨?_, tg.ow b hbo, (tg.all b (owned_sub b hbo)).2, ?_⟩
    · intro i hl hi hdd hm
      obtain ⟨hl1, e1, e2, _⟩ := hA2 i hl hi hdd
      exact tg.ap i hl1 e1 e2 b hm hbo
    · intro hm
      rcases List.mem_append.1 hm with hm | hm
      · exact hbtg b e hm
      · exact hfx0 b hm hbo
  have hframe : ∀ b ∈ g ++ fx, w'.heap[b]? = w.heap[b]? := by
    intro b hb
    rcases r7 with ⟨_, h⟩ | ⟨_, h⟩
    · refine h b fun e => ?_
      exact (hbt b e.symm).2.2.2 hb
    · exact h b (hgw b hb).1
  have hown := ownG_append (w := w) hLk hLf (by simpa using r2) q2 hLn q3 hS' hframe
  have hone : v'.oneCell' = true := by
    rcases r2 with ⟨_, _, _, a, rfl⟩ | ⟨_, _, ⟨⟨o, cap, c, t, fr, rfl, _⟩, _⟩⟩ <;> rfl
  have hA : o2 = .dp → (g ++ fx).Nodup ∧ Apart A2 ϕ1 (g ++ fx) ∧ ∀ b ∈ g ++ fx, b ∈ X ∨ w0.heap.size ≤ b := by
    intro e
    obtain ⟨h1, _, h3, h4, h5⟩ := h12 e
    subst h1
    have hnd : f0.Nodup := tg.nd
    refine ⟨List.nodup_append.2 ⟨?_, h3, ?_⟩, ?_, ?_⟩
    · cases bt with
      | none => rw [q5 rfl]; simp
      | some b0 => rw [q4] at hnd; exact (List.nodup_cons.1 hnd).2
    · intro x hx y hy exy
      subst exy
      exact hfx0 x hy (by simpa [owned] using hgsub x hx)
    · intro i hl hi hdd b hb hm
      rcases List.mem_append.1 hm with hm | hm
      · obtain ⟨hl1, e1, e2, _⟩ := hA2 i hl hi hdd
        exact tg.ap i hl1 e1 e2 b hb (by simpa [owned] using hgsub b hm)
      · exact h4 i hl hi hdd b hb hm
    · intro b hb
      rcases List.mem_append.1 hb with hb | hb
      · exact tg.ow b (by simpa [owned] using hgsub b hb)
      · exact h5 b hb
  have hB2 : ∀ i hl, lk A2 i = some hl → ∀ b ∈ owned (ϕ1 i) hl, b ∉ g ++ fx := by
    intro i hl hi b hb hm
    rcases List.mem_append.1 hm with hm | hm
    · by_cases hdd : hl = .dead
      · subst hdd; simp [owned] at hb
      · obtain ⟨hl1, e1, e2, e3⟩ := hA2 i hl hi hdd
        exact tg.dj i hl1 e1 b (e3 b hb) (hgsub b hm)
    · exact hfx i hl hi b hb hm
  obtain ⟨c1, c2⟩ := add_app (n := n) (o' := o2) (T := te.pty) (es := es ++ new) (v' := v') hp2 hb2 hw ho2 hbt hgw hA hB2 r7 hone (hLs w' v' te.pty (es ++ new) _ (gv v') _ rfl hown)
  exact ⟨v', w', _, r1, c1, c2, fr_app hw r3 r4 r5 r6 (fun b e => (hbt b e).2.1) r7⟩

/-- A nil target. -/
theorem target_nil {n : Nat} {T : PTy} (hp : Holds B X F A β ϕ w) (hb : Bd n β A) : Target B X F A β ϕ w n .dp (.slice none 0 0) T [] [] :=
  ⟨hp, hb, .inl rfl, ⟨fun _ => .inl ⟨rfl, rfl, none, rfl⟩, fun h => by cases h⟩, by simp [ndOk], fun _ _ _ _ _ _ => by simp [owned], by simp, by simp [owned], by simp⟩

/-- A target taken out. -/
theorem target_of {n h : Nat} {o1 : Own} {T : PTy} {es : List PV} {p : Pth} (hp : Holds B X F A β ϕ w) (hb : Bd n β A) (hl : lk A h = some (.arr o1 T es p)) (ho : o1 = .dp ∨ o1 = .sh) : Target B X F (strike [h] A) β ϕ w n o1 (β h).v T es (ϕ h) := by
  have hro : roots (.arr o1 T es p) = [] := by rcases ho with rfl | rfl <;> rfl
  have hoo : owned (ϕ h) (.arr o1 T es p) = owned (ϕ h) (.arr o1 T es .no) := by rcases ho with rfl | rfl <;> rfl
  refine ⟨hp.struck _, strike_bd hb _, ho, ⟨fun e => ?_, fun e => ?_⟩, ?_, ?_, ?_, ?_, ?_⟩
  · subst e; exact hp.sat _ _ hl
  · subst e; exact hp.sat _ _ hl
  · have := hp.nd _ _ hl
    rcases ho with rfl | rfl <;> exact this
  · exact strike_apart hp fun b hb' => ⟨h, by simp, _, hl, by rw [hoo]; exact hb'⟩
  · intro i hl' hi b hb' hm
    by_cases hd : hl' = .dead
    · subst hd; simp [owned] at hb'
    · obtain ⟨e1, e2, e3⟩ := strike_lk hi hd
      exact hp.dj i h hl' _ e1 hl (by simpa using e2) (by rw [hro]; simp) (by simp) b hb' hm
  · intro b hb'; exact hp.own _ _ hl b (by rw [hoo]; exact hb')
  · intro b hb'; exact ⟨hp.inb hl (by simp) b hb', hp.all _ _ hl trivial b hb'⟩

/-- The elements of the operand and the array's, joined. -/
theorem app_join {t u e ty : TypeId} {tu te : TI} {n : Nat} {A1 : Hp} {ϕ1 : Nat → List Nat} {o1 : Own} {v : Value} {x : SV} {es new : List PV} {f0 : List Nat} (tg : Target w0.heap.size X F A1 β ϕ1 w n o1 v te.pty es f0) (hw : Fr w0 X w)
    (hu : P.underlying t = some (.slice e)) (htu : P.underlying u = some tu.d) (hd : tu.d = .slice tu.el ∨ tu.d = .string) (hTe : TIok P e te)
    {A : Hp} {ϕ : Nat → List Nat} {ob : Prop} (hp : Holds w0.heap.size X F A β ϕ w) (hsrc : srcOf A te.pty x = some (ob, new)) (hob : ob) (hk : SV.ok β x) (hal : ∀ i hl, lk A1 i = some hl → hl ≠ .dead → ∃ hl0, lk A i = some hl0 ∧ Alike hl hl0)
    (hB : (es.length + new.length) * te.bytes ≤ LIM) (hok : joinOk te.pty A1 x) :
    ∃ v' w' f' ϕ', (Builtin.append_ #[t, u] ty #[v, SV.val β x]).run P w = .ok v' w' ∧ Holds w0.heap.size X F ((n, .arr (joinB te.pty o1 A1 x).1 te.pty (es ++ new) .no) :: (joinB te.pty o1 A1 x).2) (upd β n (gv v')) (upd ϕ' n f') w' ∧
      Bd (n + 1) (upd β n (gv v')) ((n, .arr (joinB te.pty o1 A1 x).1 te.pty (es ++ new) .no) :: (joinB te.pty o1 A1 x).2) ∧ Fr w0 X w' := by
  have idA : ∀ i hl, lk A1 i = some hl → hl ≠ .dead → ∃ hl1, lk A1 i = some hl1 ∧ hl1 ≠ .dead ∧ ∀ b ∈ owned (ϕ1 i) hl, b ∈ owned (ϕ1 i) hl1 := fun i hl hi hdd => ⟨hl, hi, hdd, fun _ h => h⟩
  -- nothing behind the new elements
  have plain : ∀ cells, Lv w (flatT te.pty new.length) (flatP new) cells [] → (o1 = .dp → Lo w (flatT te.pty new.length) (flatP new) cells []) → (∀ e ∈ new, Shp te.pty e) → (∀ w1, (Builtin.lenOf (SV.val β x)).run P w1 = .ok new.length w1) →
      (∀ w1, w1.heap = w.heap → (Builtin.firstCells te.pty.wd new.length (SV.val β x)).run P w1 = .ok cells.toArray w1) →
      ∃ v' w' f' ϕ', (Builtin.append_ #[t, u] ty #[v, SV.val β x]).run P w = .ok v' w' ∧ Holds w0.heap.size X F ((n, .arr o1 te.pty (es ++ new) .no) :: A1) (upd β n (gv v')) (upd ϕ' n f') w' ∧ Bd (n + 1) (upd β n (gv v')) ((n, .arr o1 te.pty (es ++ new) .no) :: A1) ∧ Fr w0 X w' := by
    intro cells h1 h2 h3 h4 h5
    obtain ⟨v', w', f', r⟩ := app_core (P := P) (ty := ty) tg hw hu htu hd hTe h1 h3 h4 h5 hB tg.ho tg.hp tg.hb idA (fun e => ⟨e, h2 e, by simp, fun _ _ _ _ _ _ => by simp, by simp⟩) (by simp) (by simp) (by simp)
    exact ⟨v', w', f', ϕ1, r⟩
  obtain ⟨cells0, fx0, s1, s2, s3, s4, s5, s6, s7, s8⟩ := src_sound (P := P) hsrc hob hp hk
  by_cases hf : flatB te.pty = true
  · have hjo : joinB te.pty o1 A1 x = (o1, A1) := by simp [joinB, hf]
    rw [hjo]
    have h0 := flat_fp s1 (flatT_ty hf _)
    subst h0
    obtain ⟨fs, l1, l2⟩ := lo_flat (O := OwnF w) s1 (flatT_ty hf _)
    exact plain cells0 s1 (fun _ => ⟨fs, l1.symm, l2⟩) s2 s4 s5
  · by_cases hx : ∃ i, x = .sl i
    · obtain ⟨i, rfl⟩ := hx
      simp only [joinOk, joinB, hf, Bool.false_eq_true, if_false] at hok ⊢
      -- the operand as it is now
      have now : ∀ (o' : Own) (T' : PTy) (es' : List PV) (p' : Pth), lk A1 i = some (.arr o' T' es' p') → (∀ k, o' ≠ .cs k) → srcOf A1 te.pty (.sl i) = some (ob, new) ∧ T' = te.pty ∧ new = es' := by
        intro o' T' es' p' h1 hnc
        obtain ⟨hl0, h2, h3⟩ := hal i _ h1 (by simp)
        simp only [srcOf, h2] at hsrc
        cases hl0 with
        | arr o0 T0 es0 p0 =>
          obtain ⟨rfl, rfl, _, h4⟩ := h3
          have hnc0 : ∀ k, o0 ≠ .cs k := fun k e => by
            obtain ⟨k', e'⟩ := h4 ⟨k, e⟩
            exact hnc k' e'
          have hs1 : srcOf A1 te.pty (.sl i) = some (T' = te.pty, es') := by
            simp only [srcOf, h1] <;> (cases o' <;> first | rfl | exact absurd rfl (hnc _))
          have hs2 : some (ob, new) = some (T' = te.pty, es') := by
            rw [← hsrc]
            cases o0 <;> first | rfl | exact absurd rfl (hnc0 _)
          simp only [Option.some.injEq, Prod.mk.injEq] at hs2
          obtain ⟨rfl, rfl⟩ := hs2
          exact ⟨hs1, hob, rfl⟩
        | _ => simp [Alike] at h3
      -- what lies behind the operand
      have beh : ∀ (o' : Own) (p' : Pth), lk A1 i = some (.arr o' te.pty new p') → srcOf A1 te.pty (.sl i) = some (ob, new) → (o' = .dp ∨ o' = .sh ∨ o' = .vw []) → ∃ cells fx, Lv w (flatT te.pty new.length) (flatP new) cells fx ∧ (∀ w1, (Builtin.lenOf (SV.val β (.sl i))).run P w1 = .ok new.length w1) ∧
          (∀ w1, w1.heap = w.heap → (Builtin.firstCells te.pty.wd new.length (SV.val β (.sl i))).run P w1 = .ok cells.toArray w1) ∧ (∀ b ∈ fx, b ∈ ϕ1 i) ∧ (∀ b ∈ fx, b ∉ owned f0 (.arr o1 te.pty es .no)) ∧ (∀ b ∈ fx, b < w.heap.size ∧ (b ∈ F ∨ w0.heap.size ≤ b)) ∧
          ((∃ b, ϕ1 i = b :: fx) ∨ fx = []) ∧ (o' = .dp → Lo w (flatT te.pty new.length) (flatP new) cells fx) := by
        intro o' p' h1 h2 ho'
        obtain ⟨cells, fx, t1, t2, t3, t4, t5, t6, t7, t8⟩ := src_sound (P := P) h2 hob tg.hp hk
        have hsub : ∀ b ∈ fx, b ∈ ϕ1 i := by
          intro b hb
          rcases t7 i rfl with ⟨b0, e⟩ | e
          · rw [e]; exact List.mem_cons_of_mem _ hb
          · rw [e] at hb; cases hb
        exact ⟨cells, fx, t1, t4, t5, hsub, fun b hb hm => tg.ap i _ h1 (by simp) b (hsub b hb) hm, fun b hb => ⟨tg.hp.inb h1 (by simp) b (hsub b hb), tg.hp.all _ _ h1 trivial b (hsub b hb)⟩, t7 i rfl, fun e => by subst e; exact t8 i p' new rfl h1⟩
      split at hok
      · rename_i T' es' p' h1
        obtain ⟨hs, rfl, rfl⟩ := now _ _ _ _ h1 (by simp)
        obtain ⟨cells, fx, t1, t2, t3, t4, t5, t6, t7, t8⟩ := beh _ _ h1 hs (.inl rfl)
        have hnd : (ϕ1 i).Nodup := tg.hp.nd _ _ h1
        have hndx : fx.Nodup := by
          rcases t7 with ⟨b, e⟩ | e
          · rw [e] at hnd; exact (List.nodup_cons.1 hnd).2
          · rw [e]; simp
        have hst := tg.hp.struck [i]
        have hbst := strike_bd tg.hb [i]
        have hap : Apart (strike [i] A1) ϕ1 (ϕ1 i) := strike_apart tg.hp fun b hb => ⟨i, by simp, _, h1, by simpa [owned] using hb⟩
        simp only [h1]
        rcases tg.ho with ho1 | ho1
        · -- all owned
          subst ho1
          obtain ⟨v', w', f', r⟩ := app_core (P := P) (ty := ty) tg hw hu htu hd hTe t1 s2 t2 t3 hB (.inl rfl) hst hbst (fun j hl hj hdd => ⟨hl, (strike_lk hj hdd).1, hdd, fun _ h => h⟩)
            (fun _ => ⟨rfl, t8 rfl, hndx, hap.mono t4, fun b hb => tg.hp.own _ _ h1 b (by simpa [owned] using t4 b hb)⟩) t5
            (fun j hl hj b hb hm => by
              by_cases hdd : hl = .dead
              · subst hdd; simp [owned] at hb
              · exact hap j hl hj hdd b (owned_sub b hb) (t4 b hm)) t6
          exact ⟨v', w', f', ϕ1, r⟩
        · subst ho1
          have hsat : HLSat w (β i) β (ϕ1 i) (.arr .sh te.pty new .no) := ownD_S (tg.hp.sat _ _ h1)
          have hid : upd ϕ1 i (ϕ1 i) = ϕ1 := by funext k; unfold upd; split <;> simp_all
          have hput := hst.put (A' := set1 (strike [i] A1) i (.arr .sh te.pty new .no)) (n := i) (fun j => lk_set1' _ _ _) (fun hl hi => strike_dead (by simp) hi) hsat
            (fun b hb => tg.hp.own _ _ h1 b (by simpa [owned] using owned_sub b hb)) (fun _ b hb => tg.hp.all _ _ h1 trivial b hb)
            (by intro b r e; rw [e] at hnd; exact (List.nodup_cons.1 hnd).1) (hap.mono fun b hb => owned_sub b hb)
            (fun j hl hj _ b hb hm => by
              by_cases hdd : hl = .dead
              · subst hdd; simp [owned] at hb
              · exact hap j hl hj hdd b (owned_sub b hb) hm) trivial (fun _ _ _ e => by cases e) (by simp [roots])
          rw [hid] at hput
          have hbput := bd_put (A' := set1 (strike [i] A1) i (.arr .sh te.pty new .no)) hbst (fun j => lk_set1' _ _ _) (tg.hb _ _ h1).1 (show HL.ltOk n β (.arr .sh te.pty new .no) from trivial)
          have hcase : ∀ j hl, lk (set1 (strike [i] A1) i (.arr .sh te.pty new .no)) j = some hl → (j = i ∧ hl = .arr .sh te.pty new .no) ∨ (j ≠ i ∧ lk (strike [i] A1) j = some hl) := by
            intro j hl hj
            rw [lk_set1'] at hj
            split at hj
            · rename_i e; cases hj; exact .inl ⟨e, rfl⟩
            · rename_i e; exact .inr ⟨e, hj⟩
          obtain ⟨v', w', f', r⟩ := app_core (P := P) (ty := ty) tg hw hu htu hd hTe t1 s2 t2 t3 hB (.inr rfl) hput hbput
            (fun j hl hj hdd => by
              rcases hcase j hl hj with ⟨rfl, rfl⟩ | ⟨hne, hj'⟩
              · exact ⟨_, h1, by simp, fun b hb => by simpa [owned] using owned_sub b hb⟩
              · exact ⟨hl, (strike_lk hj' hdd).1, hdd, fun _ h => h⟩) (fun e => by cases e) t5
            (fun j hl hj b hb hm => by
              rcases hcase j hl hj with ⟨rfl, rfl⟩ | ⟨hne, hj'⟩
              · rcases t7 with ⟨b0, e⟩ | e
                · simp only [owned, e, List.take_succ_cons, List.take_zero, List.mem_singleton] at hb
                  subst hb
                  rw [e] at hnd; exact (List.nodup_cons.1 hnd).1 hm
                · rw [e] at hm; cases hm
              · by_cases hdd : hl = .dead
                · subst hdd; simp [owned] at hb
                · exact hap j hl hj' hdd b (owned_sub b hb) (t4 b hm)) t6
          exact ⟨v', w', f', ϕ1, r⟩
      · -- what lies behind the operand is shared
        rename_i T' es' p' h1
        obtain ⟨hs, rfl, rfl⟩ := now _ _ _ _ h1 (by simp)
        obtain ⟨cells, fx, t1, t2, t3, t4, t5, t6, t7, t8⟩ := beh _ _ h1 hs (.inr (.inl rfl))
        simp only [h1]
        obtain ⟨v', w', f', r⟩ := app_core (P := P) (ty := ty) tg hw hu htu hd hTe t1 s2 t2 t3 hB (.inr rfl) tg.hp tg.hb idA (fun e => by cases e) t5
          (fun j hl hj b hb hm => by
            by_cases hji : j = i
            · subst hji
              rw [h1] at hj; cases hj
              have hnd := tg.hp.nd _ _ h1
              rcases t7 with ⟨b0, e⟩ | e
              · simp only [owned, e, List.take_succ_cons, List.take_zero, List.mem_singleton] at hb
                subst hb
                exact hnd _ _ e hm
              · rw [e] at hm; cases hm
            · exact tg.hp.dj j i hl _ hj h1 hji (by simp [roots]) (by simp) b hb (t4 b hm)) t6
        exact ⟨v', w', f', ϕ1, r⟩
      · rename_i T' es' p' h1
        obtain ⟨hs, rfl, rfl⟩ := now _ _ _ _ h1 (by simp)
        obtain ⟨cells, fx, t1, t2, t3, t4, t5, t6, t7, t8⟩ := beh _ _ h1 hs (.inr (.inr rfl))
        simp only [h1]
        obtain ⟨v', w', f', r⟩ := app_core (P := P) (ty := ty) tg hw hu htu hd hTe t1 s2 t2 t3 hB (.inr rfl) tg.hp tg.hb idA (fun e => by cases e) t5
          (fun j hl hj b hb hm => by
            by_cases hji : j = i
            · subst hji; rw [h1] at hj; cases hj; simp [owned] at hb
            · exact tg.hp.dj j i hl _ hj h1 hji (by simp [roots]) (by simp) b hb (t4 b hm)) t6
        exact ⟨v', w', f', ϕ1, r⟩
      · exact hok.elim
    · have h0 := s6 fun h e => hx ⟨h, e⟩
      subst h0
      have hjo : joinB te.pty o1 A1 x = (o1, A1) := by
        simp only [joinB, hf, Bool.false_eq_true, if_false]
        cases x <;> first | rfl | exact absurd ⟨_, rfl⟩ hx
      rw [hjo]
      refine plain cells0 s1 (fun _ => ?_) s2 s4 s5
      -- no elements, or bytes
      cases x with
      | str l =>
        simp only [srcOf, Option.some.injEq, Prod.mk.injEq] at hsrc
        obtain ⟨h1, _⟩ := hsrc
        rw [← h1] at hob
        exact absurd (by rw [hob]; rfl) hf
      | nils =>
        simp only [srcOf, Option.some.injEq, Prod.mk.injEq] at hsrc
        obtain ⟨_, rfl⟩ := hsrc
        have : cells0 = [] := List.eq_nil_of_length_eq_zero (by have := s1.lens.2; simpa [flatP] using this)
        subst this
        exact ⟨[], rfl, .nil⟩
      | sl i => exact absurd ⟨i, rfl⟩ hx
      | _ => simp [srcOf] at hsrc

theorem s_append {c : Call} {vs : List SV} {ob : Prop} (hT : EnvTy P E) (ho : o.op = .call c) (hc : c.callee = .builtin .append) (hvs : evs S true c.args.toList = some (ob, vs))
    (hR : builtinRes E S true .append c.argTypes.toList ob vs = some R) (sat : Sat N w0 X F S β ϕ a w) (hob : R.ob) : Snd P w0 X F S β ϕ o a w R := by
  obtain ⟨e1, e2⟩ := evs_sound hvs sat
  have key : ∃ t u s x tu, c.argTypes.toList = [t, u] ∧ vs = [s, x] ∧ lk E.ty u = some tu ∧ appRes E S true (ob ∧ (tu.d = .slice tu.el ∨ tu.d = .string)) t s x = some R := by
    unfold builtinRes at hR
    split at hR
    case h_3 =>
      rename_i t u s x _ ht
      split at hR
      · rename_i tu htu
        exact ⟨t, u, s, x, tu, ht, rfl, htu, hR⟩
      · cases hR
    all_goals first | (exfalso; rename_i hb; simp at hb; done) | (exfalso; rename_i hb _; simp at hb; done) | (exfalso; rename_i hb _ _; simp at hb; done) | (exfalso; rename_i hb _ _ _; simp at hb; done) | cases hR
  obtain ⟨t, u, s, x, tu, hat, rfl, htu, happ⟩ := key
  have hat2 : c.argTypes = #[t, u] := by apply Array.ext'; simpa using hat
  have htu2 := (hT _ _ htu).und
  unfold appRes at happ
  split at happ
  · cases happ
  · rename_i ti hti
    split at happ
    · cases happ
    · rename_i te hte
      have hTe := hT _ _ hte
      split at happ
      · cases happ
      · rename_i o' new hsrc
        split at happ
        · -- nil
          cases happ
          obtain ⟨_, ⟨q1, q2⟩, q3, q4, q5, q6, q7⟩ := hob
          obtain ⟨consts, hr⟩ := run_builtin ho hc hvs q1 sat
          have hk := (e2 rfl q1).2
          have hu := (hT _ _ hti).und
          rw [q5] at hu
          obtain ⟨v', w', f', ϕ', r1, r2, r3, r4⟩ := app_join (P := P) (ty := o.type) (target_nil sat.hp sat.hb) sat.fr hu htu2 q2 hTe sat.hp hsrc q3 hk.2.1 (fun i hl hi _ => ⟨hl, hi, .refl _⟩) (by simpa using q4) q7
          refine ⟨trivial, v', w', _, _, .inl ?_, ⟨fun _ => by simp only [SV.val, upd_eq, gv], fun h hh => upd_lt _ _ _ hh, r2, r3, Nat.lt_succ_self _, trivial, Nat.le_succ _, r4⟩, fun h => by simp [stillP, convP, ho, hc] at h, fun h => by simp [growP, ho, hc] at h⟩
          rw [hr]
          simp [builtin, hat2, SV.vals, SV.val, r1]
        · -- a handle
          rename_i h
          split at happ
          · rename_i ow T es p hl
            cases happ
            obtain ⟨_, ⟨q1, q2⟩, q3, q4, q5, q6, q7, q8, q9, q10⟩ := hob
            subst q6
            obtain ⟨consts, hr⟩ := run_builtin ho hc hvs q1 sat
            have hk := (e2 rfl q1).2
            have hu := (hT _ _ hti).und
            rw [q4] at hu
            obtain ⟨ϕ1, a1, a2, a3, _⟩ := prom_sound sat.hp sat.hb h
            have how : ow = .dp ∨ ow = .sh := by cases ow <;> simp [ownO] at q8 <;> simp
            have tg := target_of a1 a2 hl how
            obtain ⟨v', w', f', ϕ', r1, r2, r3, r4⟩ := app_join (P := P) (ty := o.type) tg sat.fr hu htu2 q2 hTe sat.hp hsrc q3 hk.2.1 (fun i hl hi hd => a3 i hl (strike_lk hi hd).1 hd) q7 q10
            have hle : es.length ≤ LIM := by
              rcases how with rfl | rfl
              · exact (lv_len (OwnD.lv (a1.sat _ _ hl))).1
              · exact (lv_len (OwnS.lv (a1.sat _ _ hl))).1
            refine ⟨hle, v', w', _, _, .inl ?_, ⟨fun _ => by simp only [SV.val, upd_eq, gv], fun h hh => upd_lt _ _ _ hh, r2, r3, Nat.lt_succ_self _, trivial, Nat.le_succ _, r4⟩, fun h => by simp [stillP, convP, ho, hc] at h, fun h => by simp [growP, ho, hc] at h⟩
            rw [hr]
            simp [builtin, hat2, SV.vals, SV.val, r1]
          · cases happ
        · cases happ

end
end Go.Proofs.Ytmjjdfhpnckacab
