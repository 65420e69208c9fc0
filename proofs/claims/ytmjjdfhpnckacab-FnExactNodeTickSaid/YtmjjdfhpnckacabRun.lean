/-
  From the conditions of a function's code to its contract: how it is entered, how it is left.
  Conditions: the contracts of the called functions hold.
-/
import Derived.Test.YtmjjdfhpnckacabRules
namespace Go.Proofs.Ytmjjdfhpnckacab
set_option linter.unusedVariables false

/-- Arguments that are only read: a struct or an array behind a pointer, or a value. -/
def introB (n : Nat) : PTy → PV → SV × Hp × Nat
  | .box ts, p => (.ptr (introL (.vw []) noP 0 n ts p.A).2.2 0, ((introL (.vw []) noP 0 n ts p.A).2.2, .box false 0 (introL (.vw []) noP 0 n ts p.A).1) :: (introL (.vw []) noP 0 n ts p.A).2.1, (introL (.vw []) noP 0 n ts p.A).2.2 + 1)
  | .abx T, p => (.ptr n 0, [(n, .abx false T p.L)], n + 1)
  | .agg ts, p => (.agg (introL (.vw []) noP 0 n ts p.A).1, (introL (.vw []) noP 0 n ts p.A).2.1, (introL (.vw []) noP 0 n ts p.A).2.2)
  | T, p => ((introL (.vw []) noP 0 n [T] [p]).1.headD .nilp, (introL (.vw []) noP 0 n [T] [p]).2.1, (introL (.vw []) noP 0 n [T] [p]).2.2)

def introBs (n : Nat) : List PTy → List PV → List SV × Hp × Nat
  | t :: ts, p :: ps => ((introB n t p).1 :: (introBs (introB n t p).2.2 ts ps).1, (introBs (introB n t p).2.2 ts ps).2.1 ++ (introB n t p).2.1, (introBs (introB n t p).2.2 ts ps).2.2)
  | _, _ => ([], [], n)

def introR (n : Nat) : PTy → PV → SV × Hp × Nat
  | .fn f ts, p => (.fn f (introBs n ts p.A).1, (introBs n ts p.A).2.1, (introBs n ts p.A).2.2)
  | T, p => introB n T p

/-- What may be changed behind a pointer. -/
def introX (n : Nat) : PTy → PV → SV × Hp × Nat
  | .box ts, p => (.ptr (introL .dp noP 0 n ts p.A).2.2 0, ((introL .dp noP 0 n ts p.A).2.2, .box true 0 (introL .dp noP 0 n ts p.A).1) :: (introL .dp noP 0 n ts p.A).2.1, (introL .dp noP 0 n ts p.A).2.2 + 1)
  | .abx T, p => (.ptr n 0, [(n, .abx true T p.L)], n + 1)
  | _, _ => (.nilp, [], n)

def introT (n : Nat) : Md → PTy → PV → SV × Hp × Nat
  | .rd, T, p => introR n T p
  | .mt, T, p => introV .dp noP 0 n T p
  | .ow, T, p => introV .dp noP 0 n T p
  | .bx, T, p => introX n T p

def introTs (n : Nat) : List (Md × PTy) → List PV → List SV × Hp × Nat
  | (m, t) :: ts, p :: ps => ((introT n m t p).1 :: (introTs (introT n m t p).2.2 ts ps).1, (introTs (introT n m t p).2.2 ts ps).2.1 ++ (introT n m t p).2.1, (introTs (introT n m t p).2.2 ts ps).2.2)
  | _, _ => ([], [], n)

mutual
/-- A pure value is of a type. -/
def Ty : PTy → PV → Prop
  | .int k, p => ∃ n, p = .int k n ∧ inR k n
  | .bool, p => ∃ b, p = .bool b
  | .str, p => ∃ l, p = .str l ∧ l.length ≤ LIM
  | .list T, p => ∃ es, p = .list es ∧ es.length ≤ LIM ∧ ∀ e ∈ es, Ty T e
  | .agg ts, p => ∃ qs, p = .agg qs ∧ Tys ts qs
  | .box ts, p => ∃ qs, p = .agg qs ∧ Tys ts qs
  | .abx T, p => ∃ es, p = .list es ∧ ∀ e ∈ es, Ty T e
  | .fn _ ts, p => ∃ qs, p = .agg qs ∧ Tys ts qs
  | .opq, _ => True
def Tys : List PTy → List PV → Prop
  | [], ps => ps = []
  | t :: ts, ps => ∃ p qs, ps = p :: qs ∧ Ty t p ∧ Tys ts qs
end

def TyA : List (Md × PTy) → List PV → Prop
  | [], ps => ps = []
  | (_, t) :: ts, ps => ∃ p qs, ps = p :: qs ∧ Ty t p ∧ TyA ts qs

section
variable {P : Program} {E : Env} {N : Nat} {w0 : World} {X F : List Nat} {S : St} {β : Nat → GV} {ϕ : Nat → List Nat} {a : Act} {w w' : World} {o : Oper} {R : RR} {A : Hp} {B : Nat}

theorem Tys_append : ∀ {ts ts' : List PTy} {ps ps' : List PV}, ts.length = ps.length → (Tys (ts ++ ts') (ps ++ ps') ↔ Tys ts ps ∧ Tys ts' ps')
  | [], ts', [], ps', _ => by simp [Tys]
  | [], ts', p :: ps, ps', h => by simp at h
  | t :: ts, ts', [], ps', h => by simp at h
  | t :: ts, ts', p :: ps, ps', h => by
    have ih := Tys_append (ts := ts) (ts' := ts') (ps := ps) (ps' := ps') (by simpa using h)
    simp only [List.cons_append, Tys]
    constructor
    · rintro ⟨_, _, e, h1, h2⟩
      cases e
      obtain ⟨h3, h4⟩ := ih.1 h2
      exact ⟨⟨_, _, rfl, h1, h3⟩, h4⟩
    · rintro ⟨⟨_, _, e, h1, h2⟩, h3⟩
      cases e
      exact ⟨_, _, rfl, h1, ih.2 ⟨h2, h3⟩⟩

theorem Tys_elems {T : PTy} (hT : ∀ t ∈ T.leaves, t.leaves = [t]) : ∀ (es : List PV), (∀ e ∈ es, Shp T e) → Tys (flatT T es.length) (flatP es) → ∀ e ∈ es, Ty T e
  | [], _, _, e, he => by cases he
  | p :: es, hs, h, e, he => by
    have hs1 := hs p (by simp)
    have e1 : flatT T (p :: es).length = T.leaves ++ flatT T es.length := by simp [flatT, List.replicate_succ]
    have e2 : flatP (p :: es) = p.leaves ++ flatP es := by simp [flatP]
    have hlen : T.leaves.length = p.leaves.length := by
      cases T <;> simp only [Shp] at hs1
      case agg ts => obtain ⟨qs, rfl, hq⟩ := hs1; simp [PTy.leaves, PV.leaves, hq]
      all_goals (cases p <;> simp [PTy.leaves, PV.leaves] at hs1 ⊢)
    rw [e1, e2, Tys_append hlen] at h
    rcases List.mem_cons.1 he with rfl | he
    · have h1 := h.1
      cases T <;> simp only [Shp] at hs1
      case agg ts => obtain ⟨qs, rfl, hq⟩ := hs1; exact ⟨qs, rfl, h1⟩
      all_goals (cases e <;> simp only [PTy.leaves, PV.leaves, Tys] at h1 hs1 <;> first | (obtain ⟨_, _, e, h1, _⟩ := h1; cases e; exact h1) | exact absurd rfl (hs1 _))
    · exact Tys_elems hT es (fun e he => hs e (by simp [he])) h.2 e he

theorem Lv.tys {w : World} {Ts : List PTy} {ps : List PV} {vs : List Value} {fp : List Nat} (h : Lv w Ts ps vs fp) : Tys Ts ps := by
  induction h with
  | nil => simp [Tys]
  | int h1 _ ih => exact ⟨_, _, rfl, ⟨_, rfl, h1⟩, ih⟩
  | bool _ ih => exact ⟨_, _, rfl, ⟨_, rfl⟩, ih⟩
  | str h1 _ ih => exact ⟨_, _, rfl, ⟨_, rfl, h1⟩, ih⟩
  | empty _ ih => exact ⟨_, _, rfl, ⟨[], rfl, by simp, by simp⟩, ih⟩
  | @list T es b o cap c t fr cs f1 Ts ps vs fp hb hs hl hv hc _ ih1 ih2 =>
    refine ⟨_, _, rfl, ⟨es, rfl, hl.1, ?_⟩, ih2⟩
    intro e he
    have hT : ∀ t ∈ T.leaves, t.leaves = [t] := by
      intro t ht
      refine hv.ty_of t ?_
      simp only [flatT, List.mem_flatten, List.mem_replicate]
      exact ⟨T.leaves, ⟨(by intro h0; have := List.length_eq_zero_iff.1 h0; subst this; cases he), rfl⟩, ht⟩
    exact Tys_elems hT es hs ih1 e he

theorem flat_tys {w : World} {T : PTy} {es : List PV} {cs : List Value} {f : List Nat} (hT : flatB T = true) (hs : ∀ e ∈ es, Shp T e) (h : Lv w (flatT T es.length) (flatP es) cs f) : ∀ e ∈ es, Ty T e := by
  intro e he
  have hT : ∀ t ∈ T.leaves, t.leaves = [t] := by
    intro t ht
    refine h.ty_of t ?_
    simp only [flatT, List.mem_flatten, List.mem_replicate]
    exact ⟨T.leaves, ⟨(by intro h0; have := List.length_eq_zero_iff.1 h0; subst this; cases he), rfl⟩, ht⟩
  exact Tys_elems hT es hs h.tys e he

theorem ArgB.ty {T : PTy} {p : PV} {v : Value} {f fl : List Nat} (h : ArgB w T p v f fl) : Ty T p := by
  have leaf : Lv w [T] [p] [v] f → Ty T p := fun hL => by
    have := hL.tys
    simp only [Tys] at this
    obtain ⟨_, _, e, h1, _⟩ := this
    cases e
    exact h1
  cases T with
  | agg ts => obtain ⟨qs, cs, rfl, _, hL, _⟩ := h; exact ⟨qs, rfl, hL.tys⟩
  | box ts => obtain ⟨qs, cs, b, t, pre, post, rfl, _, _, hL, _⟩ := h; exact ⟨qs, rfl, hL.tys⟩
  | abx T => obtain ⟨es, b, t, c, rfl, _, _, h1, h2, h3, _⟩ := h; exact ⟨es, rfl, flat_tys h1 h2 h3⟩
  | fn _ _ => exact h.elim
  | _ => exact leaf h.1

theorem ArgBs.tys {ts : List PTy} {ps : List PV} {vs : List Value} {f fl : List Nat} (h : ArgBs w ts ps vs f fl) : Tys ts ps := by
  induction h with
  | nil => simp [Tys]
  | cons h1 _ ih => exact ⟨_, _, rfl, h1.ty, ih⟩

theorem ArgV.ty {T : PTy} {p : PV} {v : Value} {f fl : List Nat} (h : ArgV w T p v f fl) : Ty T p := by
  cases T with
  | fn g ts => obtain ⟨qs, cs, rfl, _, hL⟩ := h; exact ⟨qs, rfl, hL.tys⟩
  | _ => exact ArgB.ty h

theorem ArgM.ty {T : PTy} {p : PV} {v : Value} {f : List Nat} (h : ArgM w T p v f) : Ty T p := by
  cases T with
  | agg ts => obtain ⟨qs, cs, fs, rfl, _, hL, _⟩ := h; exact ⟨qs, rfl, hL.lv.tys⟩
  | list T =>
    obtain ⟨es, rfl, hO⟩ := h
    have := hO.lv.tys
    simp only [Tys] at this
    obtain ⟨_, _, e, h1, _⟩ := this
    cases e
    exact h1
  | _ => exact h.elim

theorem ArgX.ty {T : PTy} {p : PV} {v : Value} {f : List Nat} (h : ArgX w T p v f) : Ty T p := by
  cases T with
  | box ts => obtain ⟨qs, cs, fs, b, t, pre, post, rfl, _, _, hL, _⟩ := h; exact ⟨qs, rfl, hL.lv.tys⟩
  | abx T => obtain ⟨es, b, t, c, rfl, _, _, h1, h2, h3, _⟩ := h; exact ⟨es, rfl, flat_tys h1 h2 h3⟩
  | _ => exact h.elim

theorem ArgsV.ty {ts : List (Md × PTy)} {ps : List PV} {vs : List Value} {f fl ms : List Nat} (h : ArgsV w ts ps vs f fl ms) : TyA ts ps := by
  induction h with
  | nil => simp [TyA]
  | rd h1 _ ih => exact ⟨_, _, rfl, h1.ty, ih⟩
  | mt h1 _ ih => exact ⟨_, _, rfl, h1.ty, ih⟩
  | ow h1 _ ih => exact ⟨_, _, rfl, h1.ty, ih⟩
  | bx h1 _ ih => exact ⟨_, _, rfl, h1.ty, ih⟩

theorem apart_add {n : Nat} {hl0 : HL} {f G : List Nat} (hb : Bd n β A) (h : Apart A ϕ G) (hf : ∀ b ∈ f, b ∉ G) : Apart ((n, hl0) :: A) (upd ϕ n f) G :=
  apart_put h (fun i => lk_cons' A i) hf

theorem viewOk_rd {f : List Nat} {n : Nat} (hp : Holds B X F A β ϕ w) (hB : w.heap.size = B) (hf : ∀ b ∈ f, b < w.heap.size) (hX : ∀ b ∈ f, b ∉ X) (hF : ∀ b ∈ f, b ∈ F) : ViewOk B F A ϕ n f [] := by
  refine ⟨?_, fun b hb => .inl (hF b hb), by simp, by simp⟩
  intro i hl hi _ b hb hm
  rcases hp.own i hl hi b hb with h | h
  · exact hX b hm h
  · have := hf b hm; omega

theorem introL_rd : ∀ (Ts : List PTy) (ps : List PV) (vs : List Value) (f G : List Nat) (j n : Nat) (A : Hp) (β : Nat → GV) (ϕ : Nat → List Nat), Lv w Ts ps vs f → Holds B X F A β ϕ w → Bd n β A → w.heap.size = B → (∀ b ∈ f, b ∉ X) → (∀ b ∈ f, b ∈ F) → Apart A ϕ G → (∀ b ∈ f, b ∉ G) →
    ∃ β' ϕ', Laid B X F ((introL (.vw []) noP j n Ts ps).2.1 ++ A) β β' ϕ ϕ' w n (introL (.vw []) noP j n Ts ps).2.2 (introL (.vw []) noP j n Ts ps).1 vs G := by
  intro Ts
  induction Ts with
  | nil =>
    intro ps vs f G j n A β ϕ hL hp hb hB hX hF hG hf
    cases hL
    exact ⟨β, ϕ, hp, hb, fun _ _ => rfl, fun _ _ => rfl, rfl, trivial, trivial, Nat.le_refl _, hG⟩
  | cons T Ts ih =>
    intro ps vs f G j n A β ϕ hL hp hb hB hX hF hG hf
    cases ps with
    | nil => have := hL.lens.1; simp at this
    | cons p ps =>
      obtain ⟨v, vs', f1, f2, rfl, rfl, h1, h2⟩ := hL.cons_inv
      have scal : ∀ (x : SV), (introL (.vw []) noP j n (T :: Ts) (p :: ps)) = (x :: (introL (.vw []) noP (j + 1) n Ts ps).1, (introL (.vw []) noP (j + 1) n Ts ps).2.1, (introL (.vw []) noP (j + 1) n Ts ps).2.2) → (∀ β, SV.val β x = v) → (∀ m, SV.lt m x) → (∀ β, SV.ok β x) →
          ∃ β' ϕ', Laid B X F ((introL (.vw []) noP j n (T :: Ts) (p :: ps)).2.1 ++ A) β β' ϕ ϕ' w n (introL (.vw []) noP j n (T :: Ts) (p :: ps)).2.2 (introL (.vw []) noP j n (T :: Ts) (p :: ps)).1 (v :: vs') G := by
        intro x he hx hlt hok
        obtain ⟨β', ϕ', a1, a2, a3, a4, a5, a6, a7, a8, a9⟩ := ih ps vs' f2 G (j + 1) n A β ϕ h2 hp hb hB (fun b hb => hX b (by simp [hb])) (fun b hb => hF b (by simp [hb])) hG (fun b hb => hf b (by simp [hb]))
        rw [he]
        exact ⟨β', ϕ', a1, a2, a3, a4, by simp [SV.vals, hx, a5], ⟨hlt _, a6⟩, ⟨hok _, a7⟩, a8, a9⟩
      cases T with
      | int k =>
        obtain ⟨m, rfl, rfl, hr, rfl⟩ := h1.int_inv
        exact scal (.int k m) rfl (fun _ => rfl) (fun _ => trivial) (fun _ => hr)
      | bool =>
        obtain ⟨m, rfl, rfl, rfl⟩ := h1.bool_inv
        exact scal (.bool m) rfl (fun _ => rfl) (fun _ => trivial) (fun _ => trivial)
      | str =>
        obtain ⟨m, rfl, rfl, hr, rfl⟩ := h1.str_inv
        exact scal (.str m) rfl (fun _ => rfl) (fun _ => trivial) (fun _ => hr)
      | list T =>
        obtain ⟨es, rfl⟩ : ∃ es, p = .list es := by cases h1 <;> exact ⟨_, rfl⟩
        have hv1 : ViewOk B F A ϕ n f1 [] := viewOk_rd hp hB h1.inb (fun b hb => hX b (by simp [hb])) (fun b hb => hF b (by simp [hb]))
        obtain ⟨c1, c2⟩ := add_view (T := T) (es := es) (v := v) (p := .no) hp hb h1 hv1 trivial
        have hG' := apart_add (hl0 := .arr (.vw []) T es .no) hb hG (fun b hb => hf b (by simp [hb]) : ∀ b ∈ f1, b ∉ G)
        obtain ⟨β', ϕ', a1, a2, a3, a4, a5, a6, a7, a8, a9⟩ := ih ps vs' f2 G (j + 1) (n + 1) _ _ _ h2 c1 c2 hB (fun b hb => hX b (by simp [hb])) (fun b hb => hF b (by simp [hb])) hG' (fun b hb => hf b (by simp [hb]))
        refine ⟨β', ϕ', ?_, ?_, fun k hk => (a3 k (by omega)).trans (upd_lt _ _ _ hk), fun k hk => (a4 k (by omega)).trans (upd_lt _ _ _ hk), ?_, ?_, ?_, ?_, ?_⟩
        · simpa [introL, noP, PV.L, List.append_assoc] using a1
        · simpa [introL, noP, PV.L, List.append_assoc] using a2
        · simp only [introL, SV.vals, SV.val, a5, a3 n (by omega), upd_eq]; rfl
        · exact ⟨by simp only [SV.lt, introL]; omega, a6⟩
        · exact ⟨trivial, a7⟩
        · simp only [introL]; omega
        · simpa [introL, noP, PV.L, List.append_assoc] using a9
      | agg ts => cases h1
      | box ts => cases h1
      | abx t => cases h1
      | fn f ts => cases h1
      | opq => cases h1

theorem introB_rd {T : PTy} {p : PV} {v : Value} {f fl G : List Nat} {n : Nat} (hL : ArgB w T p v f fl) (hp : Holds B X F A β ϕ w) (hb : Bd n β A) (hB : w.heap.size = B) (hX : ∀ b ∈ f, b ∉ X) (hF : ∀ b ∈ fl, b ∈ F) (hG : Apart A ϕ G) (hf : ∀ b ∈ f, b ∉ G) :
    ∃ β' ϕ', Laid B X F ((introB n T p).2.1 ++ A) β β' ϕ ϕ' w n (introB n T p).2.2 [(introB n T p).1] [v] G := by
  have leaf : (introB n T p = ((introL (.vw []) noP 0 n [T] [p]).1.headD .nilp, (introL (.vw []) noP 0 n [T] [p]).2.1, (introL (.vw []) noP 0 n [T] [p]).2.2)) → Lv w [T] [p] [v] f → fl = f →
      ∃ β' ϕ', Laid B X F ((introB n T p).2.1 ++ A) β β' ϕ ϕ' w n (introB n T p).2.2 [(introB n T p).1] [v] G := by
    intro he hL' hfl
    subst hfl
    obtain ⟨β', ϕ', a1, a2, a3, a4, a5, a6, a7, a8, a9⟩ := introL_rd [T] [p] [v] fl G 0 n A β ϕ hL' hp hb hB hX hF hG hf
    have hx : (introL (.vw []) noP 0 n [T] [p]).1 = [(introL (.vw []) noP 0 n [T] [p]).1.headD .nilp] := by cases T <;> simp [introL]
    rw [he]
    rw [hx] at a5 a6 a7
    exact ⟨β', ϕ', a1, a2, a3, a4, a5, a6, a7, a8, a9⟩
  cases T with
  | agg ts =>
    obtain ⟨qs, cs, rfl, rfl, hL, rfl⟩ := hL
    obtain ⟨β', ϕ', a1, a2, a3, a4, a5, a6, a7, a8, a9⟩ := introL_rd ts qs cs fl G 0 n A β ϕ hL hp hb hB hX hF hG hf
    exact ⟨β', ϕ', a1, a2, a3, a4, by simp [introB, SV.vals, SV.val, PV.A, a5], ⟨a6, trivial⟩, ⟨a7, trivial⟩, a8, a9⟩
  | box ts =>
    obtain ⟨qs, cs, b, t, pre, post, rfl, rfl, hblk, hL, rfl⟩ := hL
    obtain ⟨β', ϕ', a1, a2, a3, a4, a5, a6, a7, a8, a9⟩ := introL_rd ts qs cs fl G 0 n A β ϕ hL hp hb hB (fun c hc => hX c (by simp [hc])) hF hG (fun c hc => hf c (by simp [hc]))
    have hbb : b < w.heap.size := (Array.getElem?_eq_some_iff.1 hblk).1
    have hbc : ∀ k, k < (introL (.vw []) noP 0 n ts qs).2.2 → upd β' (introL (.vw []) noP 0 n ts qs).2.2 ⟨.pointer (some ⟨b, pre.length, none⟩), pre, post⟩ k = β' k := fun k hk => upd_lt _ _ _ hk
    have hadd := a1.add (n := (introL (.vw []) noP 0 n ts qs).2.2) (hl0 := .box false 0 (introL (.vw []) noP 0 n ts qs).1) (g := ⟨.pointer (some ⟨b, pre.length, none⟩), pre, post⟩) (f := [b]) a2 rfl
      ⟨b, t, rfl, rfl, by rw [SV.vals_congr hbc _ a6, a5]; exact hblk⟩ (by simp [owned]) (fun h => h.elim) trivial (by intro i hl hi hd c hc hm; simp [owned] at hm)
      (fun i hl hi _ c hc hm => by
        simp only [List.mem_singleton] at hm
        subst hm
        rcases a1.own i hl hi c hc with h | h
        · exact hX c (by simp) h
        · omega) trivial (by simp [roots]) (by simp [roots])
    refine ⟨_, _, hadd, hb_add a2 ⟨SV.lts_mono (Nat.le_succ (introL (.vw []) noP 0 n ts qs).2.2) _ a6, SV.oks_congr hbc _ a6 a7⟩, fun k hk => (upd_lt _ _ _ (show k < (introL (.vw []) noP 0 n ts qs).2.2 by omega)).trans (a3 k hk), fun k hk => (upd_lt _ _ _ (show k < (introL (.vw []) noP 0 n ts qs).2.2 by omega)).trans (a4 k hk), ?_, ?_, ?_, ?_, ?_⟩
    · simp [introB, SV.vals, SV.val, PV.A, upd_eq]
    · exact ⟨by simp [introB, SV.lt, PV.A], trivial⟩
    · exact ⟨⟨b, pre.length, by simp [PV.A, upd_eq]⟩, trivial⟩
    · show n ≤ (introL (.vw []) noP 0 n ts qs).2.2 + 1; omega
    · exact apart_add a2 a9 (fun c hc => by simp only [List.mem_singleton] at hc; subst hc; exact hf c (by simp))
  | abx T =>
    obtain ⟨es, b, t, c, rfl, rfl, hblk, h1, h2, h3, rfl, rfl⟩ := hL
    have hbb : b < w.heap.size := (Array.getElem?_eq_some_iff.1 hblk).1
    have hadd := hp.add (n := n) (hl0 := .abx false T es) (g := ⟨.pointer (some ⟨b, 0, none⟩), [], []⟩) (f := [b]) hb rfl
      ⟨h1, h2, b, t, c, rfl, rfl, hblk, h3⟩ (by simp [owned]) (fun h => h.elim) trivial (by intro i hl hi hd c hc hm; simp [owned] at hm)
      (fun i hl hi _ c hc hm => by
        simp only [List.mem_singleton] at hm
        subst hm
        rcases hp.own i hl hi c hc with h | h
        · exact hX c (by simp) h
        · omega) trivial (by simp [roots]) (by simp [roots])
    refine ⟨_, _, hadd, hb_add hb trivial, fun k hk => upd_lt _ _ _ hk, fun k hk => upd_lt _ _ _ hk, ?_, ?_, ?_, ?_, ?_⟩
    · simp [introB, SV.vals, SV.val, upd_eq]
    · exact ⟨by simp [introB, SV.lt], trivial⟩
    · exact ⟨⟨b, 0, by simp [upd_eq]⟩, trivial⟩
    · show n ≤ n + 1; omega
    · exact apart_add hb hG (fun c hc => by simp only [List.mem_singleton] at hc; subst hc; exact hf c (by simp))
  | fn g ts => exact hL.elim
  | int k => exact leaf rfl hL.1 hL.2
  | bool => exact leaf rfl hL.1 hL.2
  | str => exact leaf rfl hL.1 hL.2
  | list T => exact leaf rfl hL.1 hL.2
  | opq => exact leaf rfl hL.1 hL.2

theorem introBs_rd : ∀ (Ts : List PTy) (ps : List PV) (vs : List Value) (f fl G : List Nat) (n : Nat) (A : Hp) (β : Nat → GV) (ϕ : Nat → List Nat), ArgBs w Ts ps vs f fl → Holds B X F A β ϕ w → Bd n β A → w.heap.size = B → (∀ b ∈ f, b ∉ X) → (∀ b ∈ fl, b ∈ F) → Apart A ϕ G → (∀ b ∈ f, b ∉ G) →
    ∃ β' ϕ', Laid B X F ((introBs n Ts ps).2.1 ++ A) β β' ϕ ϕ' w n (introBs n Ts ps).2.2 (introBs n Ts ps).1 vs G := by
  intro Ts
  induction Ts with
  | nil =>
    intro ps vs f fl G n A β ϕ hL hp hb hB hX hF hG hf
    cases hL
    exact ⟨β, ϕ, hp, hb, fun _ _ => rfl, fun _ _ => rfl, rfl, trivial, trivial, Nat.le_refl _, hG⟩
  | cons T Ts ih =>
    intro ps vs f fl G n A β ϕ hL hp hb hB hX hF hG hf
    cases hL with
    | @cons _ _ p ps' v vs' f g fl1 gl h1 h2 =>
      obtain ⟨β1, ϕ1, b1, b2, b3, b4, b5, b6, b7, b8, b9⟩ := introB_rd (n := n) h1 hp hb hB (fun b hb => hX b (by simp [hb])) (fun b hb => hF b (by simp [hb])) hG (fun b hb => hf b (by simp [hb]))
      obtain ⟨β', ϕ', a1, a2, a3, a4, a5, a6, a7, a8, a9⟩ := ih ps' vs' g gl G _ _ _ _ h2 b1 b2 hB (fun b hb => hX b (by simp [hb])) (fun b hb => hF b (by simp [hb])) b9 (fun b hb => hf b (by simp [hb]))
      refine ⟨β', ϕ', ?_, ?_, fun k hk => (a3 k (by omega)).trans (b3 k hk), fun k hk => (a4 k (by omega)).trans (b4 k hk), ?_, ?_, ?_, ?_, ?_⟩
      · simpa [introBs, List.append_assoc] using a1
      · simpa [introBs, List.append_assoc] using a2
      · simp only [introBs, SV.vals, a5]
        simp only [SV.vals, List.cons.injEq, and_true] at b5
        rw [SV.val_congr a3 _ b6.1, b5]
      · exact ⟨SV.lt_mono a8 _ b6.1, a6⟩
      · exact ⟨SV.ok_congr a3 _ b6.1 b7.1, a7⟩
      · simp only [introBs]; omega
      · simpa [introBs, List.append_assoc] using a9

theorem introR_rd {T : PTy} {p : PV} {v : Value} {f fl G : List Nat} {n : Nat} (hL : ArgV w T p v f fl) (hp : Holds B X F A β ϕ w) (hb : Bd n β A) (hB : w.heap.size = B) (hX : ∀ b ∈ f, b ∉ X) (hF : ∀ b ∈ fl, b ∈ F) (hG : Apart A ϕ G) (hf : ∀ b ∈ f, b ∉ G) :
    ∃ β' ϕ', Laid B X F ((introR n T p).2.1 ++ A) β β' ϕ ϕ' w n (introR n T p).2.2 [(introR n T p).1] [v] G := by
  cases T with
  | fn g ts =>
    obtain ⟨qs, cs, rfl, rfl, hL⟩ := hL
    obtain ⟨β', ϕ', a1, a2, a3, a4, a5, a6, a7, a8, a9⟩ := introBs_rd ts qs cs f fl G n A β ϕ hL hp hb hB hX hF hG hf
    exact ⟨β', ϕ', a1, a2, a3, a4, by simp [introR, SV.vals, SV.val, PV.A, a5], ⟨a6, trivial⟩, ⟨a7, trivial⟩, a8, a9⟩
  | _ => exact introB_rd hL hp hb hB hX hF hG hf

/-- What lay behind a lent pointer at first. -/
def OldX1 (w : World) (β : Nat → GV) (T : PTy) (x : SV) : Prop :=
  match T, x with
  | .box l, .ptr h 0 => ∃ b t cs0, (β h).v = .pointer (some ⟨b, (β h).pre.length, none⟩) ∧ w.heap[b]? = some (.cells ((β h).pre ++ cs0 ++ (β h).post).toArray t (0, 0)) ∧ cs0.length = l.length
  | _, _ => True
def OldX (w : World) (β : Nat → GV) : List (Md × PTy) → List SV → Prop
  | (.bx, t) :: ts, x :: xs => OldX1 w β t x ∧ OldX w β ts xs
  | _ :: ts, _ :: xs => OldX w β ts xs
  | _, _ => True
theorem OldX1.congr {β β' : Nat → GV} {n : Nat} {T : PTy} {x : SV} (h : OldX1 w β T x) (hβ : ∀ k, k < n → β' k = β k) (hx : SV.lt n x) : OldX1 w β' T x := by
  unfold OldX1 at h ⊢
  split at h
  · rename_i l i
    rw [hβ i hx]; exact h
  · trivial
theorem OldX.congr {β β' : Nat → GV} {n : Nat} (hβ : ∀ k, k < n → β' k = β k) : ∀ {ts : List (Md × PTy)} {xs : List SV}, OldX w β ts xs → SV.lts n xs → OldX w β' ts xs
  | [], xs, h, hx => by cases xs <;> trivial
  | (m, t) :: ts, [], h, hx => by cases m <;> trivial
  | (m, t) :: ts, x :: xs, h, hx => by
    cases m with
    | bx => exact ⟨h.1.congr hβ hx.1, OldX.congr hβ h.2 hx.2⟩
    | _ => exact OldX.congr (ts := ts) (xs := xs) hβ h hx.2

theorem introX_own {T : PTy} {p : PV} {v : Value} {f G : List Nat} {n : Nat} (hL : ArgX w T p v f) (hp : Holds B X F A β ϕ w) (hb : Bd n β A) (hn : (f ++ G).Nodup) (hw : ∀ b ∈ f, (b ∈ X ∨ B ≤ b) ∧ (b ∈ F ∨ B ≤ b)) (hd : Apart A ϕ (f ++ G)) :
    ∃ β' ϕ', Laid B X F ((introX n T p).2.1 ++ A) β β' ϕ ϕ' w n (introX n T p).2.2 [(introX n T p).1] [v] G ∧ OldX1 w β' T (introX n T p).1 := by
  cases T with
  | box ts =>
    obtain ⟨qs, cs, fs, b, t, pre, post, rfl, rfl, hblk, hL, rfl⟩ := hL
    have hn' : (fs.flatten ++ (b :: G)).Nodup := by
      simp only [List.cons_append, List.nodup_cons, List.mem_append, not_or, List.nodup_append, List.mem_cons] at hn ⊢
      obtain ⟨⟨q1, q2⟩, q3, q4, q5⟩ := hn
      refine ⟨q3, ⟨q2, q4⟩, ?_⟩
      rintro a ha b' (rfl | hb') e
      · subst e; exact q1 ha
      · exact q5 a ha b' hb' e
    obtain ⟨β', ϕ', a1, a2, a3, a4, a5, a6, a7, a8, a9⟩ := introL_own noP (fun _ => rfl) ts qs cs fs (b :: G) 0 n A β ϕ hL hp hb hn' (fun c hc => hw c (by simp only [List.mem_cons]; exact .inr hc)) (hd.mono fun c hc => by simp only [List.mem_append, List.mem_cons] at hc ⊢; rcases hc with h | h | h <;> simp [h])
    have hbc : ∀ k, k < (introL .dp noP 0 n ts qs).2.2 → upd β' (introL .dp noP 0 n ts qs).2.2 ⟨.pointer (some ⟨b, pre.length, none⟩), pre, post⟩ k = β' k := fun k hk => upd_lt _ _ _ hk
    have hadd := a1.add (n := (introL .dp noP 0 n ts qs).2.2) (hl0 := .box true 0 (introL .dp noP 0 n ts qs).1) (g := ⟨.pointer (some ⟨b, pre.length, none⟩), pre, post⟩) (f := [b]) a2 rfl
      ⟨b, t, rfl, rfl, by rw [SV.vals_congr hbc _ a6, a5]; exact hblk⟩ (fun c hc => by simp only [owned, List.mem_singleton] at hc; subst hc; exact (hw c (by simp)).1) (fun _ c hc => by simp only [List.mem_singleton] at hc; subst hc; exact (hw c (by simp)).2) trivial
      (a9.mono fun c hc => by simp only [owned, List.mem_singleton] at hc; simp [hc])
      (fun i hl hi _ c hc hm => by
        simp only [List.mem_singleton] at hm
        subst hm
        by_cases hdd : hl = .dead
        · subst hdd; simp [owned] at hc
        · exact a9 i hl hi hdd c (owned_sub c hc) (by simp)) trivial (by simp [roots]) (by simp [roots])
    refine ⟨_, _, ⟨hadd, hb_add a2 ⟨SV.lts_mono (Nat.le_succ (introL .dp noP 0 n ts qs).2.2) _ a6, SV.oks_congr hbc _ a6 a7⟩, fun k hk => (upd_lt _ _ _ (show k < (introL .dp noP 0 n ts qs).2.2 by omega)).trans (a3 k hk), fun k hk => (upd_lt _ _ _ (show k < (introL .dp noP 0 n ts qs).2.2 by omega)).trans (a4 k hk), ?_, ?_, ?_, ?_, ?_⟩, ⟨b, t, cs, by simp [PV.A, upd_eq], by simpa [PV.A, upd_eq] using hblk, hL.lv.lens.2.trans hL.lv.lens.1.symm⟩⟩
    · simp [introX, SV.vals, SV.val, PV.A, upd_eq]
    · exact ⟨by simp [introX, SV.lt, PV.A], trivial⟩
    · exact ⟨⟨b, pre.length, by simp [PV.A, upd_eq]⟩, trivial⟩
    · show n ≤ (introL .dp noP 0 n ts qs).2.2 + 1; omega
    · refine apart_add a2 (a9.mono fun c hc => by simp [hc]) (fun c hc hm => ?_)
      simp only [List.mem_singleton] at hc
      subst hc
      simp only [List.cons_append, List.nodup_cons, List.mem_append, not_or] at hn
      exact hn.1.2 hm
  | abx T =>
    obtain ⟨es, b, t, c, rfl, rfl, hblk, h1, h2, h3, rfl⟩ := hL
    have hadd := hp.add (n := n) (hl0 := .abx true T es) (g := ⟨.pointer (some ⟨b, 0, none⟩), [], []⟩) (f := [b]) hb rfl
      ⟨h1, h2, b, t, c, rfl, rfl, hblk, h3⟩ (fun c hc => (hw c (by simpa [owned] using hc)).1) (fun _ c hc => (hw c hc).2) trivial
      (hd.mono fun c hc => by simp only [owned, List.mem_singleton] at hc; simp [hc])
      (fun i hl hi _ c hc hm => by
        simp only [List.mem_singleton] at hm
        subst hm
        by_cases hdd : hl = .dead
        · subst hdd; simp [owned] at hc
        · exact hd i hl hi hdd c (owned_sub c hc) (by simp)) trivial (by simp [roots]) (by simp [roots])
    refine ⟨_, _, ⟨hadd, hb_add hb trivial, fun k hk => upd_lt _ _ _ hk, fun k hk => upd_lt _ _ _ hk, ?_, ?_, ?_, ?_, ?_⟩, trivial⟩
    · simp [introX, SV.vals, SV.val, upd_eq]
    · exact ⟨by simp [introX, SV.lt], trivial⟩
    · exact ⟨⟨b, 0, by simp [upd_eq]⟩, trivial⟩
    · show n ≤ n + 1; omega
    · refine apart_add hb (hd.mono fun c hc => by simp [hc]) (fun c hc hm => ?_)
      simp only [List.mem_singleton] at hc
      subst hc
      simp only [List.cons_append, List.nil_append, List.nodup_cons] at hn
      exact hn.1 hm
  | _ => exact hL.elim

theorem ArgM.ret {t : PTy} {p : PV} {v : Value} {f : List Nat} (h : ArgM w t p v f) : RetV w t p v f := by
  cases t with
  | agg ts => exact h
  | list T => obtain ⟨es, rfl, hO⟩ := h; exact ⟨[f], .list hO .nil, by simp⟩
  | _ => exact h.elim

theorem introTs_sound : ∀ (Ts : List (Md × PTy)) (ps : List PV) (vs : List Value) (fs fl ms : List Nat) (n : Nat) (A : Hp) (β : Nat → GV) (ϕ : Nat → List Nat), ArgsV w Ts ps vs fs fl ms → Holds B X F A β ϕ w → Bd n β A → w.heap.size = B →
    (∀ b ∈ fs, b ∉ X) → (∀ b ∈ fl, b ∈ F) → (∀ b ∈ ms, b ∈ X ∧ b ∈ F) → ms.Nodup → Apart A ϕ ms →
    ∃ β' ϕ', Laid B X F ((introTs n Ts ps).2.1 ++ A) β β' ϕ ϕ' w n (introTs n Ts ps).2.2 (introTs n Ts ps).1 vs [] ∧ OldX w β' Ts (introTs n Ts ps).1 := by
  intro Ts
  induction Ts with
  | nil =>
    intro ps vs fs fl ms n A β ϕ hL hp hb hB hX hF hM hn hG
    cases hL
    exact ⟨β, ϕ, ⟨hp, hb, fun _ _ => rfl, fun _ _ => rfl, rfl, trivial, trivial, Nat.le_refl _, hG.mono (by simp)⟩, trivial⟩
  | cons T Ts ih =>
    intro ps vs fs fl ms n A β ϕ hL hp hb hB hX hF hM hn hG
    have comb : ∀ {m t p ps' v vs'} {K : SV × Hp × Nat} {β1 ϕ1} {fs' fl' ms'}, introT n m t p = K → (m = .bx → OldX1 w β1 t K.1) → Laid B X F (K.2.1 ++ A) β β1 ϕ ϕ1 w n K.2.2 [K.1] [v] ms' → ArgsV w Ts ps' vs' fs' fl' ms' → (∀ b ∈ fs', b ∉ X) → (∀ b ∈ fl', b ∈ F) → (∀ b ∈ ms', b ∈ X ∧ b ∈ F) → ms'.Nodup →
        ∃ β' ϕ', Laid B X F ((introTs n ((m, t) :: Ts) (p :: ps')).2.1 ++ A) β β' ϕ ϕ' w n (introTs n ((m, t) :: Ts) (p :: ps')).2.2 (introTs n ((m, t) :: Ts) (p :: ps')).1 (v :: vs') [] ∧ OldX w β' ((m, t) :: Ts) (introTs n ((m, t) :: Ts) (p :: ps')).1 := by
      rintro m t p ps' v vs' K β1 ϕ1 fs' fl' ms' rfl hold ⟨b1, b2, b3, b4, b5, b6, b7, b8, b9⟩ h2 g1 g2 g3 g4
      obtain ⟨β', ϕ', ⟨a1, a2, a3, a4, a5, a6, a7, a8, a9⟩, ho⟩ := ih ps' vs' fs' fl' ms' _ _ _ _ h2 b1 b2 hB g1 g2 g3 g4 b9
      refine ⟨β', ϕ', ⟨?_, ?_, fun k hk => (a3 k (by omega)).trans (b3 k hk), fun k hk => (a4 k (by omega)).trans (b4 k hk), ?_, ?_, ?_, ?_, ?_⟩, by
        cases m with
        | bx => exact ⟨(hold rfl).congr a3 b6.1, ho⟩
        | _ => exact ho⟩
      · simpa [introTs, List.append_assoc] using a1
      · simpa [introTs, List.append_assoc] using a2
      · simp only [introTs, SV.vals, a5]
        simp only [SV.vals, List.cons.injEq, and_true] at b5
        rw [SV.val_congr a3 _ b6.1, b5]
      · exact ⟨SV.lt_mono a8 _ b6.1, a6⟩
      · exact ⟨SV.ok_congr a3 _ b6.1 b7.1, a7⟩
      · simp only [introTs]; omega
      · simpa [introTs, List.append_assoc] using a9
    cases hL with
    | rd h1 h2 =>
      obtain ⟨β1, ϕ1, hl⟩ := introR_rd (n := n) h1 hp hb hB (fun b hb => hX b (by simp [hb])) (fun b hb => hF b (by simp [hb])) hG (fun b hb hm => hX b (by simp [hb]) (hM b hm).1)
      exact comb rfl (fun e => by cases e) hl h2 (fun b hb => hX b (by simp [hb])) (fun b hb => hF b (by simp [hb])) hM hn
    | mt h1 h2 =>
      obtain ⟨β1, ϕ1, hl⟩ := introV_own (n := n) h1.ret hp hb hn (fun b hb => ⟨.inl (hM b (by simp [hb])).1, .inl (hM b (by simp [hb])).2⟩) hG
      exact comb rfl (fun e => by cases e) hl h2 hX hF (fun b hb => hM b (by simp [hb])) (List.nodup_append.1 hn).2.1
    | ow h1 h2 =>
      obtain ⟨β1, ϕ1, hl⟩ := introV_own (n := n) h1.ret hp hb hn (fun b hb => ⟨.inl (hM b (by simp [hb])).1, .inl (hM b (by simp [hb])).2⟩) hG
      exact comb rfl (fun e => by cases e) hl h2 hX hF (fun b hb => hM b (by simp [hb])) (List.nodup_append.1 hn).2.1
    | bx h1 h2 =>
      obtain ⟨β1, ϕ1, hl, hold⟩ := introX_own (n := n) h1 hp hb hn (fun b hb => ⟨.inl (hM b (by simp [hb])).1, .inl (hM b (by simp [hb])).2⟩) hG
      exact comb rfl (fun _ => hold) hl h2 hX hF (fun b hb => hM b (by simp [hb])) (List.nodup_append.1 hn).2.1

end
end Go.Proofs.Ytmjjdfhpnckacab
