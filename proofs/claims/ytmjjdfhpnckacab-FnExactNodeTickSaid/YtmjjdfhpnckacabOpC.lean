/-
  Elements of arrays: parting their leaves, reading them, what is laid as new handles.
  Conditions: the table of types says what the program's says.
-/
import Derived.Test.YtmjjdfhpnckacabOpB
namespace Go.Proofs.Ytmjjdfhpnckacab
set_option linter.unusedVariables false
section
variable {P : Program} {E : Env} {N : Nat} {w0 : World} {X F : List Nat} {S : St} {β : Nat → GV} {ϕ : Nat → List Nat} {a : Act} {w w' : World} {o : Oper} {R : RR} {A A' : Hp} {B : Nat}

theorem leaves_len {T : PTy} {e : PV} (h : Shp T e) : e.leaves.length = T.wd := by
  unfold Shp at h
  split at h
  · obtain ⟨qs, rfl, hl⟩ := h; exact hl
  · rename_i hT
    have h1 : T.wd = 1 := by cases T <;> first | rfl | exact absurd rfl (hT _)
    have h2 : e.leaves.length = 1 := by cases e <;> first | rfl | exact absurd rfl (h _)
    rw [h1, h2]

theorem flatP_len {T : PTy} : ∀ {es : List PV}, (∀ e ∈ es, Shp T e) → (flatP es).length = es.length * T.wd
  | [], _ => by simp [flatP]
  | e :: es, h => by
    have h1 := leaves_len (h e (by simp))
    have h2 := flatP_len (es := es) fun x hx => h x (by simp [hx])
    simp only [flatP, List.flatMap_cons, List.length_append, List.length_cons] at h2 ⊢
    rw [h2, h1, Nat.add_mul]; omega

theorem flatT_len (T : PTy) (n : Nat) : (flatT T n).length = n * T.wd := by
  induction n with
  | zero => simp [flatT]
  | succ n ih =>
    simp only [flatT, List.replicate_succ, List.flatten_cons, List.length_append] at ih ⊢
    rw [ih, Nat.add_mul]
    simp only [PTy.wd]; omega

theorem flatT_add (T : PTy) (m n : Nat) : flatT T (m + n) = flatT T m ++ flatT T n := by
  simp [flatT, ← List.replicate_append_replicate]

theorem flatT_one (T : PTy) : flatT T 1 = T.leaves := by simp [flatT]

theorem flatP_append (x y : List PV) : flatP (x ++ y) = flatP x ++ flatP y := by simp [flatP]

theorem split_at (es : List PV) {i : Nat} (hi : i < es.length) : es = es.take i ++ es.getD i PV.d :: es.drop (i + 1) := by
  have : es.getD i PV.d = es[i] := by simp [hi]
  rw [this, List.getElem_cons_drop, List.take_append_drop]

/-- A relation of leaves that can be parted and joined. -/
structure LOk (w : World) (L : List PTy → List PV → List Value → List Nat → Prop) : Prop where
  split : ∀ {T1 T2 p1 p2 vs f}, L (T1 ++ T2) (p1 ++ p2) vs f → T1.length = p1.length → ∃ v1 v2 f1 f2, vs = v1 ++ v2 ∧ f = f1 ++ f2 ∧ L T1 p1 v1 f1 ∧ L T2 p2 v2 f2
  app : ∀ {T1 T2 p1 p2 v1 v2 f1 f2}, L T1 p1 v1 f1 → L T2 p2 v2 f2 → L (T1 ++ T2) (p1 ++ p2) (v1 ++ v2) (f1 ++ f2)
  lv : ∀ {Ts ps vs f}, L Ts ps vs f → Lv w Ts ps vs f

theorem lok_lv (w : World) : LOk w (Lv w) := ⟨fun h hl => h.split rfl rfl hl, fun h h' => h.append h', id⟩
theorem lok_lo (w : World) : LOk w (Lo w) := by
  refine ⟨?_, ?_, fun h => h.lv⟩
  · rintro T1 T2 p1 p2 vs f ⟨fs, rfl, h⟩ hl
    obtain ⟨v1, v2, f1, f2, rfl, rfl, q1, q2⟩ := h.split rfl rfl hl
    exact ⟨v1, v2, _, _, rfl, by simp, ⟨f1, rfl, q1⟩, ⟨f2, rfl, q2⟩⟩
  · rintro T1 T2 p1 p2 v1 v2 f1 f2 ⟨fs, rfl, h⟩ ⟨fs', rfl, h'⟩
    exact ⟨fs ++ fs', by simp, h.append h'⟩

/-- The cells of an element's leaves from off on. -/
theorem elem_split {L : List PTy → List PV → List Value → List Nat → Prop} (hL0 : LOk w L) {T : PTy} {es : List PV} {cs : List Value} {f : List Nat} {i off sz : Nat} (hL : L (flatT T es.length) (flatP es) cs f) (hS : ∀ e ∈ es, Shp T e) (hi : i < es.length) (hle : off + sz ≤ T.wd) :
    ∃ v1 v2 v3 g1 g2 g3, cs = v1 ++ v2 ++ v3 ∧ f = g1 ++ g2 ++ g3 ∧ v1.length = i * T.wd + off ∧ v2.length = sz ∧
      L (flatT T i ++ T.leaves.take off) (flatP (es.take i) ++ (es.getD i PV.d).leaves.take off) v1 g1 ∧
      L (leafAt T off sz) (((es.getD i PV.d).leaves.drop off).take sz) v2 g2 ∧
      L (T.leaves.drop (off + sz) ++ flatT T (es.length - (i + 1))) ((es.getD i PV.d).leaves.drop (off + sz) ++ flatP (es.drop (i + 1))) v3 g3 := by
  have he : es.getD i PV.d ∈ es := by
    have : es.getD i PV.d = es[i] := by simp [hi]
    rw [this]; exact List.getElem_mem hi
  have hel := leaves_len (hS _ he)
  have hT : flatT T es.length = (flatT T i ++ T.leaves.take off) ++ (leafAt T off sz ++ (T.leaves.drop (off + sz) ++ flatT T (es.length - (i + 1)))) := by
    have e1 : es.length = i + (1 + (es.length - (i + 1))) := by omega
    rw [e1, flatT_add, flatT_add, flatT_one]
    have e2 : T.leaves = T.leaves.take off ++ ((T.leaves.drop off).take sz ++ T.leaves.drop (off + sz)) := by
      rw [← List.drop_drop, List.take_append_drop, List.take_append_drop]
    have e3 : i + (1 + (es.length - (i + 1))) - (i + 1) = es.length - (i + 1) := by omega
    rw [e3]
    conv => lhs; rw [e2]
    simp [leafAt, List.append_assoc]
  have hP : flatP es = (flatP (es.take i) ++ (es.getD i PV.d).leaves.take off) ++ (((es.getD i PV.d).leaves.drop off).take sz ++ ((es.getD i PV.d).leaves.drop (off + sz) ++ flatP (es.drop (i + 1)))) := by
    conv => lhs; rw [split_at es hi]
    have e2 : ∀ l : List PV, l = l.take off ++ ((l.drop off).take sz ++ l.drop (off + sz)) := by
      intro l
      rw [← List.drop_drop, List.take_append_drop, List.take_append_drop]
    have e4 : flatP (es.take i ++ es.getD i PV.d :: es.drop (i + 1)) = flatP (es.take i) ++ ((es.getD i PV.d).leaves ++ flatP (es.drop (i + 1))) := by
      simp [flatP]
    rw [e4]
    conv => lhs; rw [e2 (es.getD i PV.d).leaves]
    simp [List.append_assoc]
  have htk : (es.take i).length = i := by simp; omega
  have hl1 : (flatT T i ++ T.leaves.take off).length = (flatP (es.take i) ++ (es.getD i PV.d).leaves.take off).length := by
    have h1 := flatT_len T i
    have h2 := flatP_len (T := T) (es := es.take i) fun x hx => hS x (List.mem_of_mem_take hx)
    simp only [List.length_append, List.length_take, h1, h2, hel, htk]
    simp only [PTy.wd]
  rw [hT, hP] at hL
  obtain ⟨v1, v23, g1, g23, rfl, rfl, q1, q23⟩ := hL0.split hL hl1
  have hl2 : (leafAt T off sz).length = (((es.getD i PV.d).leaves.drop off).take sz).length := by
    simp only [leafAt, List.length_take, List.length_drop, hel, PTy.wd]
  obtain ⟨v2, v3, g2, g3, rfl, rfl, q2, q3⟩ := hL0.split q23 hl2
  refine ⟨v1, v2, v3, g1, g2, g3, by simp, by simp, ?_, ?_, q1, q2, q3⟩
  · obtain ⟨_, h1⟩ := (hL0.lv q1).lens
    rw [h1, ← hl1, List.length_append, flatT_len, List.length_take]
    simp only [PTy.wd] at hle ⊢
    omega
  · obtain ⟨_, h1⟩ := (hL0.lv q2).lens
    rw [h1, List.length_take, List.length_drop, hel]
    omega

theorem loadHy_sound : ∀ {Ts : List PTy} {ps : List PV} {vs : List Value} {f : List Nat}, Lv w Ts ps vs f → loadHy Ts ps := by
  intro Ts ps vs f h
  induction h with
  | nil => trivial
  | int h1 _ ih => exact ⟨h1, ih⟩
  | bool _ ih => exact ih
  | str h1 _ ih => exact ⟨h1, ih⟩
  | empty _ ih => exact ⟨Nat.zero_le _, ih⟩
  | list _ _ hl _ _ _ _ ih => exact ⟨hl.1, ih⟩

theorem flatLs_iff {ts : List PTy} : flatLs ts = true ↔ ∀ t ∈ ts, t = .bool ∨ t = .str ∨ ∃ k, t = .int k := by
  induction ts with
  | nil => simp [flatLs]
  | cons t ts ih =>
    simp only [flatLs, Bool.and_eq_true, ih, List.mem_cons, forall_eq_or_imp]
    have : flatL t = true ↔ (t = .bool ∨ t = .str ∨ ∃ k, t = .int k) := by cases t <;> simp [flatL]
    rw [this]

theorem flat_ty {T : PTy} (h : flatB T = true) : ∀ t ∈ T.leaves, t = .bool ∨ t = .str ∨ ∃ k, t = .int k := flatLs_iff.1 h

theorem flat_fp : ∀ {Ts : List PTy} {ps : List PV} {vs : List Value} {f : List Nat}, Lv w Ts ps vs f → (∀ t ∈ Ts, t = .bool ∨ t = .str ∨ ∃ k, t = .int k) → f = [] := by
  intro Ts ps vs f h
  induction h with
  | nil => intro _; rfl
  | int _ _ ih => intro hh; exact ih fun t ht => hh t (by simp [ht])
  | bool _ ih => intro hh; exact ih fun t ht => hh t (by simp [ht])
  | str _ _ ih => intro hh; exact ih fun t ht => hh t (by simp [ht])
  | empty _ _ => intro hh; have := hh _ List.mem_cons_self; simp at this
  | list _ _ _ _ _ _ _ _ => intro hh; have := hh _ List.mem_cons_self; simp at this

theorem flatT_ty {T : PTy} (h : flatB T = true) (n : Nat) : ∀ t ∈ flatT T n, t = .bool ∨ t = .str ∨ ∃ k, t = .int k := by
  intro t ht
  simp only [flatT, List.mem_flatten, List.mem_replicate] at ht
  obtain ⟨l, ⟨_, rfl⟩, hm⟩ := ht
  exact flat_ty h t hm

/-- Flat leaves are owned idly. -/
theorem lo_flat {O : Value → PTy → List PV → List Nat → Prop} : ∀ {Ts : List PTy} {ps : List PV} {vs : List Value} {f : List Nat}, Lv w Ts ps vs f → (∀ t ∈ Ts, t = .bool ∨ t = .str ∨ ∃ k, t = .int k) → ∃ fs, fs.flatten = [] ∧ LoP O Ts ps vs fs := by
  intro Ts ps vs f h
  induction h with
  | nil => intro _; exact ⟨[], rfl, .nil⟩
  | int h1 _ ih => intro hh; obtain ⟨fs, h2, h3⟩ := ih fun t ht => hh t (by simp [ht]); exact ⟨[] :: fs, by simpa using h2, .int h1 h3⟩
  | bool _ ih => intro hh; obtain ⟨fs, h2, h3⟩ := ih fun t ht => hh t (by simp [ht]); exact ⟨[] :: fs, by simpa using h2, .bool h3⟩
  | str h1 _ ih => intro hh; obtain ⟨fs, h2, h3⟩ := ih fun t ht => hh t (by simp [ht]); exact ⟨[] :: fs, by simpa using h2, .str h1 h3⟩
  | empty _ _ => intro hh; have := hh _ List.mem_cons_self; simp at this
  | list _ _ _ _ _ _ _ _ => intro hh; have := hh _ List.mem_cons_self; simp at this

theorem ownS_D {v : Value} {T : PTy} {es : List PV} {f : List Nat} (hT : flatB T = true) (h : OwnS w v T es f) : OwnD w v T es f := by
  rcases h with h | ⟨b, f1, cs, rfl, hr, hs, hv⟩
  · exact .inl h
  · have h1 := flat_fp hv (flatT_ty hT _)
    subst h1
    obtain ⟨fs, h2, h3⟩ := lo_flat (O := OwnF w) hv (flatT_ty hT _)
    exact .inr ⟨b, [], cs, rfl, hr, hs, fs, h2.symm, h3⟩

theorem ownD_S {v : Value} {T : PTy} {es : List PV} {f : List Nat} (h : OwnD w v T es f) : OwnS w v T es f := by
  rcases h with h | ⟨b, f1, cs, rfl, hr, hs, hv⟩
  · exact .inl h
  · exact .inr ⟨b, f1, cs, rfl, hr, hs, hv.lv⟩

theorem ownF_D {v : Value} {T : PTy} {es : List PV} {f : List Nat} (h : OwnF w v T es f) : OwnD w v T es f := ownS_D h.1 h.2
theorem ownD_F {v : Value} {T : PTy} {es : List PV} {f : List Nat} (hT : flatB T = true) (h : OwnD w v T es f) : OwnF w v T es f := ⟨hT, ownD_S h⟩

/-- A flat list's footprint is its block alone. -/
theorem ownF_fp {v : Value} {T : PTy} {es : List PV} {f : List Nat} (h : OwnF w v T es f) : f = [] ∨ ∃ b, f = [b] := by
  rcases h.2 with ⟨_, h, _⟩ | ⟨b, f1, cs, rfl, hr, hs, hv⟩
  · exact .inl h
  · have := flat_fp hv (flatT_ty h.1 _)
    subst this; exact .inr ⟨b, rfl⟩

/-- What a new view may reach. -/
structure ViewOk (B : Nat) (F : List Nat) (A : Hp) (ϕ : Nat → List Nat) (n : Nat) (f rs : List Nat) : Prop where
  dj : ∀ i hl, lk A i = some hl → i ∉ rs → ∀ b ∈ owned (ϕ i) hl, b ∉ f
  all : ∀ b ∈ f, b ∈ F ∨ B ≤ b
  bx : ∀ r ∈ rs, ∀ o t cs, lk A r ≠ some (.box o t cs)
  lt : ∀ r ∈ rs, r < n

theorem ViewOk.mono {f g rs : List Nat} {n : Nat} (h : ViewOk B F A ϕ n f rs) (hs : ∀ b ∈ g, b ∈ f) : ViewOk B F A ϕ n g rs :=
  ⟨fun i hl hi hn b hb hm => h.dj i hl hi hn b hb (hs b hm), fun b hb => h.all b (hs b hb), h.bx, h.lt⟩

theorem PthOk.congr {β' : Nat → GV} {g : GV} {rs : List Nat} {T : PTy} {es : List PV} {p : Pth} (h : PthOk A β w g rs T es p) (hr : ∀ r ∈ rs, lk A' r = lk A r ∧ β' r = β r) : PthOk A' β' w g rs T es p := by
  cases p with
  | no => trivial
  | el r i j =>
    obtain ⟨h1, T', es', p', h2, h3, h4, h5, h6⟩ := h
    obtain ⟨e1, e2⟩ := hr r h1
    exact ⟨h1, T', es', p', e1.trans h2, h3, h4, h5, by rw [e2]; exact h6⟩
  | sub r lo =>
    obtain ⟨h1, es', p', h2, h3, h4, h5⟩ := h
    obtain ⟨e1, e2⟩ := hr r h1
    exact ⟨h1, es', p', by rw [e1]; exact h2, h3, h4, by rw [e2]; exact h5⟩

theorem lv_one1 {T : PTy} {p : PV} {v : Value} {f : List Nat} (h : Lv w [T] [p] [v] f) : v.oneCell' = true := by
  cases h <;> rfl

theorem add_view {n : Nat} {rs : List Nat} {T : PTy} {es : List PV} {v : Value} {f : List Nat} {p : Pth} (hp : Holds B X F A β ϕ w) (hb : Bd n β A) (hL : Lv w [.list T] [.list es] [v] f) (hv : ViewOk B F A ϕ n f rs) (hpt : PthOk A β w (gv v) rs T es p) :
    Holds B X F ((n, .arr (.vw rs) T es p) :: A) (upd β n (gv v)) (upd ϕ n f) w ∧ Bd (n + 1) (upd β n (gv v)) ((n, .arr (.vw rs) T es p) :: A) := by
  refine ⟨hp.add hb (lv_one1 hL) hL (by simp [owned]) (fun _ => hv.all) trivial ?_ hv.dj ?_ hv.lt hv.bx, hb_add hb fun r hr => by have := hv.lt r hr; omega⟩
  · intro i hl hi hd b hb' hm; simp [owned] at hm
  · exact hpt.congr fun r hr => ⟨rfl, upd_lt _ _ _ (hv.lt r hr)⟩

theorem ViewOk.add {n : Nat} {rs rs' : List Nat} {T : PTy} {es : List PV} {f g : List Nat} {p : Pth} {v : GV} (hb : Bd n β A) (h : ViewOk B F A ϕ n g rs) : ViewOk B F ((n, .arr (.vw rs') T es p) :: A) (upd ϕ n f) (n + 1) g rs := by
  refine ⟨?_, h.all, ?_, fun r hr => by have := h.lt r hr; omega⟩
  · intro i hl hi hn b hb'
    rw [lk_cons'] at hi
    split at hi
    · cases hi; simp [owned] at hb'
    · rename_i e
      rw [upd_ne _ _ _ e] at hb'
      exact h.dj i hl hi hn b hb'
  · intro r hr o t cs
    have := h.lt r hr
    rw [lk_cons', if_neg (by omega)]
    exact h.bx r hr o t cs

/-- The paths of a row of leaves from position j on. -/
def PthsOk (A : Hp) (β : Nat → GV) (w : World) (rs : List Nat) (q : Nat → Pth) : Nat → List PTy → List PV → List Value → Prop
  | j, .list T :: Ts, .list es :: ps, v :: vs => PthOk A β w (gv v) rs T es (q j) ∧ PthsOk A β w rs q (j + 1) Ts ps vs
  | j, _ :: Ts, _ :: ps, _ :: vs => PthsOk A β w rs q (j + 1) Ts ps vs
  | _, _, _, _ => True

theorem PthsOk.congr {β' : Nat → GV} {rs : List Nat} {q : Nat → Pth} (hr : ∀ r ∈ rs, lk A' r = lk A r ∧ β' r = β r) : ∀ {Ts : List PTy} {ps : List PV} {vs : List Value} {j : Nat}, PthsOk A β w rs q j Ts ps vs → PthsOk A' β' w rs q j Ts ps vs := by
  intro Ts
  induction Ts with
  | nil => intro ps vs j h; simp [PthsOk]
  | cons T Ts ih =>
    intro ps vs j h
    cases ps with
    | nil => simp [PthsOk]
    | cons p ps => cases vs with
      | nil => simp [PthsOk]
      | cons v vs =>
        cases T <;> cases p <;> simp only [PthsOk] at h ⊢ <;> first | exact ih h | exact ⟨h.1.congr hr, ih h.2⟩

theorem pthsOk_no {rs : List Nat} : ∀ {Ts : List PTy} {ps : List PV} {vs : List Value} {j : Nat}, PthsOk A β w rs noP j Ts ps vs := by
  intro Ts
  induction Ts with
  | nil => intro ps vs j; simp [PthsOk]
  | cons T Ts ih =>
    intro ps vs j
    cases ps with
    | nil => simp [PthsOk]
    | cons p ps => cases vs with
      | nil => simp [PthsOk]
      | cons v vs =>
        cases T <;> cases p <;> simp only [PthsOk] <;> first | exact ih | exact ⟨trivial, ih⟩

theorem introL_view (rs : List Nat) (q : Nat → Pth) : ∀ (Ts : List PTy) (ps : List PV) (vs : List Value) (f : List Nat) (j n : Nat) (A : Hp) (β : Nat → GV) (ϕ : Nat → List Nat), Lv w Ts ps vs f → Holds B X F A β ϕ w → Bd n β A → ViewOk B F A ϕ n f rs → PthsOk A β w rs q j Ts ps vs →
    ∃ β' ϕ', Holds B X F ((introL (.vw rs) q j n Ts ps).2.1 ++ A) β' ϕ' w ∧ Bd (introL (.vw rs) q j n Ts ps).2.2 β' ((introL (.vw rs) q j n Ts ps).2.1 ++ A) ∧ (∀ k, k < n → β' k = β k) ∧
      SV.vals β' (introL (.vw rs) q j n Ts ps).1 = vs ∧ SV.lts (introL (.vw rs) q j n Ts ps).2.2 (introL (.vw rs) q j n Ts ps).1 ∧ SV.oks β' (introL (.vw rs) q j n Ts ps).1 ∧ n ≤ (introL (.vw rs) q j n Ts ps).2.2 ∧ (∀ k, k < n → ϕ' k = ϕ k) := by
  intro Ts
  induction Ts with
  | nil =>
    intro ps vs f j n A β ϕ hL hp hb hv hq
    cases hL
    exact ⟨β, ϕ, hp, hb, fun _ _ => rfl, rfl, trivial, trivial, Nat.le_refl _, fun _ _ => rfl⟩
  | cons T Ts ih =>
    intro ps vs f j n A β ϕ hL hp hb hv hq
    cases ps with
    | nil => have := hL.lens.1; simp at this
    | cons p ps =>
      obtain ⟨v, vs', f1, f2, rfl, rfl, h1, h2⟩ := hL.cons_inv
      have scal : ∀ (x : SV), (introL (.vw rs) q j n (T :: Ts) (p :: ps)) = (x :: (introL (.vw rs) q (j + 1) n Ts ps).1, (introL (.vw rs) q (j + 1) n Ts ps).2.1, (introL (.vw rs) q (j + 1) n Ts ps).2.2) → PthsOk A β w rs q (j + 1) Ts ps vs' → (∀ β, SV.val β x = v) → (∀ m, SV.lt m x) → (∀ β, SV.ok β x) →
          ∃ β' ϕ', Holds B X F ((introL (.vw rs) q j n (T :: Ts) (p :: ps)).2.1 ++ A) β' ϕ' w ∧ Bd (introL (.vw rs) q j n (T :: Ts) (p :: ps)).2.2 β' ((introL (.vw rs) q j n (T :: Ts) (p :: ps)).2.1 ++ A) ∧ (∀ k, k < n → β' k = β k) ∧
            SV.vals β' (introL (.vw rs) q j n (T :: Ts) (p :: ps)).1 = v :: vs' ∧ SV.lts (introL (.vw rs) q j n (T :: Ts) (p :: ps)).2.2 (introL (.vw rs) q j n (T :: Ts) (p :: ps)).1 ∧ SV.oks β' (introL (.vw rs) q j n (T :: Ts) (p :: ps)).1 ∧ n ≤ (introL (.vw rs) q j n (T :: Ts) (p :: ps)).2.2 ∧ (∀ k, k < n → ϕ' k = ϕ k) := by
        intro x he hq' hx hlt hok
        obtain ⟨β', ϕ', a1, a2, a3, a5, a6, a7, a8, a9⟩ := ih ps vs' f2 (j + 1) n A β ϕ h2 hp hb (hv.mono fun b hb => by simp [hb]) hq'
        rw [he]
        exact ⟨β', ϕ', a1, a2, a3, by simp [SV.vals, hx, a5], ⟨hlt _, a6⟩, ⟨hok _, a7⟩, a8, a9⟩
      cases T with
      | int k =>
        obtain ⟨m, rfl, rfl, hr, rfl⟩ := h1.int_inv
        exact scal (.int k m) rfl hq (fun _ => rfl) (fun _ => trivial) (fun _ => hr)
      | bool =>
        obtain ⟨m, rfl, rfl, rfl⟩ := h1.bool_inv
        exact scal (.bool m) rfl hq (fun _ => rfl) (fun _ => trivial) (fun _ => trivial)
      | str =>
        obtain ⟨m, rfl, rfl, hr, rfl⟩ := h1.str_inv
        exact scal (.str m) rfl hq (fun _ => rfl) (fun _ => trivial) (fun _ => hr)
      | list T =>
        obtain ⟨es, rfl⟩ : ∃ es, p = .list es := by cases h1 <;> exact ⟨_, rfl⟩
        simp only [PthsOk] at hq
        have hv1 : ViewOk B F A ϕ n f1 rs := hv.mono fun b hb => by simp [hb]
        have hv2 : ViewOk B F A ϕ n f2 rs := hv.mono fun b hb => by simp [hb]
        obtain ⟨c1, c2⟩ := add_view (T := T) (es := es) (v := v) (p := q j) hp hb h1 hv1 hq.1
        have hlk : ∀ r ∈ rs, lk ((n, HL.arr (.vw rs) T es (q j)) :: A) r = lk A r ∧ upd β n (gv v) r = β r := fun r hr => by
          have := hv.lt r hr
          exact ⟨by rw [lk_cons', if_neg (by omega)], upd_lt _ _ _ this⟩
        obtain ⟨β', ϕ', a1, a2, a3, a5, a6, a7, a8, a9⟩ := ih ps vs' f2 (j + 1) (n + 1) _ _ _ h2 c1 c2 (ViewOk.add (v := gv v) hb hv2) (PthsOk.congr hlk hq.2)
        refine ⟨β', ϕ', ?_, ?_, fun k hk => (a3 k (by omega)).trans (upd_lt _ _ _ hk), ?_, ?_, ?_, ?_, fun k hk => (a9 k (by omega)).trans (upd_lt _ _ _ hk)⟩
        · simpa [introL, PV.L, List.append_assoc] using a1
        · simpa [introL, PV.L, List.append_assoc] using a2
        · simp only [introL, SV.vals, SV.val, a5, a3 n (by omega), upd_eq]; rfl
        · exact ⟨by simp only [SV.lt, introL]; omega, a6⟩
        · exact ⟨trivial, a7⟩
        · simp only [introL]; omega
      | agg ts => cases h1
      | box ts => cases h1
      | abx ts => cases h1
      | fn f ts => cases h1
      | opq => cases h1

/-- The outcome of laying pure values as new handles; G is kept apart. -/
structure Laid (B : Nat) (X F : List Nat) (A' : Hp) (β β' : Nat → GV) (ϕ ϕ' : Nat → List Nat) (w : World) (n n' : Nat) (xs : List SV) (vs : List Value) (G : List Nat) : Prop where
  hp : Holds B X F A' β' ϕ' w
  hb : Bd n' β' A'
  bt : ∀ k, k < n → β' k = β k
  ft : ∀ k, k < n → ϕ' k = ϕ k
  vals : SV.vals β' xs = vs
  lts : SV.lts n' xs
  oks : SV.oks β' xs
  le : n ≤ n'
  ap : Apart A' ϕ' G

theorem add_own {n : Nat} {T : PTy} {es : List PV} {v : Value} {f G : List Nat} (hp : Holds B X F A β ϕ w) (hb : Bd n β A) (ho : OwnD w v T es f) (hn : (f ++ G).Nodup) (hw : ∀ b ∈ f, (b ∈ X ∨ B ≤ b) ∧ (b ∈ F ∨ B ≤ b)) (hd : Apart A ϕ (f ++ G)) :
    Holds B X F ((n, .arr .dp T es .no) :: A) (upd β n (gv v)) (upd ϕ n f) w ∧ Bd (n + 1) (upd β n (gv v)) ((n, .arr .dp T es .no) :: A) ∧ Apart ((n, .arr .dp T es .no) :: A) (upd ϕ n f) G := by
  obtain ⟨hn1, hn2, hn3⟩ := List.nodup_append.1 hn
  refine ⟨hp.add hb (lv_one1 ho.lv) ho (fun b hb => (hw b hb).1) (fun _ b hb => (hw b hb).2) hn1 ?_ ?_ trivial (by simp [roots]) (by simp [roots]), hb_add hb trivial, ?_⟩
  · exact hd.mono fun b hb => by simp only [owned] at hb; simp [hb]
  · intro i hl hi _ b hb' hm
    by_cases hdd : hl = .dead
    · subst hdd; simp [owned] at hb'
    · exact hd i hl hi hdd b (owned_sub b hb') (by simp [hm])
  · refine apart_put (hd.mono fun b hb => by simp [hb]) (fun i => lk_cons' A i) fun b hb hm => hn3 b hb b hm rfl

/-- Owned leaves laid as new handles. -/
theorem introL_own (q : Nat → Pth) (hq : ∀ j, q j = .no) : ∀ (Ts : List PTy) (ps : List PV) (vs : List Value) (fs : List (List Nat)) (G : List Nat) (j n : Nat) (A : Hp) (β : Nat → GV) (ϕ : Nat → List Nat), LoD w Ts ps vs fs → Holds B X F A β ϕ w → Bd n β A →
    (fs.flatten ++ G).Nodup → (∀ b ∈ fs.flatten, (b ∈ X ∨ B ≤ b) ∧ (b ∈ F ∨ B ≤ b)) → Apart A ϕ (fs.flatten ++ G) →
    ∃ β' ϕ', Laid B X F ((introL .dp q j n Ts ps).2.1 ++ A) β β' ϕ ϕ' w n (introL .dp q j n Ts ps).2.2 (introL .dp q j n Ts ps).1 vs G := by
  intro Ts
  induction Ts with
  | nil =>
    intro ps vs fs G j n A β ϕ hL hp hb hn hw hd
    cases hL
    exact ⟨β, ϕ, hp, hb, fun _ _ => rfl, fun _ _ => rfl, rfl, trivial, trivial, Nat.le_refl _, (by simpa using hd : Apart A ϕ G)⟩
  | cons T Ts ih =>
    intro ps vs fs G j n A β ϕ hL hp hb hn hw hd
    have scal : ∀ (x : SV) (p : PV) (ps' : List PV) (v : Value) (vs' : List Value) (fs' : List (List Nat)), ps = p :: ps' → vs = v :: vs' → fs = [] :: fs' → LoD w Ts ps' vs' fs' → (introL .dp q j n (T :: Ts) ps) = (x :: (introL .dp q (j + 1) n Ts ps').1, (introL .dp q (j + 1) n Ts ps').2.1, (introL .dp q (j + 1) n Ts ps').2.2) → (∀ β, SV.val β x = v) → (∀ m, SV.lt m x) → (∀ β, SV.ok β x) →
        ∃ β' ϕ', Laid B X F ((introL .dp q j n (T :: Ts) ps).2.1 ++ A) β β' ϕ ϕ' w n (introL .dp q j n (T :: Ts) ps).2.2 (introL .dp q j n (T :: Ts) ps).1 vs G := by
      rintro x p ps' v vs' fs' rfl rfl rfl hL he hx hlt hok
      obtain ⟨β', ϕ', a1, a2, a3, a4, a5, a6, a7, a8, a9⟩ := ih ps' vs' fs' G (j + 1) n A β ϕ hL hp hb (by simpa using hn) (by simpa using hw) (by simpa using hd)
      rw [he]
      exact ⟨β', ϕ', a1, a2, a3, a4, by simp [SV.vals, hx, a5], ⟨hlt _, a6⟩, ⟨hok _, a7⟩, a8, a9⟩
    cases hL with
    | int h1 hL => exact scal (.int _ _) _ _ _ _ _ rfl rfl rfl hL rfl (fun _ => rfl) (fun _ => trivial) (fun _ => h1)
    | bool hL => exact scal (.bool _) _ _ _ _ _ rfl rfl rfl hL rfl (fun _ => rfl) (fun _ => trivial) (fun _ => trivial)
    | str h1 hL => exact scal (.str _) _ _ _ _ _ rfl rfl rfl hL rfl (fun _ => rfl) (fun _ => trivial) (fun _ => h1)
    | @list T es v f _ ps' vs' fs' hO hL =>
      simp only [List.flatten_cons, List.append_assoc] at hn hd hw
      obtain ⟨c1, c2, c3⟩ := add_own (n := n) hp hb hO hn (fun b hb => hw b (by simp [hb])) hd
      obtain ⟨β', ϕ', a1, a2, a3, a4, a5, a6, a7, a8, a9⟩ := ih ps' vs' fs' G (j + 1) (n + 1) _ _ _ hL c1 c2 (List.nodup_append.1 hn).2.1 (fun b hb => hw b (by simp only [List.mem_append]; exact .inr hb)) c3
      refine ⟨β', ϕ', ?_, ?_, fun k hk => (a3 k (by omega)).trans (upd_lt _ _ _ hk), fun k hk => (a4 k (by omega)).trans (upd_lt _ _ _ hk), ?_, ?_, ?_, ?_, ?_⟩
      · simpa [introL, PV.L, hq, List.append_assoc] using a1
      · simpa [introL, PV.L, hq, List.append_assoc] using a2
      · simp only [introL, SV.vals, SV.val, a5, a3 n (by omega), upd_eq]; rfl
      · exact ⟨by simp only [SV.lt, introL]; omega, a6⟩
      · exact ⟨trivial, a7⟩
      · simp only [introL]; omega
      · simpa [introL, PV.L, hq, List.append_assoc] using a9

/-- Flat leaves need no handles. -/
theorem introL_flat (o : Own) (q : Nat → Pth) : ∀ {Ts : List PTy} {ps : List PV} {vs : List Value} {f : List Nat}, Lv w Ts ps vs f → (∀ t ∈ Ts, t = .bool ∨ t = .str ∨ ∃ k, t = .int k) → ∀ (j n : Nat),
    (introL o q j n Ts ps).2 = ([], n) ∧ SV.vals β (introL o q j n Ts ps).1 = vs ∧ (∀ m, SV.lts m (introL o q j n Ts ps).1) ∧ SV.oks β (introL o q j n Ts ps).1 := by
  intro Ts ps vs f h
  induction h with
  | nil => intro _ j n; exact ⟨rfl, rfl, fun _ => trivial, trivial⟩
  | int h1 _ ih =>
    intro hh j n
    obtain ⟨a1, a2, a3, a4⟩ := ih (fun t ht => hh t (by simp [ht])) (j + 1) n
    simp only [Prod.ext_iff] at a1
    exact ⟨by simp [introL, a1.1, a1.2], by simp [introL, SV.vals, SV.val, PV.I, a2], fun m => ⟨trivial, a3 m⟩, ⟨h1, a4⟩⟩
  | bool _ ih =>
    intro hh j n
    obtain ⟨a1, a2, a3, a4⟩ := ih (fun t ht => hh t (by simp [ht])) (j + 1) n
    simp only [Prod.ext_iff] at a1
    exact ⟨by simp [introL, a1.1, a1.2], by simp [introL, SV.vals, SV.val, PV.B, a2], fun m => ⟨trivial, a3 m⟩, ⟨trivial, a4⟩⟩
  | str h1 _ ih =>
    intro hh j n
    obtain ⟨a1, a2, a3, a4⟩ := ih (fun t ht => hh t (by simp [ht])) (j + 1) n
    simp only [Prod.ext_iff] at a1
    exact ⟨by simp [introL, a1.1, a1.2], by simp [introL, SV.vals, SV.val, PV.S, a2], fun m => ⟨trivial, a3 m⟩, ⟨h1, a4⟩⟩
  | empty _ _ => intro hh; have := hh _ List.mem_cons_self; simp at this
  | list _ _ _ _ _ _ _ _ => intro hh; have := hh _ List.mem_cons_self; simp at this

end
end Go.Proofs.Ytmjjdfhpnckacab
