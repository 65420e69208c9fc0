/-
  Parts of arrays that take their place; lists that go into arrays, or stay as they are.
  Conditions: none.
-/
import Derived.Test.YtmjjdfhpnckacabOpD
namespace Go.Proofs.Ytmjjdfhpnckacab
set_option linter.unusedVariables false
section
variable {P : Program} {E : Env} {N : Nat} {w0 : World} {X F : List Nat} {S : St} {β : Nat → GV} {ϕ : Nat → List Nat} {a : Act} {w w' : World} {o : Oper} {R : RR} {A A' : Hp} {B : Nat}

theorem resL_sound {t : PTy} {x : SV} {ob : Prop} {p : PV} (h : resL A t x = some (ob, p)) (hob : ob) (hp : Holds B X F A β ϕ w) (hk : SV.ok β x) :
    ∃ f, Lv w [t] [p] [SV.val β x] f ∧ ∀ b ∈ f, ∃ i ∈ slsOf [x], ∃ hl, lk A i = some hl ∧ hl ≠ .dead ∧ b ∈ ϕ i := by
  cases t <;> cases x <;> simp only [resL, reduceCtorEq, Option.some.injEq, Prod.mk.injEq] at h
  case int.int k k' n => obtain ⟨rfl, rfl⟩ := h; subst hob; exact ⟨[], .int hk .nil, by simp⟩
  case bool.bool b => obtain ⟨rfl, rfl⟩ := h; exact ⟨[], .bool .nil, by simp⟩
  case str.str l => obtain ⟨rfl, rfl⟩ := h; exact ⟨[], .str hk .nil, by simp⟩
  case list.sl T i =>
    split at h
    · cases h
    · rename_i o T' es p hn hl
      simp only [Option.some.injEq, Prod.mk.injEq] at h
      obtain ⟨rfl, rfl⟩ := h
      subst hob
      exact ⟨ϕ i, hp_lv hp hl (fun k e => hn k (by rw [e])), fun b hb => ⟨i, by simp [slsOf], _, hl, by simp, hb⟩⟩
    · cases h
  case list.nils T => obtain ⟨rfl, rfl⟩ := h; exact ⟨[], .empty .nil, by simp⟩

theorem resLs_sound : ∀ {ts : List PTy} {xs : List SV} {ob : Prop} {ps : List PV}, resLs A ts xs = some (ob, ps) → ob → Holds B X F A β ϕ w → SV.oks β xs →
    ∃ f, Lv w ts ps (SV.vals β xs) f ∧ ∀ b ∈ f, ∃ i ∈ slsOf xs, ∃ hl, lk A i = some hl ∧ hl ≠ .dead ∧ b ∈ ϕ i
  | [], [], ob, ps, h, hob, hp, hk => by cases h; exact ⟨[], .nil, by simp⟩
  | [], x :: xs, ob, ps, h, hob, hp, hk => by cases h
  | t :: ts, [], ob, ps, h, hob, hp, hk => by cases h
  | t :: ts, x :: xs, ob, ps, h, hob, hp, hk => by
    simp only [resLs] at h
    split at h
    · rename_i o1 p o2 qs h1 h2
      cases h
      obtain ⟨f1, q1, q2⟩ := resL_sound h1 hob.1 hp hk.1
      obtain ⟨f2, r1, r2⟩ := resLs_sound h2 hob.2 hp hk.2
      refine ⟨f1 ++ f2, q1.cons r1, fun b hb => ?_⟩
      rcases List.mem_append.1 hb with hb | hb
      · obtain ⟨i, hi, e⟩ := q2 b hb
        refine ⟨i, ?_, e⟩
        cases x <;> simp [slsOf] at hi ⊢
        exact .inl hi
      · obtain ⟨i, hi, e⟩ := r2 b hb
        refine ⟨i, ?_, e⟩
        cases x <;> simp [slsOf, hi]
    · cases h

/-- The same contents, held as may be. -/
def Alike : HL → HL → Prop
  | .arr o T es _, .arr o' T' es' _ => T = T' ∧ es = es' ∧ (∀ k, o = .cs k → o' = .cs k) ∧ ((∃ k, o' = .cs k) → ∃ k, o = .cs k)
  | x, y => x = y

theorem Alike.refl (x : HL) : Alike x x := by
  cases x <;> simp [Alike]

theorem Alike.trans {x y z : HL} (h : Alike x y) (h' : Alike y z) : Alike x z := by
  cases x <;> cases y <;> cases z <;> simp only [Alike, reduceCtorEq] at * <;> (try exact h.trans h')
  obtain ⟨rfl, rfl, a, b⟩ := h
  obtain ⟨rfl, rfl, c, d⟩ := h'
  exact ⟨rfl, rfl, fun k e => c k (a k e), fun e => b (d e)⟩

/-- A part of an owned array, as an array. -/
theorem sub_own {L : List PTy → List PV → List Value → List Nat → Prop} (hL0 : LOk w L) {v v' : Value} {T : PTy} {es es' : List PV} {f : List Nat} {lo : Nat} (h : OwnG L w v T es' f) (hlo : lo + es.length ≤ es'.length) (hes : es = (es'.drop lo).take es.length) (hv : subV v v' lo es.length T.wd) :
    ∃ f', OwnG L w v' T es f' ∧ (∀ b ∈ f', b ∈ f) ∧ (f.Nodup → f'.Nodup) ∧ ((∀ b r, f = b :: r → b ∉ r) → ∀ b r, f' = b :: r → b ∉ r) ∧ f'.take 1 = f.take 1 := by
  obtain ⟨ad, l, cap, rfl, rfl⟩ := hv
  rcases h with ⟨rfl, rfl, a, h⟩ | ⟨b, f1, cs, rfl, ⟨⟨o, cap', c, t, fr, hv, hblk, hcap, hle, hmx, hfz, hcs⟩, hlen, hlim⟩, hS, hL⟩
  · simp only [Value.slice.injEq] at h
    obtain ⟨rfl, rfl, rfl⟩ := h
    simp only [List.length_nil] at hlo
    have h0 : es = [] := List.eq_nil_of_length_eq_zero (by omega)
    have hl0 : lo = 0 := by omega
    subst h0; subst hl0
    exact ⟨[], .inl ⟨rfl, rfl, ad, by simp⟩, by simp, by simp, by simp, rfl⟩
  · simp only [Value.slice.injEq] at hv
    obtain ⟨rfl, rfl, rfl⟩ := hv
    have e1 : es' = es'.take lo ++ (es ++ es'.drop (lo + es.length)) := by
      conv => lhs; rw [← List.take_append_drop lo es']
      congr 1
      rw [← List.drop_drop]
      conv => lhs; rw [← List.take_append_drop es.length (es'.drop lo), ← hes]
    have e2 : flatT T es'.length = flatT T lo ++ (flatT T es.length ++ flatT T (es'.length - (lo + es.length))) := by
      rw [← flatT_add, ← flatT_add]; congr 1; omega
    have hP : flatP es' = flatP (es'.take lo) ++ (flatP es ++ flatP (es'.drop (lo + es.length))) := by
      conv => lhs; rw [e1]
      rw [flatP_append, flatP_append]
    have l1 : (flatP (es'.take lo)).length = lo * T.wd := by
      rw [flatP_len fun x hx => hS x (List.mem_of_mem_take hx)]; simp; rw [Nat.min_eq_left (by omega)]
    have hSs : ∀ e ∈ es, Shp T e := fun x hx => by rw [hes] at hx; exact hS x (List.mem_of_mem_drop (List.mem_of_mem_take hx))
    have l2 : (flatP es).length = es.length * T.wd := flatP_len hSs
    rw [e2, hP] at hL
    obtain ⟨v1, v23, g1, g23, rfl, rfl, q1, q23⟩ := hL0.split hL (by rw [flatT_len, l1])
    obtain ⟨v2, v3, g2, g3, rfl, rfl, q2, q3⟩ := hL0.split q23 (by rw [flatT_len, l2])
    have k1 : v1.length = lo * T.wd := by rw [(hL0.lv q1).lens.2, l1]
    have k2 : v2.length = es.length * T.wd := by rw [(hL0.lv q2).lens.2, l2]
    have hcells : (c.toList.drop (o + lo * T.wd)).take v2.length = v2 := by
      have h3 : ((c.toList.drop o).take (v1 ++ (v2 ++ v3)).length).drop (lo * T.wd) = v2 ++ v3 := by
        rw [hcs, ← k1]; simp
      rw [List.drop_take, List.drop_drop] at h3
      have h4 := congrArg (List.take v2.length) h3
      rw [List.take_take] at h4
      have h5 : min v2.length ((v1 ++ (v2 ++ v3)).length - lo * T.wd) = v2.length := by
        simp only [List.length_append]; omega
      rw [h5] at h4
      simpa using h4
    refine ⟨b :: g2, .inr ⟨b, g2, v2, rfl, ⟨?_, k2, by omega⟩, hSs, q2⟩, ?_, ?_, ?_, rfl⟩
    · by_cases hcl : cap = lo
      · have h0 : es = [] := List.eq_nil_of_length_eq_zero (by omega)
        subst h0
        have : v2 = [] := List.eq_nil_of_length_eq_zero (by simpa using k2)
        subst this
        exact ⟨o, 0, c, t, fr, by simp [hcl], hblk, by have : 0 * T.wd = 0 := Nat.zero_mul _; omega, by simp, Nat.zero_le _, hfz, by simp⟩
      · refine ⟨o + lo * T.wd, cap - lo, c, t, fr, by rw [if_neg hcl]; simp [addr_add], hblk, ?_, by omega, by omega, hfz, hcells⟩
        have : lo * T.wd + (cap - lo) * T.wd = cap * T.wd := by rw [← Nat.add_mul]; congr 1; omega
        omega
    · intro x hx; simp at hx ⊢; rcases hx with rfl | hx
      · exact .inl rfl
      · exact .inr (.inr (.inl hx))
    · intro hn
      obtain ⟨n1, n2⟩ := List.nodup_cons.1 hn
      refine List.nodup_cons.2 ⟨fun hm => n1 (by simp [hm]), ?_⟩
      exact (List.nodup_append.1 (List.nodup_append.1 n2).2.1).1
    · intro hn b' r' e
      cases e
      intro hm
      exact hn b _ rfl (by simp [hm])

theorem prom_sound {n : Nat} (hp : Holds B X F A β ϕ w) (hb : Bd n β A) (h : Nat) : ∃ ϕ', Holds B X F (prom A h) β ϕ' w ∧ Bd n β (prom A h) ∧ (∀ j hl, lk (prom A h) j = some hl → hl ≠ .dead → ∃ hl0, lk A j = some hl0 ∧ Alike hl hl0) ∧
    (∀ j hl, lk (prom A h) j = some hl → hl ≠ .dead → ∀ b ∈ ϕ' j, ∃ i hl0, lk A i = some hl0 ∧ hl0 ≠ .dead ∧ b ∈ ϕ i) ∧ (∀ j, lk A j = none → lk (prom A h) j = none) ∧
    (∀ j t o cs, lk A j = some (.box o t cs) → lk (prom A h) j = some (.box o t cs) ∧ ϕ' j = ϕ j) ∧ (∀ j o T cs, lk A j = some (.abx o T cs) → lk (prom A h) j = some (.abx o T cs) ∧ ϕ' j = ϕ j) := by
  have idle : ∃ ϕ', Holds B X F A β ϕ' w ∧ Bd n β A ∧ (∀ j hl, lk A j = some hl → hl ≠ .dead → ∃ hl0, lk A j = some hl0 ∧ Alike hl hl0) ∧
    (∀ j hl, lk A j = some hl → hl ≠ .dead → ∀ b ∈ ϕ' j, ∃ i hl0, lk A i = some hl0 ∧ hl0 ≠ .dead ∧ b ∈ ϕ i) ∧ (∀ j, lk A j = none → lk A j = none) ∧
    (∀ j t o cs, lk A j = some (.box o t cs) → lk A j = some (.box o t cs) ∧ ϕ' j = ϕ j) ∧ (∀ j o T cs, lk A j = some (.abx o T cs) → lk A j = some (.abx o T cs) ∧ ϕ' j = ϕ j) :=
    ⟨ϕ, hp, hb, fun j hl hj _ => ⟨hl, hj, .refl _⟩, fun j hl hj hd b hb => ⟨j, hl, hj, hd, hb⟩, fun j hj => hj, fun j t o cs hj => ⟨hj, rfl⟩, fun j o T cs hj => ⟨hj, rfl⟩⟩
  have main : ∀ (rs : List Nat) (T : PTy) (es : List PV) (r lo : Nat) (m : Own) (hm : m = .dp ∨ m = .sh) (T' : PTy) (es1 : List PV) (p1 : Pth), lk A h = some (.arr (.vw rs) T es (.sub r lo)) → lk A r = some (.arr m T' es1 p1) →
      ∃ ϕ', Holds B X F (set1 (strike [r] A) h (.arr m T es .no)) β ϕ' w ∧ Bd n β (set1 (strike [r] A) h (.arr m T es .no)) ∧ (∀ j hl, lk (set1 (strike [r] A) h (.arr m T es .no)) j = some hl → hl ≠ .dead → ∃ hl0, lk A j = some hl0 ∧ Alike hl hl0) ∧
      (∀ j hl, lk (set1 (strike [r] A) h (.arr m T es .no)) j = some hl → hl ≠ .dead → ∀ b ∈ ϕ' j, ∃ i hl0, lk A i = some hl0 ∧ hl0 ≠ .dead ∧ b ∈ ϕ i) ∧ (∀ j, lk A j = none → lk (set1 (strike [r] A) h (.arr m T es .no)) j = none) ∧
      (∀ j t o cs, lk A j = some (.box o t cs) → lk (set1 (strike [r] A) h (.arr m T es .no)) j = some (.box o t cs) ∧ ϕ' j = ϕ j) ∧ (∀ j o T0 cs, lk A j = some (.abx o T0 cs) → lk (set1 (strike [r] A) h (.arr m T es .no)) j = some (.abx o T0 cs) ∧ ϕ' j = ϕ j) := by
    intro rs T es r lo m hm T' es1 p1 hh hr
    obtain ⟨h1, es', p', h2, h3, h4, h5⟩ := hp.pt _ _ hh
    have hown : (m = .dp ∧ OwnD w (β r).v T es' (ϕ r) ∧ lk A r = some (.arr .dp T es' p')) ∨ (m = .sh ∧ OwnS w (β r).v T es' (ϕ r) ∧ lk A r = some (.arr .sh T es' p')) := by
      rcases h2 with h2 | h2
      · rw [h2] at hr; cases hr; exact .inl ⟨rfl, hp.sat _ _ h2, h2⟩
      · rw [h2] at hr; cases hr; exact .inr ⟨rfl, hp.sat _ _ h2, h2⟩
    have hrh : r ≠ h := by
      intro e; subst e
      rcases h2 with h2 | h2 <;> (rw [h2] at hh; cases hh)
    obtain ⟨f', o1, o2, o3, o4, o5⟩ : ∃ f', HLSat w (β h) β f' (.arr m T es .no) ∧ (∀ b ∈ f', b ∈ ϕ r) ∧ ((ϕ r).Nodup → f'.Nodup) ∧ ((∀ b r', ϕ r = b :: r' → b ∉ r') → ∀ b r', f' = b :: r' → b ∉ r') ∧ f'.take 1 = (ϕ r).take 1 := by
      rcases hown with ⟨rfl, ho, _⟩ | ⟨rfl, ho, _⟩
      · exact sub_own (lok_lo w) ho h3 h4 h5
      · exact sub_own (lok_lv w) ho h3 h4 h5
    have hrA : lk A r = some (.arr m T es' p') := by rcases hown with ⟨rfl, _, h⟩ | ⟨rfl, _, h⟩ <;> exact h
    have hnd : ndOk f' (.arr m T es .no) := by
      have := hp.nd _ _ hrA
      rcases hm with rfl | rfl
      · exact o3 this
      · exact o4 this
    have hos : ∀ b ∈ owned f' (.arr m T es .no), b ∈ owned (ϕ r) (.arr m T es' p') := by
      intro b hb
      rcases hm with rfl | rfl
      · exact o2 b hb
      · simp only [owned] at hb ⊢; rw [← o5]; exact hb
    have ap : Apart (strike [r] A) ϕ (owned (ϕ r) (.arr m T es' p')) := strike_apart hp fun b hb => ⟨r, by simp, _, hrA, hb⟩
    have hdead : ∀ hl, lk (strike [r] A) h = some hl → hl = .dead := by
      intro hl hj
      by_cases hd : hl = .dead
      · exact hd
      · obtain ⟨e1, e2, e3⟩ := strike_lk hj hd
        rw [hh] at e1; cases e1
        exact absurd (by simp) (e3 r h1)
    have hput := (hp.struck [r]).put (A' := set1 (strike [r] A) h (.arr m T es .no)) (fun j => lk_set1' _ _ _) hdead o1 (fun b hb => hp.own _ _ hrA b (hos b hb)) (fun _ b hb => hp.all _ _ hrA (by rcases hm with rfl | rfl <;> trivial) b (o2 b hb)) hnd (ap.mono hos)
      (fun i hl hi _ b hb hm2 => by
        by_cases hd : hl = .dead
        · subst hd; simp [owned] at hb
        · obtain ⟨e1, e2, e3⟩ := strike_lk hi hd
          exact hp.dj i r hl _ e1 hrA (by simpa using e2) (by rcases hm with rfl | rfl <;> simp [roots]) (by simp) b hb (o2 b hm2))
      (by rcases hm with rfl | rfl <;> trivial) (fun _ _ _ e => by cases e) (by rcases hm with rfl | rfl <;> simp [roots])
    have hcase : ∀ j hl, lk (set1 (strike [r] A) h (.arr m T es .no)) j = some hl → hl ≠ .dead → (j = h ∧ hl = .arr m T es .no) ∨ (j ≠ h ∧ j ≠ r ∧ lk A j = some hl) := by
      intro j hl hj hd
      rw [lk_set1'] at hj
      split at hj
      · rename_i e; cases hj; exact .inl ⟨e, rfl⟩
      · rename_i e
        obtain ⟨e1, e2, _⟩ := strike_lk hj hd
        exact .inr ⟨e, by simpa using e2, e1⟩
    refine ⟨_, hput, bd_put (strike_bd hb _) (fun j => lk_set1' _ _ _) (hb _ _ hh).1 (by rcases hm with rfl | rfl <;> trivial), ?_, ?_, ?_, ?_, ?_⟩
    · intro j hl hj hd
      rcases hcase j hl hj hd with ⟨rfl, rfl⟩ | ⟨_, _, e⟩
      · refine ⟨_, hh, ?_⟩
        exact ⟨rfl, rfl, fun k e => (by rcases hm with rfl | rfl <;> cases e), fun ⟨k, e⟩ => (by cases e)⟩
      · exact ⟨hl, e, .refl _⟩
    · intro j hl hj hd b hb'
      rcases hcase j hl hj hd with ⟨rfl, rfl⟩ | ⟨hne, _, e⟩
      · rw [upd_eq] at hb'; exact ⟨r, _, hrA, by simp, o2 b hb'⟩
      · rw [upd_ne _ _ _ hne] at hb'; exact ⟨j, hl, e, hd, hb'⟩
    · intro j hj
      have : j ≠ h := fun e => by subst e; rw [hh] at hj; cases hj
      rw [lk_set1', if_neg this, lk_strike, hj]; rfl
    · intro j t o cs hj
      have h6 : j ≠ h := fun e => by subst e; rw [hh] at hj; cases hj
      have h7 : j ≠ r := fun e => by subst e; rw [hrA] at hj; cases hj
      exact ⟨by rw [lk_set1', if_neg h6]; exact strike_live hj (by simpa using h7) (by simp [roots]), upd_ne _ _ _ h6⟩
    · intro j o T0 cs hj
      have h6 : j ≠ h := fun e => by subst e; rw [hh] at hj; cases hj
      have h7 : j ≠ r := fun e => by subst e; rw [hrA] at hj; cases hj
      exact ⟨by rw [lk_set1', if_neg h6]; exact strike_live hj (by simpa using h7) (by simp [roots]), upd_ne _ _ _ h6⟩
  unfold prom
  split
  · rename_i rs T es r lo hh
    split
    · rename_i T' es1 p1 hr
      exact main rs T es r lo .dp (.inl rfl) T' es1 p1 hh hr
    · rename_i T' es1 p1 hr
      exact main rs T es r lo .sh (.inr rfl) T' es1 p1 hh hr
    · exact idle
  · exact idle

theorem proms_sound : ∀ (hs : List Nat) {A : Hp} {ϕ : Nat → List Nat} {n : Nat}, Holds B X F A β ϕ w → Bd n β A → ∃ ϕ', Holds B X F (proms A hs) β ϕ' w ∧ Bd n β (proms A hs) ∧ (∀ j hl, lk (proms A hs) j = some hl → hl ≠ .dead → ∃ hl0, lk A j = some hl0 ∧ Alike hl hl0) ∧
    (∀ j hl, lk (proms A hs) j = some hl → hl ≠ .dead → ∀ b ∈ ϕ' j, ∃ i hl0, lk A i = some hl0 ∧ hl0 ≠ .dead ∧ b ∈ ϕ i) ∧ (∀ j, lk A j = none → lk (proms A hs) j = none) ∧
    (∀ j t o cs, lk A j = some (.box o t cs) → lk (proms A hs) j = some (.box o t cs) ∧ ϕ' j = ϕ j) ∧ (∀ j o T cs, lk A j = some (.abx o T cs) → lk (proms A hs) j = some (.abx o T cs) ∧ ϕ' j = ϕ j)
  | [], A, ϕ, n, hp, hb => ⟨ϕ, hp, hb, fun j hl hj _ => ⟨hl, hj, .refl _⟩, fun j hl hj hd b hb => ⟨j, hl, hj, hd, hb⟩, fun j hj => hj, fun j t o cs hj => ⟨hj, rfl⟩, fun j o T cs hj => ⟨hj, rfl⟩⟩
  | h :: hs, A, ϕ, n, hp, hb => by
    obtain ⟨ϕ1, a1, a2, a3, a4, a5, a6, a7⟩ := prom_sound hp hb h
    obtain ⟨ϕ2, b1, b2, b3, b4, b5, b6, b7⟩ := proms_sound hs a1 a2
    refine ⟨ϕ2, b1, b2, ?_, ?_, fun j hj => b5 j (a5 j hj), fun j t o cs hj => ⟨(b6 j t o cs (a6 j t o cs hj).1).1, (b6 j t o cs (a6 j t o cs hj).1).2.trans (a6 j t o cs hj).2⟩, fun j o T cs hj => ⟨(b7 j o T cs (a7 j o T cs hj).1).1, (b7 j o T cs (a7 j o T cs hj).1).2.trans (a7 j o T cs hj).2⟩⟩
    · intro j hl hj hd
      obtain ⟨hl1, e1, e2⟩ := b3 j hl hj hd
      have hd1 : hl1 ≠ .dead := by
        intro e; subst e
        cases hl <;> simp [Alike] at e2; exact hd rfl
      obtain ⟨hl0, e3, e4⟩ := a3 j hl1 e1 hd1
      exact ⟨hl0, e3, e2.trans e4⟩
    · intro j hl hj hd b hb'
      obtain ⟨i, hl1, e1, e2, e3⟩ := b4 j hl hj hd b hb'
      exact a4 i hl1 e1 e2 b e3

/-- What fixing leaves of a handle: as it was, but for how it is held and its path. -/
theorem unpath_alike (hs : List Nat) (x : HL) : (∀ f, owned f (unpath hs x) = owned f x) ∧ roots (unpath hs x) = roots x ∧ (unpath hs x = .dead ↔ x = .dead) ∧ (∀ f, ndOk f (unpath hs x) ↔ ndOk f x) ∧ (∀ (w : World) g β f, HLSat w g β f (unpath hs x) ↔ HLSat w g β f x) ∧ (∀ o t cs, unpath hs x = .box o t cs ↔ x = .box o t cs) ∧ Alike (unpath hs x) x := by
  have idle : unpath hs x = x → (∀ f, owned f (unpath hs x) = owned f x) ∧ roots (unpath hs x) = roots x ∧ (unpath hs x = .dead ↔ x = .dead) ∧ (∀ f, ndOk f (unpath hs x) ↔ ndOk f x) ∧ (∀ (w : World) g β f, HLSat w g β f (unpath hs x) ↔ HLSat w g β f x) ∧ (∀ o t cs, unpath hs x = .box o t cs ↔ x = .box o t cs) ∧ Alike (unpath hs x) x := by
    intro e; rw [e]; exact ⟨fun _ => rfl, rfl, Iff.rfl, fun _ => Iff.rfl, fun _ _ _ _ => Iff.rfl, fun _ _ _ => Iff.rfl, .refl _⟩
  have no : ∀ rs T es p, x = .arr (.vw rs) T es p → unpath hs x = .arr (.vw rs) T es .no → (∀ f, owned f (unpath hs x) = owned f x) ∧ roots (unpath hs x) = roots x ∧ (unpath hs x = .dead ↔ x = .dead) ∧ (∀ f, ndOk f (unpath hs x) ↔ ndOk f x) ∧ (∀ (w : World) g β f, HLSat w g β f (unpath hs x) ↔ HLSat w g β f x) ∧ (∀ o t cs, unpath hs x = .box o t cs ↔ x = .box o t cs) ∧ Alike (unpath hs x) x := by
    intro rs T es p e e'
    rw [e', e]
    exact ⟨fun _ => rfl, rfl, by simp, fun _ => Iff.rfl, fun _ _ _ _ => Iff.rfl, by simp, rfl, rfl, fun k e => (by cases e), fun ⟨k, e⟩ => (by cases e)⟩
  cases x with
  | arr o T es p =>
    cases o <;> (try exact idle rfl)
    rename_i rs
    cases p with
    | no => exact idle rfl
    | el r i j =>
      by_cases h : memB hs r = true
      · exact no rs T es _ rfl (by simp [unpath, h])
      · exact idle (by simp [unpath, h])
    | sub r lo =>
      by_cases h : memB hs r = true
      · exact no rs T es _ rfl (by simp [unpath, h])
      · exact idle (by simp [unpath, h])
  | _ => exact idle rfl

theorem stillH_alike (x : HL) : (∀ f, ∀ b ∈ owned f (stillH x), b ∈ owned f x) ∧ roots (stillH x) = roots x ∧ (stillH x = .dead ↔ x = .dead) ∧ (∀ f, ndOk f x → ndOk f (stillH x)) ∧ (∀ (w : World) g β f, HLSat w g β f x → HLSat w g β f (stillH x)) ∧ (∀ o t cs, stillH x = .box o t cs ↔ x = .box o t cs) ∧ Alike (stillH x) x := by
  have idle : stillH x = x → (∀ f, ∀ b ∈ owned f (stillH x), b ∈ owned f x) ∧ roots (stillH x) = roots x ∧ (stillH x = .dead ↔ x = .dead) ∧ (∀ f, ndOk f x → ndOk f (stillH x)) ∧ (∀ (w : World) g β f, HLSat w g β f x → HLSat w g β f (stillH x)) ∧ (∀ o t cs, stillH x = .box o t cs ↔ x = .box o t cs) ∧ Alike (stillH x) x := by
    intro e; rw [e]; exact ⟨fun _ _ h => h, rfl, Iff.rfl, fun _ h => h, fun _ _ _ _ h => h, fun _ _ _ => Iff.rfl, .refl _⟩
  cases x with
  | arr o T es p =>
    cases o <;> (try exact idle rfl)
    · exact ⟨fun f b h => by simp [stillH, owned] at h, rfl, by simp [stillH], fun _ _ => trivial, fun _ _ _ _ h => OwnS.lv h, by simp [stillH], rfl, rfl, fun k e => (by cases e), fun ⟨k, e⟩ => (by cases e)⟩
    · exact ⟨fun f b h => by simp [stillH, owned] at h, rfl, by simp [stillH], fun _ _ => trivial, fun _ _ _ _ h => OwnD.lv h, by simp [stillH], rfl, rfl, fun k e => (by cases e), fun ⟨k, e⟩ => (by cases e)⟩
  | _ => exact idle rfl

theorem still_lk {hs : List Nat} {j : Nat} {hl : HL} (h : lk (still hs A) j = some hl) : ∃ hl0, lk A j = some hl0 ∧ hl = unpath hs (if memB hs j then stillH hl0 else hl0) := by
  rw [lk_still] at h
  cases hA : lk A j with
  | none => rw [hA] at h; cases h
  | some hl0 => rw [hA] at h; exact ⟨hl0, rfl, by simpa using h.symm⟩

/-- What is owned may become fixed. -/
theorem Holds.stilled (h : Holds B X F A β ϕ w) (hs : List Nat) : Holds B X F (still hs A) β ϕ w := by
  have fact : ∀ (j : Nat) (x : HL), (∀ f, ∀ b ∈ owned f (unpath hs (if memB hs j then stillH x else x)), b ∈ owned f x) ∧ roots (unpath hs (if memB hs j then stillH x else x)) = roots x ∧ (unpath hs (if memB hs j then stillH x else x) = .dead ↔ x = .dead) ∧
      (∀ f, ndOk f x → ndOk f (unpath hs (if memB hs j then stillH x else x))) ∧ (∀ (w : World) g β f, HLSat w g β f x → HLSat w g β f (unpath hs (if memB hs j then stillH x else x))) ∧ (∀ o t cs, unpath hs (if memB hs j then stillH x else x) = .box o t cs ↔ x = .box o t cs) := by
    intro j x
    obtain ⟨a1, a2, a3, a4, a5, a6, _⟩ := unpath_alike hs (if memB hs j then stillH x else x)
    split at a1 <;> split <;> (try (exfalso; simp_all; done))
    · obtain ⟨b1, b2, b3, b4, b5, b6, _⟩ := stillH_alike x
      rename_i hm _
      simp only [hm, if_true] at a2 a3 a4 a5 a6
      exact ⟨fun f b hb => b1 f b (by rw [a1] at hb; exact hb), a2.trans b2, a3.trans b3, fun f hn => (a4 f).2 (b4 f hn), fun w g β f hh => (a5 w g β f).2 (b5 w g β f hh), fun o t cs => (a6 o t cs).trans (b6 o t cs)⟩
    · rename_i hm _
      simp only [hm, if_false, Bool.false_eq_true] at a2 a3 a4 a5 a6
      exact ⟨fun f b hb => by rw [a1] at hb; exact hb, a2, a3, fun f hn => (a4 f).2 hn, fun w g β f hh => (a5 w g β f).2 hh, a6⟩
  refine ⟨h.pl, ?_, ?_, ?_, ?_, ?_, ?_, ?_⟩
  · intro j hl hj
    obtain ⟨hl0, e1, rfl⟩ := still_lk hj
    exact (fact j hl0).2.2.2.2.1 _ _ _ _ (h.sat j _ e1)
  · intro j hl hj b hb
    obtain ⟨hl0, e1, rfl⟩ := still_lk hj
    exact h.own j _ e1 b ((fact j hl0).1 _ b hb)
  · intro j hl hj hd
    obtain ⟨hl0, e1, rfl⟩ := still_lk hj
    refine h.all j _ e1 ?_
    revert hd
    cases hl0 with
    | arr o T es p => intro _; trivial
    | _ => by_cases hm : memB hs j = true <;> simp [hm, stillH, unpath, isA]
  · intro j hl hj
    obtain ⟨hl0, e1, rfl⟩ := still_lk hj
    exact (fact j hl0).2.2.2.1 _ (h.nd j _ e1)
  · intro i j hl hl' hi hj hne hnv hdd b hb
    obtain ⟨hl0, e1, rfl⟩ := still_lk hi
    obtain ⟨hl1, e3, rfl⟩ := still_lk hj
    exact h.dj i j _ _ e1 e3 hne (by rw [(fact j hl1).2.1] at hnv; exact hnv) (fun e => hdd ((fact j hl1).2.2.1.2 e)) b ((fact i hl0).1 _ b hb)
  · intro j hl hj
    obtain ⟨hl0, e1, e2⟩ := still_lk hj
    -- only a view that was one keeps a path
    cases hl with
    | arr o T es p =>
      cases o <;> (try trivial)
      rename_i rs
      cases p with
      | no => trivial
      | el r i j' =>
        have e3 : hl0 = .arr (.vw rs) T es (.el r i j') ∧ memB hs r = false := by
          cases hl0 with
          | arr o' T' es' p' =>
            cases o' <;> cases p' <;> by_cases hm : memB hs j = true <;> simp only [hm, if_true, if_false, Bool.false_eq_true, stillH, unpath] at e2 <;> (try cases e2) <;> (split at e2 <;> cases e2) <;> (rename_i hr; exact ⟨rfl, by simpa using hr⟩)
          | _ => by_cases hm : memB hs j = true <;> simp [hm, stillH, unpath] at e2
        obtain ⟨rfl, hr⟩ := e3
        obtain ⟨h1, T', es', p', h2, h3⟩ := h.pt j _ e1
        exact ⟨h1, T', es', p', by rw [lk_still, h2]; simp [hr, unpath], h3⟩
      | sub r lo =>
        have e3 : hl0 = .arr (.vw rs) T es (.sub r lo) ∧ memB hs r = false := by
          cases hl0 with
          | arr o' T' es' p' =>
            cases o' <;> cases p' <;> by_cases hm : memB hs j = true <;> simp only [hm, if_true, if_false, Bool.false_eq_true, stillH, unpath] at e2 <;> (try cases e2) <;> (split at e2 <;> cases e2) <;> (rename_i hr; exact ⟨rfl, by simpa using hr⟩)
          | _ => by_cases hm : memB hs j = true <;> simp [hm, stillH, unpath] at e2
        obtain ⟨rfl, hr⟩ := e3
        obtain ⟨h1, es', p', h2, h3⟩ := h.pt j _ e1
        refine ⟨h1, es', p', ?_, h3⟩
        rcases h2 with h2 | h2
        · exact .inl (by rw [lk_still, h2]; simp [hr, unpath])
        · exact .inr (by rw [lk_still, h2]; simp [hr, unpath])
    | _ => trivial
  · intro j hl hj r hr o t cs hb
    obtain ⟨hl0, e1, rfl⟩ := still_lk hj
    rw [(fact j hl0).2.1] at hr
    obtain ⟨hl1, e3, e4⟩ := still_lk hb
    exact h.rt j _ e1 r hr o t cs (e3.trans (by rw [(((fact r hl1).2.2.2.2.2) o t cs).1 e4.symm]))

theorem still_bd {n : Nat} (h : Bd n β A) (hs : List Nat) : Bd n β (still hs A) := by
  intro j hl hj
  obtain ⟨hl0, e1, rfl⟩ := still_lk hj
  obtain ⟨h1, h2⟩ := h j hl0 e1
  refine ⟨h1, ?_⟩
  cases hl0 with
  | arr o T es p =>
    cases o <;> cases p <;> by_cases hm : memB hs j = true <;> simp only [hm, if_true, if_false, Bool.false_eq_true, stillH, unpath] <;> (try trivial) <;> (try exact h2) <;> (try (split <;> exact h2)) <;> (intro r hr; cases hr)
  | _ => by_cases hm : memB hs j = true <;> simp only [hm, if_true, if_false, Bool.false_eq_true, stillH, unpath] <;> exact h2

/-- The footprints of the lists among cells. -/
def fsOf (ϕ : Nat → List Nat) : List SV → List (List Nat)
  | [] => []
  | .sl h :: xs => ϕ h :: fsOf ϕ xs
  | _ :: xs => [] :: fsOf ϕ xs

theorem fsOf_flat (ϕ : Nat → List Nat) : ∀ xs : List SV, (fsOf ϕ xs).flatten = ((slsOf xs).map ϕ).flatten
  | [] => rfl
  | x :: xs => by
    have ih := fsOf_flat ϕ xs
    cases x <;> simp [fsOf, slsOf, ih]

theorem resLs_own {ϕ' : Nat → List Nat} : ∀ {ts : List PTy} {xs : List SV} {ob : Prop} {ps : List PV}, resLs A ts xs = some (ob, ps) → ob → SV.oks β xs →
    (∀ h ∈ slsOf xs, ∀ o T es p, lk A h = some (.arr o T es p) → OwnD w (β h).v T es (ϕ' h)) → LoD w ts ps (SV.vals β xs) (fsOf ϕ' xs)
  | [], [], ob, ps, h, hob, hk, ho => by cases h; exact .nil
  | [], x :: xs, ob, ps, h, hob, hk, ho => by cases h
  | t :: ts, [], ob, ps, h, hob, hk, ho => by cases h
  | t :: ts, x :: xs, ob, ps, h, hob, hk, ho => by
    simp only [resLs] at h
    split at h
    · rename_i o1 p o2 qs h1 h2
      cases h
      cases t <;> cases x <;> simp only [resL, reduceCtorEq, Option.some.injEq, Prod.mk.injEq] at h1
      case int.int k k' n => obtain ⟨rfl, rfl⟩ := h1; have := hob.1; subst this; exact .int hk.1 (resLs_own h2 hob.2 hk.2 ho)
      case bool.bool b => obtain ⟨rfl, rfl⟩ := h1; exact .bool (resLs_own h2 hob.2 hk.2 ho)
      case str.str l => obtain ⟨rfl, rfl⟩ := h1; exact .str hk.1 (resLs_own h2 hob.2 hk.2 ho)
      case list.sl T i =>
        split at h1
        · cases h1
        · rename_i o T' es p hn hl
          simp only [Option.some.injEq, Prod.mk.injEq] at h1
          obtain ⟨rfl, rfl⟩ := h1
          have := hob.1; subst this
          exact .list (ho i (by simp [slsOf]) _ _ _ _ hl) (resLs_own h2 hob.2 hk.2 fun h hh => ho h (by simp [slsOf, hh]))
        · cases h1
      case list.nils T =>
        obtain ⟨rfl, rfl⟩ := h1
        exact .list (.inl ⟨rfl, rfl, none, rfl⟩) (resLs_own h2 hob.2 hk.2 ho)
    · cases h

theorem resLs_lv {ϕ' : Nat → List Nat} : ∀ {ts : List PTy} {xs : List SV} {ob : Prop} {ps : List PV}, resLs A ts xs = some (ob, ps) → ob → SV.oks β xs →
    (∀ h ∈ slsOf xs, ∀ o T es p, lk A h = some (.arr o T es p) → Lv w [.list T] [.list es] [(β h).v] (ϕ' h)) → Lv w ts ps (SV.vals β xs) (fsOf ϕ' xs).flatten
  | [], [], ob, ps, h, hob, hk, ho => by cases h; exact .nil
  | [], x :: xs, ob, ps, h, hob, hk, ho => by cases h
  | t :: ts, [], ob, ps, h, hob, hk, ho => by cases h
  | t :: ts, x :: xs, ob, ps, h, hob, hk, ho => by
    simp only [resLs] at h
    split at h
    · rename_i o1 p o2 qs h1 h2
      cases h
      cases t <;> cases x <;> simp only [resL, reduceCtorEq, Option.some.injEq, Prod.mk.injEq] at h1
      case int.int k k' n => obtain ⟨rfl, rfl⟩ := h1; have := hob.1; subst this; exact .int hk.1 (resLs_lv h2 hob.2 hk.2 ho)
      case bool.bool b => obtain ⟨rfl, rfl⟩ := h1; exact .bool (resLs_lv h2 hob.2 hk.2 ho)
      case str.str l => obtain ⟨rfl, rfl⟩ := h1; exact .str hk.1 (resLs_lv h2 hob.2 hk.2 ho)
      case list.sl T i =>
        split at h1
        · cases h1
        · rename_i o T' es p hn hl
          simp only [Option.some.injEq, Prod.mk.injEq] at h1
          obtain ⟨rfl, rfl⟩ := h1
          have := hob.1; subst this
          exact (ho i (by simp [slsOf]) _ _ _ _ hl).cons (resLs_lv h2 hob.2 hk.2 fun h hh => ho h (by simp [slsOf, hh]))
        · cases h1
      case list.nils T =>
        obtain ⟨rfl, rfl⟩ := h1
        exact (Lv.empty .nil).cons (resLs_lv h2 hob.2 hk.2 ho)
    · cases h

theorem alike_arr {hl : HL} {o : Own} {T : PTy} {es : List PV} {p : Pth} (h : Alike hl (.arr o T es p)) : ∃ o' p', hl = .arr o' T es p' := by
  cases hl <;> simp only [Alike, reduceCtorEq] at h
  obtain ⟨rfl, rfl, _⟩ := h
  exact ⟨_, _, rfl⟩
theorem alike_arr' {hl : HL} {o : Own} {T : PTy} {es : List PV} {p : Pth} (h : Alike (.arr o T es p) hl) : ∃ o' p', hl = .arr o' T es p' := by
  cases hl <;> simp only [Alike, reduceCtorEq] at h
  obtain ⟨rfl, rfl, _⟩ := h
  exact ⟨_, _, rfl⟩

theorem nodup_flat {α : Type} {f : Nat → List α} : ∀ {l : List Nat}, l.Nodup → (∀ i ∈ l, (f i).Nodup) → (∀ i ∈ l, ∀ j ∈ l, i ≠ j → ∀ b ∈ f i, b ∉ f j) → (l.map f).flatten.Nodup
  | [], _, _, _ => by simp
  | x :: l, h, h1, h2 => by
    simp only [List.map_cons, List.flatten_cons]
    rw [List.nodup_cons] at h
    refine List.nodup_append.2 ⟨h1 x (by simp), nodup_flat h.2 (fun i hi => h1 i (by simp [hi])) (fun i hi j hj => h2 i (by simp [hi]) j (by simp [hj])), ?_⟩
    intro b hb c hc e
    subst e
    simp only [List.mem_flatten, List.mem_map] at hc
    obtain ⟨_, ⟨j, hj, rfl⟩, hc⟩ := hc
    exact h2 x (by simp) j (by simp [hj]) (fun e => h.1 (e ▸ hj)) b hb hc

/-- Owned lists of a heap: apart from each other. -/
theorem dps_nodup (hp : Holds B X F A β ϕ w) {hs : List Nat} (h1 : ∀ h ∈ hs, dpB A h = true) (h2 : hs.Nodup) : (hs.map ϕ).flatten.Nodup := by
  refine nodup_flat h2 (fun i hi => ?_) (fun i hi j hj hne b hb => ?_)
  · obtain ⟨T, es, p, e⟩ := dpB_iff.1 (h1 i hi)
    exact hp.nd _ _ e
  · obtain ⟨T, es, p, e⟩ := dpB_iff.1 (h1 i hi)
    obtain ⟨T', es', p', e'⟩ := dpB_iff.1 (h1 j hj)
    exact hp.dj i j _ _ e e' hne (by simp [roots]) (by simp) b (by simpa [owned] using hb)

/-- What is known when lists have gone into an array. -/
structure Taken (B : Nat) (X F : List Nat) (A A' : Hp) (β : Nat → GV) (ϕ' : Nat → List Nat) (w : World) (n : Nat) (o' : Own) (hs : List Nat) : Prop where
  hp : Holds B X F A' β ϕ' w
  hb : Bd n β A'
  lk : ∀ j hl, lk A' j = some hl → hl ≠ .dead → ∃ hl0, Go.Proofs.Ytmjjdfhpnckacab.lk A j = some hl0 ∧ Alike hl hl0
  inb : ∀ b ∈ (hs.map ϕ').flatten, b < w.heap.size
  how : (o' = .dp ∧ (∀ h ∈ hs, ∀ o T es p, Go.Proofs.Ytmjjdfhpnckacab.lk A h = some (.arr o T es p) → OwnD w (β h).v T es (ϕ' h)) ∧ (hs.map ϕ').flatten.Nodup ∧ Apart A' ϕ' (hs.map ϕ').flatten ∧ (∀ b ∈ (hs.map ϕ').flatten, (b ∈ X ∨ B ≤ b) ∧ (b ∈ F ∨ B ≤ b))) ∨
    (o' = .sh ∧ (∀ h ∈ hs, ∀ o T es p, Go.Proofs.Ytmjjdfhpnckacab.lk A h = some (.arr o T es p) → Lv w [.list T] [.list es] [(β h).v] (ϕ' h)) ∧ (∀ i hl, Go.Proofs.Ytmjjdfhpnckacab.lk A' i = some hl → ∀ b ∈ owned (ϕ' i) hl, b ∉ (hs.map ϕ').flatten) ∧ (∀ b ∈ (hs.map ϕ').flatten, b ∈ F ∨ B ≤ b))

theorem shOk_iff {hs : List Nat} : shOk A hs → ∀ h ∈ hs, ∃ T es p, lk A h = some (.arr .dp T es p) ∨ lk A h = some (.arr (.vw []) T es p) := by
  induction hs with
  | nil => intro _ h hh; cases hh
  | cons x r ih =>
    intro h y hy
    obtain ⟨h1, h2⟩ := h
    rcases List.mem_cons.1 hy with rfl | hy
    · split at h1
      · rename_i T es p e; exact ⟨_, _, _, .inl e⟩
      · rename_i T es p e; exact ⟨_, _, _, .inr e⟩
      · exact h1.elim
    · exact ih h2 y hy

theorem takeIn_sound {n : Nat} {o : Own} {hs : List Nat} (hp : Holds B X F A β ϕ w) (hb : Bd n β A) (ho : o = .dp ∨ o = .sh) (hok : takeOk o A hs) : ∃ ϕ', Taken B X F A (takeIn o A hs).2 β ϕ' w n (takeIn o A hs).1 hs := by
  cases hs with
  | nil =>
    simp only [takeIn, isNil, if_true]
    refine ⟨ϕ, hp, hb, fun j hl hj _ => ⟨hl, hj, .refl _⟩, by simp, ?_⟩
    rcases ho with rfl | rfl
    · exact .inl ⟨rfl, by simp, by simp, fun _ _ _ _ _ _ => by simp, by simp⟩
    · exact .inr ⟨rfl, by simp, by simp, by simp⟩
  | cons x r =>
    obtain ⟨ϕ1, a1, a2, a3, _⟩ := proms_sound (x :: r) hp hb
    have share : shOk (proms A (x :: r)) (x :: r) → ∃ ϕ', Taken B X F A (still (x :: r) (proms A (x :: r))) β ϕ' w n .sh (x :: r) := by
      intro hsh
      have hst := a1.stilled (x :: r)
      have hin : ∀ h ∈ x :: r, ∃ T es p, lk (still (x :: r) (proms A (x :: r))) h = some (.arr (.vw []) T es p) ∧ ∃ o p', lk (proms A (x :: r)) h = some (.arr o T es p') := by
        intro h hh
        have hm : memB (x :: r) h = true := memB_iff.2 hh
        obtain ⟨T, es, p, e | e⟩ := shOk_iff hsh h hh
        · exact ⟨T, es, .no, by rw [lk_still, e]; simp [hm, stillH, unpath], _, _, e⟩
        · cases p with
          | no => exact ⟨T, es, .no, by rw [lk_still, e]; simp [hm, stillH, unpath], _, _, e⟩
          | el r' i j =>
            by_cases h2 : memB (x :: r) r' = true
            · exact ⟨T, es, .no, by rw [lk_still, e]; simp [hm, stillH, unpath, h2], _, _, e⟩
            · exact ⟨T, es, _, by rw [lk_still, e]; simp only [Option.map_some, hm, if_true, stillH, unpath, h2]; rfl, _, _, e⟩
          | sub r' i =>
            by_cases h2 : memB (x :: r) r' = true
            · exact ⟨T, es, .no, by rw [lk_still, e]; simp [hm, stillH, unpath, h2], _, _, e⟩
            · exact ⟨T, es, _, by rw [lk_still, e]; simp only [Option.map_some, hm, if_true, stillH, unpath, h2]; rfl, _, _, e⟩
      refine ⟨ϕ1, hst, still_bd a2 _, ?_, ?_, .inr ⟨rfl, ?_, ?_, ?_⟩⟩
      · intro j hl hj hd
        obtain ⟨hl0, e1, rfl⟩ := still_lk hj
        have h0 : Alike (unpath (x :: r) (if memB (x :: r) j then stillH hl0 else hl0)) hl0 := by
          refine (unpath_alike _ _).2.2.2.2.2.2.trans ?_
          split
          · exact (stillH_alike _).2.2.2.2.2.2
          · exact .refl _
        have hd0 : hl0 ≠ .dead := by
          intro e; subst e
          apply hd
          split <;> rfl
        obtain ⟨hl1, e2, e3⟩ := a3 j hl0 e1 hd0
        exact ⟨hl1, e2, h0.trans e3⟩
      · intro b hb'
        simp only [List.mem_flatten, List.mem_map] at hb'
        obtain ⟨_, ⟨h, hh, rfl⟩, hm⟩ := hb'
        obtain ⟨T', es', p', e1, _⟩ := hin h hh
        exact hst.inb e1 (by simp) b hm
      · intro h hh o T es p hA
        obtain ⟨T', es', p', e1, o2, p2, e2⟩ := hin h hh
        obtain ⟨hl1, e3, e4⟩ := a3 h _ e2 (by simp)
        rw [hA] at e3; cases e3
        obtain ⟨rfl, rfl, _⟩ := e4
        exact hst.sat _ _ e1
      · intro i hl hi b hb' hm
        simp only [List.mem_flatten, List.mem_map] at hm
        obtain ⟨_, ⟨h, hh, rfl⟩, hm⟩ := hm
        obtain ⟨T', es', p', e1, _⟩ := hin h hh
        by_cases hih : i = h
        · subst hih; rw [e1] at hi; cases hi; simp [owned] at hb'
        · exact hst.dj i h _ _ hi e1 hih (by simp [roots]) (by simp) b hb' hm
      · intro b hb'
        simp only [List.mem_flatten, List.mem_map] at hb'
        obtain ⟨_, ⟨h, hh, rfl⟩, hm⟩ := hb'
        obtain ⟨T', es', p', e1, _⟩ := hin h hh
        exact hst.all _ _ e1 trivial b hm
    rcases ho with rfl | rfl
    · simp only [takeIn, takeOk, isNil, Bool.false_eq_true, if_false] at hok ⊢
      by_cases hc : (dpAll (proms A (x :: r)) (x :: r) && ndB (x :: r)) = true
      · rw [if_pos hc]
        simp only [Bool.and_eq_true] at hc
        have hdp := dpAll_iff.1 hc.1
        have hnd := ndB_iff.1 hc.2
        have hin : ∀ h ∈ x :: r, ∃ T es p, lk (proms A (x :: r)) h = some (.arr .dp T es p) := fun h hh => dpB_iff.1 (hdp h hh)
        refine ⟨ϕ1, a1.struck _, strike_bd a2 _, ?_, ?_, .inl ⟨rfl, ?_, dps_nodup a1 hdp hnd, ?_, ?_⟩⟩
        · intro j hl hj hd; exact a3 j hl (strike_lk hj hd).1 hd
        · intro b hb'
          simp only [List.mem_flatten, List.mem_map] at hb'
          obtain ⟨_, ⟨h, hh, rfl⟩, hm⟩ := hb'
          obtain ⟨T', es', p', e1⟩ := hin h hh
          exact a1.inb e1 (by simp) b hm
        · intro h hh o T es p hA
          obtain ⟨T', es', p', e1⟩ := hin h hh
          obtain ⟨hl1, e3, e4⟩ := a3 h _ e1 (by simp)
          rw [hA] at e3; cases e3
          obtain ⟨rfl, rfl, _⟩ := e4
          exact a1.sat _ _ e1
        · refine strike_apart a1 fun b hb' => ?_
          simp only [List.mem_flatten, List.mem_map] at hb'
          obtain ⟨_, ⟨h, hh, rfl⟩, hm⟩ := hb'
          obtain ⟨T', es', p', e1⟩ := hin h hh
          exact ⟨h, hh, _, e1, hm⟩
        · intro b hb'
          simp only [List.mem_flatten, List.mem_map] at hb'
          obtain ⟨_, ⟨h, hh, rfl⟩, hm⟩ := hb'
          obtain ⟨T', es', p', e1⟩ := hin h hh
          exact ⟨a1.own _ _ e1 b hm, a1.all _ _ e1 trivial b hm⟩
      · rw [if_neg hc] at hok ⊢
        exact share hok
    · simp only [takeIn, takeOk, isNil, Bool.false_eq_true, if_false] at hok ⊢
      exact share hok

/-- Owned leaves of an element's types. -/
theorem loD_lo {Ts : List PTy} {ps : List PV} {vs : List Value} {fs : List (List Nat)} (h : LoD w Ts ps vs fs) (hT : leafDs Ts = true) : LoP (OwnF w) Ts ps vs fs := by
  induction h with
  | nil => exact .nil
  | int h1 _ ih => simp only [leafDs, Bool.and_eq_true] at hT; exact .int h1 (ih hT.2)
  | bool _ ih => simp only [leafDs, Bool.and_eq_true] at hT; exact .bool (ih hT.2)
  | str h1 _ ih => simp only [leafDs, Bool.and_eq_true] at hT; exact .str h1 (ih hT.2)
  | list h1 _ ih =>
    simp only [leafDs, Bool.and_eq_true] at hT
    exact .list (ownD_F hT.1 h1) (ih hT.2)

theorem leafDs_iff {ts : List PTy} : leafDs ts = true ↔ ∀ t ∈ ts, leafD t = true := by
  induction ts with
  | nil => simp [leafDs]
  | cons t ts ih => simp [leafDs, ih]

end
end Go.Proofs.Ytmjjdfhpnckacab
