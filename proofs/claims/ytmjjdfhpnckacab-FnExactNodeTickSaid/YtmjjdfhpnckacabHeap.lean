/-
  How the symbolic heap is carried through changes of memory.
  Conditions: none.
-/
import Derived.Test.YtmjjdfhpnckacabRel
namespace Go.Proofs.Ytmjjdfhpnckacab
set_option linter.unusedVariables false
section
variable {P : Program} {E : Env} {N : Nat} {w0 : World} {X F : List Nat} {S : St} {β : Nat → GV} {ϕ : Nat → List Nat} {a : Act} {w w' : World} {o : Oper} {R : RR} {A A' : Hp} {B : Nat}

def upd {α : Type} (f : Nat → α) (n : Nat) (v : α) : Nat → α := fun k => if k = n then v else f k

theorem upd_lt {α : Type} (f : Nat → α) (n : Nat) (v : α) {k : Nat} (h : k < n) : upd f n v k = f k := by
  unfold upd; rw [if_neg (by omega)]
theorem upd_ne {α : Type} (f : Nat → α) (n : Nat) (v : α) {k : Nat} (h : k ≠ n) : upd f n v k = f k := by
  unfold upd; rw [if_neg h]
theorem upd_eq {α : Type} (f : Nat → α) (n : Nat) (v : α) : upd f n v n = v := by simp [upd]

theorem val_one (pl : ∀ h, (β h).v.oneCell' = true) : ∀ (x : SV), x.leafB = true → (SV.val β x).oneCell' = true := by
  intro x hx
  cases x <;> simp only [SV.val, SV.leafB, Bool.false_eq_true] at hx ⊢ <;> (try rfl)
  · exact pl _
  · split <;> rfl
  · split <;> rfl

theorem cells_of_one {v : Value} (h : v.oneCell' = true) : v.cells = #[v] := by
  cases v <;> first | rfl | (simp [Value.oneCell'] at h)

theorem val_cells (pl : ∀ h, (β h).v.oneCell' = true) (x : SV) : (SV.val β x).cells = (SV.vals β x.cells).toArray := by
  by_cases hx : x.leafB = true
  · rw [cells_of_one (val_one pl x hx)]
    have : x.cells = [x] := by cases x <;> first | rfl | (simp [SV.leafB] at hx)
    simp [this, SV.vals]
  · cases x <;> simp [SV.leafB] at hx
    · rfl
    · rfl

theorem BldAt.frame {T e b : Nat} {l : List UInt8} {f : List Nat} (h : BldAt T e b l w f) (hf : ∀ b ∈ f, w'.heap[b]? = w.heap[b]?) : BldAt T e b l w' f := by
  obtain ⟨p, v, h1, h2, ⟨h3, h4⟩, h5, rfl⟩ := h
  refine ⟨p, v, h1, (hf b (by simp)).trans h2, ⟨h3, ?_⟩, h5, rfl⟩
  rcases h4 with h4 | ⟨g, cap, cur, rfl, h6, h7, h8⟩
  · exact .inl h4
  · exact .inr ⟨g, cap, cur, rfl, h6, (hf g (by simp [Value.ownBlock])).trans h7, h8⟩
theorem BldAt.inb {T e b : Nat} {l : List UInt8} {f : List Nat} (h : BldAt T e b l w f) : ∀ x ∈ f, x < w.heap.size := by
  obtain ⟨p, v, h1, h2, ⟨h3, h4⟩, h5, rfl⟩ := h
  intro x hx
  rcases List.mem_cons.1 hx with rfl | hx
  · exact (Array.getElem?_eq_some_iff.1 h2).1
  · rcases h4 with ⟨rfl, _⟩ | ⟨g, cap, cur, rfl, h6, h7, h8⟩
    · simp [Value.ownBlock] at hx
    · simp [Value.ownBlock] at hx
      subst hx
      exact (Array.getElem?_eq_some_iff.1 h7).1

theorem HLSat.frame {g : GV} {f : List Nat} {hl : HL} (h : HLSat w g β f hl) (hf : ∀ b ∈ f, w'.heap[b]? = w.heap[b]?) : HLSat w' g β f hl := by
  cases hl with
  | dead => trivial
  | bld T e l => obtain ⟨b, h1, h2⟩ := h; exact ⟨b, h1, h2.frame hf⟩
  | box own t cs =>
    obtain ⟨b, t', h1, h2, h3⟩ := h
    exact ⟨b, t', h1, h2, (hf b (by simp [h2])).trans h3⟩
  | abx own T es =>
    obtain ⟨h0, hs, b, t', c, h1, h2, h3, h4⟩ := h
    exact ⟨h0, hs, b, t', c, h1, h2, (hf b (by simp [h2])).trans h3, h4.frame (by simp)⟩
  | arr o T es p =>
    cases o with
    | vw r => exact Lv.frame h hf
    | sh => exact OwnS.frame h hf
    | dp => exact OwnD.frame h hf
    | cs k => exact OwnC.frame h hf

theorem HLSat.inb {g : GV} {f : List Nat} {hl : HL} (h : HLSat w g β f hl) (hd : hl ≠ .dead) : ∀ b ∈ f, b < w.heap.size := by
  cases hl with
  | dead => exact absurd rfl hd
  | bld T e l => obtain ⟨b, h1, h2⟩ := h; exact h2.inb
  | box own t cs =>
    obtain ⟨b, t', h1, h2, h3⟩ := h
    intro c hc
    rw [h2] at hc
    simp at hc
    subst hc
    exact (Array.getElem?_eq_some_iff.1 h3).1
  | abx own T es =>
    obtain ⟨h0, hs, b, t', c, h1, h2, h3, h4⟩ := h
    intro d hd
    rw [h2] at hd
    simp at hd
    subst hd
    exact (Array.getElem?_eq_some_iff.1 h3).1
  | arr o T es p =>
    cases o with
    | vw r => exact Lv.inb h
    | sh => exact (OwnS.lv h).inb
    | dp => exact (OwnD.lv h).inb
    | cs k => exact OwnC.inb h

theorem HLSat.congr {β' : Nat → GV} {n : Nat} {g : GV} {f : List Nat} {hl : HL} (h : HLSat w g β f hl) (hb : ∀ k, k < n → β' k = β k) (hl' : hl.ltOk n β) : HLSat w g β' f hl := by
  cases hl with
  | dead => trivial
  | bld T e l => exact h
  | box own t cs =>
    obtain ⟨b, t', h1, h2, h3⟩ := h
    exact ⟨b, t', h1, h2, by rw [SV.vals_congr hb cs hl'.1]; exact h3⟩
  | abx own T es => exact h
  | arr o T es p => cases o <;> exact h

theorem HL.ltOk_congr {β' : Nat → GV} {n m : Nat} {hl : HL} (h : hl.ltOk n β) (hb : ∀ k, k < n → β' k = β k) (hm : n ≤ m) : hl.ltOk m β' := by
  cases hl with
  | box own t cs => exact ⟨SV.lts_mono hm cs h.1, SV.oks_congr hb cs h.1 h.2⟩
  | dead => trivial
  | bld T e l => trivial
  | abx own T es => trivial
  | arr o T es p =>
    cases o <;> (try trivial)
    exact fun r hr => Nat.lt_of_lt_of_le (h r hr) hm

theorem owned_sub {f : List Nat} {hl : HL} : ∀ b ∈ owned f hl, b ∈ f := by
  intro b hb
  cases hl with
  | dead => simp [owned] at hb
  | bld T e l => exact hb
  | box own t cs => cases own <;> simp [owned] at hb; exact hb
  | abx own t cs => cases own <;> simp [owned] at hb; exact hb
  | arr o T es p =>
    cases o <;> simp only [owned, List.not_mem_nil] at hb
    · exact List.mem_of_mem_take hb
    · exact hb
    · exact hb

theorem Holds.inb (h : Holds B X F A β ϕ w) {i : Nat} {hl : HL} (hi : lk A i = some hl) (hd : hl ≠ .dead) : ∀ b ∈ ϕ i, b < w.heap.size := (h.sat i hl hi).inb hd

theorem lv_head {v : Value} {T : PTy} {es : List PV} {f : List Nat} (h : Lv w [.list T] [.list es] [v] f) {b o : Nat} (ha : addrOf v = some (b, o)) (hn : es ≠ []) : b ∈ f := by
  cases h with
  | empty h => exact absurd rfl hn
  | list hb hs hl hv hc ht =>
    simp only [addrOf, Option.some.injEq, Prod.mk.injEq] at ha
    simp [ha.1]

theorem pathOk_frame (h : Holds B X F A β ϕ w) {i : Nat} {hl : HL} (hi : lk A i = some hl) (hf : ∀ i hl, lk A i = some hl → hl ≠ .dead → ∀ b ∈ ϕ i, w'.heap[b]? = w.heap[b]?) : pathOk A β w' (β i) hl := by
  have hp := h.pt i hl hi
  cases hl with
  | arr o T es p =>
    cases o with
    | vw rs =>
      cases p with
      | el r i' j =>
        obtain ⟨h1, T', es', p', h2, h3, h4, h5, b, o, c, t, fr, h6, h7, h8⟩ := hp
        refine ⟨h1, T', es', p', h2, h3, h4, h5, b, o, c, t, fr, h6, ?_, h8⟩
        have hL : Lv w [.list T'] [.list es'] [(β r).v] (ϕ r) := OwnD.lv (h.sat r _ h2)
        exact (hf r _ h2 (by simp) b (lv_head hL h6 (by intro e; subst e; simp at h3))).trans h7
      | sub r lo => exact hp
      | no => trivial
    | _ => trivial
  | _ => trivial

/-- Memory may change where no live handle reaches. -/
theorem Holds.world (h : Holds B X F A β ϕ w) (hf : ∀ i hl, lk A i = some hl → hl ≠ .dead → ∀ b ∈ ϕ i, w'.heap[b]? = w.heap[b]?) : Holds B X F A β ϕ w' :=
  ⟨h.pl, fun i hl hi => by
      by_cases hd : hl = .dead
      · subst hd; trivial
      · exact (h.sat i hl hi).frame (hf i hl hi hd), h.own, h.all, h.nd, h.dj, fun i hl hi => pathOk_frame h hi hf, h.rt⟩

/-- New blocks alone. -/
theorem Holds.grow (h : Holds B X F A β ϕ w) (hf : ∀ b, b < w.heap.size → w'.heap[b]? = w.heap[b]?) : Holds B X F A β ϕ w' :=
  h.world fun i hl hi hd b hb => hf b (h.inb hi hd b hb)

/-- No live handle reaches these blocks. -/
def Apart (A : Hp) (ϕ : Nat → List Nat) (G : List Nat) : Prop := ∀ i hl, lk A i = some hl → hl ≠ .dead → ∀ b ∈ ϕ i, b ∉ G

theorem Apart.mono {G H : List Nat} (h : Apart A ϕ G) (hs : ∀ b ∈ H, b ∈ G) : Apart A ϕ H := fun i hl hi hd b hb hm => h i hl hi hd b hb (hs b hm)

def Bd (n : Nat) (β : Nat → GV) (A : Hp) : Prop := ∀ i hl, lk A i = some hl → i < n ∧ hl.ltOk n β

theorem kill_inv {hs : List Nat} {hl0 : HL} (h : kill hs hl0 ≠ .dead) : kill hs hl0 = hl0 ∧ hl0 ≠ .dead ∧ ∀ r ∈ roots hl0, r ∉ hs := by
  cases hl0 with
  | dead => exact absurd rfl h
  | bld _ _ _ => exact ⟨rfl, by simp, by simp [roots]⟩
  | box _ _ _ => exact ⟨rfl, by simp, by simp [roots]⟩
  | abx _ _ _ => exact ⟨rfl, by simp, by simp [roots]⟩
  | arr o T es p =>
    cases o <;> (try exact ⟨rfl, by simp, by simp [roots]⟩)
    rename_i rs
    by_cases hr : anyB hs rs = true
    · simp [kill, hr] at h
    · refine ⟨by simp [kill, hr], by simp, fun r hr' hm => hr (anyB_iff.2 ⟨r, hr', hm⟩)⟩

theorem strike_lk {hs : List Nat} {j : Nat} {hl : HL} (h : lk (strike hs A) j = some hl) (hd : hl ≠ .dead) : lk A j = some hl ∧ j ∉ hs ∧ ∀ r ∈ roots hl, r ∉ hs := by
  rw [lk_strike] at h
  cases hA : lk A j with
  | none => rw [hA] at h; cases h
  | some hl0 =>
    rw [hA] at h
    simp only [Option.map_some, Option.some.injEq] at h
    split at h
    · exact absurd h.symm hd
    · rename_i hm
      obtain ⟨e1, e2, e3⟩ := kill_inv (hs := hs) (hl0 := hl0) (by rw [h]; exact hd)
      rw [e1] at h; subst h
      exact ⟨rfl, fun e => hm (memB_iff.2 e), e3⟩

theorem strike_lk' {hs : List Nat} {j : Nat} {hl : HL} (h : lk (strike hs A) j = some hl) : ∃ hl0, lk A j = some hl0 ∧ (hl = .dead ∨ hl = hl0) := by
  by_cases hd : hl = .dead
  · rw [lk_strike] at h
    cases hA : lk A j with
    | none => rw [hA] at h; cases h
    | some hl0 => exact ⟨hl0, rfl, .inl hd⟩
  · exact ⟨hl, (strike_lk h hd).1, .inr rfl⟩

theorem strike_dead {hs : List Nat} {j : Nat} {hl : HL} (hj : j ∈ hs) (h : lk (strike hs A) j = some hl) : hl = .dead := by
  rw [lk_strike] at h
  cases hA : lk A j with
  | none => rw [hA] at h; cases h
  | some hl0 =>
    rw [hA] at h
    simp only [Option.map_some, memB_iff.2 hj, if_true, Option.some.injEq] at h
    exact h.symm

theorem strike_live {hs : List Nat} {j : Nat} {hl : HL} (h : lk A j = some hl) (h1 : j ∉ hs) (h2 : ∀ r ∈ roots hl, r ∉ hs) : lk (strike hs A) j = some hl := by
  rw [lk_strike, h]
  have hm : memB hs j = false := by
    cases e : memB hs j with
    | false => rfl
    | true => exact absurd (memB_iff.1 e) h1
  simp only [Option.map_some, hm, Bool.false_eq_true, if_false, Option.some.injEq]
  cases hl with
  | arr o T es p =>
    cases o <;> (try rfl)
    rename_i rs
    have : anyB hs rs = false := by
      cases e : anyB hs rs with
      | false => rfl
      | true => obtain ⟨r, hr, hm⟩ := anyB_iff.1 e; exact absurd hm (h2 r hr)
    simp [kill, this]
  | _ => rfl

/-- Handles and their views are struck. -/
theorem Holds.struck (h : Holds B X F A β ϕ w) (hs : List Nat) : Holds B X F (strike hs A) β ϕ w := by
  have key : ∀ {j hl}, lk (strike hs A) j = some hl → hl ≠ .dead → lk A j = some hl := fun hj hd => (strike_lk hj hd).1
  refine ⟨h.pl, ?_, ?_, ?_, ?_, ?_, ?_, ?_⟩
  · intro j hl hj
    by_cases hd : hl = .dead
    · subst hd; trivial
    · exact h.sat j hl (key hj hd)
  · intro j hl hj
    by_cases hd : hl = .dead
    · subst hd; simp [owned]
    · exact h.own j hl (key hj hd)
  · intro j hl hj hd; exact h.all j hl (key hj (by intro e; subst e; exact hd)) hd
  · intro j hl hj
    by_cases hd : hl = .dead
    · subst hd; trivial
    · exact h.nd j hl (key hj hd)
  · intro j k hl hl' hj hk hne hnv hdd
    by_cases hd : hl = .dead
    · subst hd; simp [owned]
    · exact h.dj j k hl hl' (key hj hd) (key hk hdd) hne hnv hdd
  · intro j hl hj
    by_cases hd : hl = .dead
    · subst hd; trivial
    · obtain ⟨e1, e2, e3⟩ := strike_lk hj hd
      have hp := h.pt j hl e1
      cases hl with
      | arr o T es p =>
        cases o <;> (try trivial)
        rename_i rs
        cases p with
        | no => trivial
        | el r i j' =>
          obtain ⟨h1, T', es', p', h2, h3⟩ := hp
          exact ⟨h1, T', es', p', strike_live h2 (e3 r h1) (by simp [roots]), h3⟩
        | sub r lo =>
          obtain ⟨h1, es', p', h2, h3⟩ := hp
          refine ⟨h1, es', p', ?_, h3⟩
          rcases h2 with h2 | h2
          · exact .inl (strike_live h2 (e3 r h1) (by simp [roots]))
          · exact .inr (strike_live h2 (e3 r h1) (by simp [roots]))
      | _ => trivial
  · intro j hl hj r hr o t cs hb
    have hd : hl ≠ .dead := by intro e; subst e; simp [roots] at hr
    exact h.rt j hl (key hj hd) r hr o t cs (key hb (by simp))

theorem strike_bd {n : Nat} (h : Bd n β A) (hs : List Nat) : Bd n β (strike hs A) := by
  intro j hl hj
  obtain ⟨hl0, h1, h2⟩ := strike_lk' hj
  rcases h2 with rfl | rfl
  · exact ⟨(h j hl0 h1).1, trivial⟩
  · exact h j hl h1

/-- What is left reaches nothing of what the struck ones owned. -/
theorem strike_apart (h : Holds B X F A β ϕ w) {hs : List Nat} {G : List Nat} (hG : ∀ b ∈ G, ∃ i ∈ hs, ∃ hl, lk A i = some hl ∧ b ∈ owned (ϕ i) hl) : Apart (strike hs A) ϕ G := by
  intro j hl hj hd b hb hm
  obtain ⟨e1, e2, e3⟩ := strike_lk hj hd
  obtain ⟨i, hi, hl', hl1, ho⟩ := hG b hm
  exact h.dj i j hl' hl hl1 e1 (fun e => e2 (e ▸ hi)) (fun hr => e3 i hr hi) hd b ho hb

/-- A handle in the place of a dead one, or a new one. -/
theorem Holds.put (h : Holds B X F A β ϕ w) {n : Nat} {hl0 : HL} {f : List Nat} (hA : ∀ i, lk A' i = if i = n then some hl0 else lk A i) (hd : ∀ hl, lk A n = some hl → hl = .dead)
    (hs : HLSat w (β n) β f hl0) (ho : ∀ b ∈ owned f hl0, b ∈ X ∨ B ≤ b) (ha : isA hl0 → ∀ b ∈ f, b ∈ F ∨ B ≤ b) (hn : ndOk f hl0)
    (h1 : Apart A ϕ (owned f hl0)) (h2 : ∀ i hl, lk A i = some hl → i ∉ roots hl0 → ∀ b ∈ owned (ϕ i) hl, b ∉ f) (hp : pathOk A β w (β n) hl0)
    (hr1 : ∀ o t cs, hl0 = .box o t cs → ∀ i hl, lk A i = some hl → n ∉ roots hl) (hr2 : ∀ r ∈ roots hl0, r ≠ n ∧ ∀ o t cs, lk A r ≠ some (.box o t cs)) : Holds B X F A' β (upd ϕ n f) w := by
  have hlk : ∀ i hl, lk A' i = some hl → (i = n ∧ hl = hl0) ∨ (i ≠ n ∧ lk A i = some hl) := by
    intro i hl hi
    rw [hA] at hi
    split at hi
    · rename_i e; cases hi; exact .inl ⟨e, rfl⟩
    · rename_i e; exact .inr ⟨e, hi⟩
  have pth : ∀ g hl, pathOk A β w g hl → pathOk A' β w g hl := by
    intro g hl hp
    cases hl with
    | arr o T es p =>
      cases o <;> (try trivial)
      rename_i rs
      cases p with
      | no => trivial
      | el r i j =>
        obtain ⟨h1, T', es', p', h2, h3⟩ := hp
        have hrn : r ≠ n := fun e => by subst e; have := hd _ h2; cases this
        exact ⟨h1, T', es', p', by rw [hA, if_neg hrn]; exact h2, h3⟩
      | sub r lo =>
        obtain ⟨h1, es', p', h2, h3⟩ := hp
        have hrn : r ≠ n := fun e => by subst e; rcases h2 with h2 | h2 <;> (have := hd _ h2; cases this)
        exact ⟨h1, es', p', by rw [hA, if_neg hrn]; exact h2, h3⟩
    | _ => trivial
  refine ⟨h.pl, ?_, ?_, ?_, ?_, ?_, ?_, ?_⟩
  · intro i hl hi
    rcases hlk i hl hi with ⟨rfl, rfl⟩ | ⟨hne, hi'⟩
    · rw [upd_eq]; exact hs
    · rw [upd_ne _ _ _ hne]; exact h.sat i hl hi'
  · intro i hl hi
    rcases hlk i hl hi with ⟨rfl, rfl⟩ | ⟨hne, hi'⟩
    · rw [upd_eq]; exact ho
    · rw [upd_ne _ _ _ hne]; exact h.own i hl hi'
  · intro i hl hi
    rcases hlk i hl hi with ⟨rfl, rfl⟩ | ⟨hne, hi'⟩
    · rw [upd_eq]; exact ha
    · rw [upd_ne _ _ _ hne]; exact h.all i hl hi'
  · intro i hl hi
    rcases hlk i hl hi with ⟨rfl, rfl⟩ | ⟨hne, hi'⟩
    · rw [upd_eq]; exact hn
    · rw [upd_ne _ _ _ hne]; exact h.nd i hl hi'
  · intro i j hl hl' hi hj hne hnv hdd
    rcases hlk i hl hi with ⟨rfl, rfl⟩ | ⟨hne1, hi'⟩
    · rcases hlk j hl' hj with ⟨rfl, rfl⟩ | ⟨hne2, hj'⟩
      · exact absurd rfl hne
      · rw [upd_eq, upd_ne _ _ _ hne2]; exact fun b hb hm => h1 j hl' hj' hdd b hm hb
    · rcases hlk j hl' hj with ⟨rfl, rfl⟩ | ⟨hne2, hj'⟩
      · rw [upd_eq, upd_ne _ _ _ hne1]; exact h2 i hl hi' hnv
      · rw [upd_ne _ _ _ hne1, upd_ne _ _ _ hne2]; exact h.dj i j hl hl' hi' hj' hne hnv hdd
  · intro i hl hi
    rcases hlk i hl hi with ⟨rfl, rfl⟩ | ⟨hne, hi'⟩
    · exact pth _ _ hp
    · exact pth _ _ (h.pt i hl hi')
  · intro i hl hi r hr o t cs hb
    rcases hlk r _ hb with ⟨rfl, e⟩ | ⟨hne, hb'⟩
    · rcases hlk i hl hi with ⟨rfl, rfl⟩ | ⟨hne, hi'⟩
      · exact (hr2 _ hr).1 rfl
      · exact hr1 o t cs e.symm i hl hi' hr
    · rcases hlk i hl hi with ⟨rfl, rfl⟩ | ⟨hne, hi'⟩
      · exact (hr2 _ hr).2 o t cs hb'
      · exact h.rt i hl hi' r hr o t cs hb'

/-- The value of a handle that is not there may be anything. -/
theorem Holds.ext (h : Holds B X F A β ϕ w) {n : Nat} (hb : Bd n β A) {g : GV} (hv : g.v.oneCell' = true) : Holds B X F A (upd β n g) ϕ w := by
  have hb' : ∀ k, k < n → upd β n g k = β k := fun k hk => upd_lt _ _ _ hk
  refine ⟨?_, ?_, h.own, h.all, h.nd, h.dj, ?_, h.rt⟩
  · intro i; unfold upd; split
    · exact hv
    · exact h.pl i
  · intro i hl hi
    rw [hb' i (hb i hl hi).1]
    exact (h.sat i hl hi).congr hb' (hb i hl hi).2
  · intro i hl hi
    rw [hb' i (hb i hl hi).1]
    have hp := h.pt i hl hi
    cases hl with
    | arr o T es p =>
      cases o <;> (try trivial)
      rename_i rs
      cases p with
      | no => trivial
      | el r i' j =>
        obtain ⟨h1, T', es', p', h2, h3, h4, h5, h6⟩ := hp
        exact ⟨h1, T', es', p', h2, h3, h4, h5, by rw [hb' r (hb r _ h2).1]; exact h6⟩
      | sub r lo =>
        obtain ⟨h1, es', p', h2, h3, h4, h5⟩ := hp
        have hr : r < n := by rcases h2 with h2 | h2 <;> exact (hb r _ h2).1
        exact ⟨h1, es', p', h2, h3, h4, by rw [hb' r hr]; exact h5⟩
    | _ => trivial

/-- A new handle. -/
theorem Holds.add (h : Holds B X F A β ϕ w) {n : Nat} {hl0 : HL} {g : GV} {f : List Nat} (hb : Bd n β A) (hv : g.v.oneCell' = true)
    (hs : HLSat w g (upd β n g) f hl0) (ho : ∀ b ∈ owned f hl0, b ∈ X ∨ B ≤ b) (ha : isA hl0 → ∀ b ∈ f, b ∈ F ∨ B ≤ b) (hn : ndOk f hl0)
    (h1 : Apart A ϕ (owned f hl0)) (h2 : ∀ i hl, lk A i = some hl → i ∉ roots hl0 → ∀ b ∈ owned (ϕ i) hl, b ∉ f) (hp : pathOk A (upd β n g) w g hl0) (hlt : ∀ r ∈ roots hl0, r < n)
    (hr2 : ∀ r ∈ roots hl0, ∀ o t cs, lk A r ≠ some (.box o t cs)) :
    Holds B X F ((n, hl0) :: A) (upd β n g) (upd ϕ n f) w := by
  have hnone : ∀ hl, lk A n ≠ some hl := fun hl hi => by have := (hb n hl hi).1; omega
  refine (h.ext hb hv).put (n := n) ?_ (fun hl hi => absurd hi (hnone hl)) (by rw [upd_eq]; exact hs) ho ha hn h1 h2 (by rw [upd_eq]; exact hp) ?_ ?_
  · intro i
    simp only [lk]
    by_cases hi : n = i
    · simp [hi]
    · simp [hi, Ne.symm hi]
  · intro o t cs e i hl hi hm
    have h3 := (hb i hl hi).2
    cases hl with
    | arr o' T es p =>
      cases o' <;> simp only [roots, List.not_mem_nil] at hm
      have := h3 n hm; omega
    | _ => simp [roots] at hm
  · intro r hr
    exact ⟨by have := hlt r hr; omega, hr2 r hr⟩

/-- The bounds behind a new handle. -/
theorem hb_add {n : Nat} {hl0 : HL} {g : GV} (hn : Bd n β A) (h0 : hl0.ltOk (n + 1) (upd β n g)) : Bd (n + 1) (upd β n g) ((n, hl0) :: A) := by
  intro i hl hi
  simp only [lk] at hi
  by_cases hin : n = i
  · subst hin; simp at hi; subst hi; exact ⟨by omega, h0⟩
  · rw [if_neg hin] at hi
    obtain ⟨h1, h2⟩ := hn i hl hi
    exact ⟨by omega, HL.ltOk_congr h2 (fun k hk => upd_lt _ _ _ hk) (by omega)⟩

theorem bd_put {n k : Nat} {hl0 : HL} (h : Bd n β A) (hA : ∀ i, lk A' i = if i = k then some hl0 else lk A i) (hk : k < n) (h0 : hl0.ltOk n β) : Bd n β A' := by
  intro i hl hi
  rw [hA] at hi
  split at hi
  · rename_i e; cases hi; exact ⟨by omega, h0⟩
  · exact h i hl hi

theorem lk_set1' {hl0 : HL} (A : Hp) (n i : Nat) : lk (set1 A n hl0) i = if i = n then some hl0 else lk A i := by
  rw [lk_set1]
  by_cases h : n = i
  · simp [h]
  · simp [h, Ne.symm h]

theorem apart_put {n : Nat} {hl0 : HL} {f G : List Nat} (h : Apart A ϕ G) (hA : ∀ i, lk A' i = if i = n then some hl0 else lk A i) (hf : ∀ b ∈ f, b ∉ G) : Apart A' (upd ϕ n f) G := by
  intro i hl hi hd b hb' hm
  rw [hA] at hi
  split at hi
  · rename_i e; subst e; rw [upd_eq] at hb'; exact hf b hb' hm
  · rename_i e; rw [upd_ne _ _ _ e] at hb'; exact h i hl hi hd b hb' hm

theorem lk_cons' {hl0 : HL} {n : Nat} (A : Hp) (i : Nat) : lk ((n, hl0) :: A) i = if i = n then some hl0 else lk A i := by
  simp only [lk]
  by_cases h : n = i
  · simp [h]
  · simp [h, Ne.symm h]

/-- A handle anew, its memory changed. -/
theorem Holds.redo (h : Holds B X F A β ϕ w) {n : Nat} {hl1 hl0 : HL} {f : List Nat} (hA : ∀ i, lk A' i = if i = n then some hl0 else lk (strike [n] A) i) (hn : lk A n = some hl1)
    (hs : HLSat w' (β n) β f hl0) (hf : ∀ b ∈ f, b ∈ owned (ϕ n) hl1 ∨ (b ∈ ϕ n ∧ b ∉ owned f hl0)) (hw : ∀ k, k < w.heap.size → k ∉ owned (ϕ n) hl1 → w'.heap[k]? = w.heap[k]?) (hnd : ndOk f hl0) (hvw : ∀ rs T es p, hl0 ≠ .arr (.vw rs) T es p) (hro1 : roots hl1 = []) (hdd : hl1 ≠ .dead) (hia : isA hl0 → isA hl1)
    (hbx : ∀ o t cs, hl0 = .box o t cs → ∃ o t cs, hl1 = .box o t cs) : Holds B X F A' β (upd ϕ n f) w' := by
  have h1 := h.struck [n]
  have ap : Apart (strike [n] A) ϕ (owned (ϕ n) hl1) := strike_apart h fun b hb => ⟨n, by simp, hl1, hn, hb⟩
  have h2 : Holds B X F (strike [n] A) β ϕ w' := h1.world fun i hl hi hd b hb => hw b (h1.inb hi hd b hb) (ap i hl hi hd b hb)
  have hof : ∀ b ∈ owned f hl0, b ∈ owned (ϕ n) hl1 := fun b hb => by
    rcases hf b (owned_sub b hb) with h | h
    · exact h
    · exact absurd hb h.2
  refine h2.put hA (fun hl hi => strike_dead (by simp) hi) hs (fun b hb => h.own n _ hn b (hof b hb)) ?_ hnd (ap.mono hof) ?_ ?_ ?_ ?_
  · intro hi b hb
    rcases hf b hb with h3 | h3
    · exact h.all n _ hn (hia hi) b (owned_sub b h3)
    · exact h.all n _ hn (hia hi) b h3.1
  · intro i hl hi _ b hb hm
    by_cases hd : hl = .dead
    · subst hd; simp [owned] at hb
    · obtain ⟨e1, e2, e3⟩ := strike_lk hi hd
      have hin : i ≠ n := by simpa using e2
      rcases hf b hm with h3 | h3
      · exact ap i hl hi hd b (owned_sub b hb) h3
      · exact h.dj i n hl hl1 e1 hn hin (by simp [hro1]) hdd b hb h3.1
  · cases hl0 with
    | arr o T es p => cases o <;> first | trivial | exact absurd rfl (hvw _ _ _ _)
    | _ => trivial
  · intro o t cs e i hl hi hm
    have hd : hl ≠ .dead := by intro e; subst e; simp [roots] at hm
    obtain ⟨e1, e2, e3⟩ := strike_lk hi hd
    exact e3 n hm (by simp)
  · have : roots hl0 = [] := by
      cases hl0 with
      | arr o T es p => cases o <;> first | rfl | exact absurd rfl (hvw _ _ _ _)
      | _ => rfl
    rw [this]; simp

end
end Go.Proofs.Ytmjjdfhpnckacab
