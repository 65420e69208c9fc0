/-
  What the symbolic side means: pure values in memory with their footprints, heaps of handles, states.
  Conditions: none; definitions and lemmas on memory alone.
-/
import Derived.Test.YtmjjdfhpnckacabSym
namespace Go.Proofs.Ytmjjdfhpnckacab
set_option linter.unusedVariables false

def flatP (es : List PV) : List PV := es.flatMap PV.leaves
def flatT (T : PTy) (n : Nat) : List PTy := (List.replicate n T.leaves).flatten

/-- An element has its type's outer form. -/
def Shp (T : PTy) (p : PV) : Prop :=
  match T with
  | .agg ts => ∃ qs, p = .agg qs ∧ qs.length = ts.length
  | _ => ∀ qs, p ≠ .agg qs

/-- Leaves of pure values in memory: their types, themselves, their cells, the blocks that they reach. -/
inductive Lv (w : World) : List PTy → List PV → List Value → List Nat → Prop
  | nil : Lv w [] [] [] []
  | int {k n Ts ps vs fp} : inR k n → Lv w Ts ps vs fp → Lv w (.int k :: Ts) (.int k n :: ps) (.int k n :: vs) fp
  | bool {b Ts ps vs fp} : Lv w Ts ps vs fp → Lv w (.bool :: Ts) (.bool b :: ps) (.bool b :: vs) fp
  | str {l Ts ps vs fp} : l.length ≤ LIM → Lv w Ts ps vs fp → Lv w (.str :: Ts) (.str l :: ps) (.string ⟨l.toArray⟩ :: vs) fp
  | empty {T a c Ts ps vs fp} : Lv w Ts ps vs fp → Lv w (.list T :: Ts) (.list [] :: ps) (.slice a 0 c :: vs) fp
  | list {T es b o cap c t fr cs f1 Ts ps vs fp} : w.heap[b]? = some (.cells c t fr) → (∀ e ∈ es, Shp T e) → es.length ≤ LIM ∧ es.length ≤ cap →
      Lv w (flatT T es.length) (flatP es) cs f1 → (c.toList.drop o).take cs.length = cs → Lv w Ts ps vs fp →
      Lv w (.list T :: Ts) (.list es :: ps) (.slice (some ⟨b, o, none⟩) es.length cap :: vs) (b :: f1 ++ fp)

theorem Lv.lens {w : World} {Ts ps vs fp} (h : Lv w Ts ps vs fp) : Ts.length = ps.length ∧ vs.length = ps.length := by
  induction h <;> simp_all

theorem Lv.inb {w : World} {Ts ps vs fp} (h : Lv w Ts ps vs fp) : ∀ b ∈ fp, b < w.heap.size := by
  induction h with
  | nil => simp
  | int _ _ ih => exact ih
  | bool _ ih => exact ih
  | str _ _ ih => exact ih
  | empty _ ih => exact ih
  | list hb _ _ _ _ _ ih1 ih2 =>
    intro b hm
    simp only [List.cons_append, List.mem_cons, List.mem_append] at hm
    rcases hm with rfl | hm | hm
    · exact (Array.getElem?_eq_some_iff.1 hb).1
    · exact ih1 b hm
    · exact ih2 b hm

theorem Lv.frame {w w' : World} {Ts ps vs fp} (h : Lv w Ts ps vs fp) (hf : ∀ b ∈ fp, w'.heap[b]? = w.heap[b]?) : Lv w' Ts ps vs fp := by
  induction h with
  | nil => exact .nil
  | int h1 _ ih => exact .int h1 (ih hf)
  | bool _ ih => exact .bool (ih hf)
  | str h1 _ ih => exact .str h1 (ih hf)
  | empty _ ih => exact .empty (ih hf)
  | list hb hs hl _ hc _ ih1 ih2 =>
    refine .list ((hf _ (by simp)).trans hb) hs hl (ih1 fun b hm => hf b (by simp [hm])) hc (ih2 fun b hm => hf b (by simp [hm]))

theorem Lv.append {w : World} {Ts ps vs fp Ts' ps' vs' fp'} (h : Lv w Ts ps vs fp) (h' : Lv w Ts' ps' vs' fp') : Lv w (Ts ++ Ts') (ps ++ ps') (vs ++ vs') (fp ++ fp') := by
  induction h with
  | nil => exact h'
  | int h1 _ ih => exact .int h1 ih
  | bool _ ih => exact .bool ih
  | str h1 _ ih => exact .str h1 ih
  | empty _ ih => exact .empty ih
  | @list T es b o cap c t fr cs f1 Ts ps vs fp hb hs hl hc hd _ _ ih2 =>
    have := Lv.list (cap := cap) hb hs hl hc hd ih2
    simpa [List.append_assoc] using this

theorem Lv.split {w : World} {Ts ps vs fp} (h : Lv w Ts ps vs fp) : ∀ {T1 T2 p1 p2}, Ts = T1 ++ T2 → ps = p1 ++ p2 → T1.length = p1.length →
    ∃ v1 v2 f1 f2, vs = v1 ++ v2 ∧ fp = f1 ++ f2 ∧ Lv w T1 p1 v1 f1 ∧ Lv w T2 p2 v2 f2 := by
  induction h with
  | nil =>
    intro T1 T2 p1 p2 h1 h2 hl
    simp at h1 h2
    obtain ⟨rfl, rfl⟩ := h1; obtain ⟨rfl, rfl⟩ := h2
    exact ⟨[], [], [], [], rfl, rfl, .nil, .nil⟩
  | @int k n Ts ps vs fp h1 ht ih =>
    intro T1 T2 p1 p2 e1 e2 hl
    cases T1 with
    | nil => cases p1 with
      | nil => simp at e1 e2; subst e1; subst e2; exact ⟨[], _, [], _, rfl, rfl, .nil, .int h1 ht⟩
      | cons a b => simp at hl
    | cons t T1 => cases p1 with
      | nil => simp at hl
      | cons p p1 =>
        simp at e1 e2 hl
        obtain ⟨rfl, rfl⟩ := e1; obtain ⟨rfl, rfl⟩ := e2
        obtain ⟨v1, v2, f1, f2, rfl, rfl, q1, q2⟩ := ih rfl rfl hl
        exact ⟨_ :: v1, v2, f1, f2, rfl, rfl, .int h1 q1, q2⟩
  | @bool b Ts ps vs fp ht ih =>
    intro T1 T2 p1 p2 e1 e2 hl
    cases T1 with
    | nil => cases p1 with
      | nil => simp at e1 e2; subst e1; subst e2; exact ⟨[], _, [], _, rfl, rfl, .nil, .bool ht⟩
      | cons a b => simp at hl
    | cons t T1 => cases p1 with
      | nil => simp at hl
      | cons p p1 =>
        simp at e1 e2 hl
        obtain ⟨rfl, rfl⟩ := e1; obtain ⟨rfl, rfl⟩ := e2
        obtain ⟨v1, v2, f1, f2, rfl, rfl, q1, q2⟩ := ih rfl rfl hl
        exact ⟨_ :: v1, v2, f1, f2, rfl, rfl, .bool q1, q2⟩
  | @str l Ts ps vs fp h1 ht ih =>
    intro T1 T2 p1 p2 e1 e2 hl
    cases T1 with
    | nil => cases p1 with
      | nil => simp at e1 e2; subst e1; subst e2; exact ⟨[], _, [], _, rfl, rfl, .nil, .str h1 ht⟩
      | cons a b => simp at hl
    | cons t T1 => cases p1 with
      | nil => simp at hl
      | cons p p1 =>
        simp at e1 e2 hl
        obtain ⟨rfl, rfl⟩ := e1; obtain ⟨rfl, rfl⟩ := e2
        obtain ⟨v1, v2, f1, f2, rfl, rfl, q1, q2⟩ := ih rfl rfl hl
        exact ⟨_ :: v1, v2, f1, f2, rfl, rfl, .str h1 q1, q2⟩
  | @empty T a c Ts ps vs fp ht ih =>
    intro T1 T2 p1 p2 e1 e2 hl
    cases T1 with
    | nil => cases p1 with
      | nil => simp at e1 e2; subst e1; subst e2; exact ⟨[], _, [], _, rfl, rfl, .nil, .empty ht⟩
      | cons a b => simp at hl
    | cons t T1 => cases p1 with
      | nil => simp at hl
      | cons p p1 =>
        simp at e1 e2 hl
        obtain ⟨rfl, rfl⟩ := e1; obtain ⟨rfl, rfl⟩ := e2
        obtain ⟨v1, v2, f1, f2, rfl, rfl, q1, q2⟩ := ih rfl rfl hl
        exact ⟨_ :: v1, v2, f1, f2, rfl, rfl, .empty q1, q2⟩
  | @list T es b o cap c t fr cs f0 Ts ps vs fp hb hs hle hc hd ht ih1 ih =>
    intro T1 T2 p1 p2 e1 e2 hl
    cases T1 with
    | nil => cases p1 with
      | nil => simp at e1 e2; subst e1; subst e2; exact ⟨[], _, [], _, rfl, rfl, .nil, .list hb hs hle hc hd ht⟩
      | cons a b => simp at hl
    | cons t T1 => cases p1 with
      | nil => simp at hl
      | cons p p1 =>
        simp at e1 e2 hl
        obtain ⟨rfl, rfl⟩ := e1; obtain ⟨rfl, rfl⟩ := e2
        obtain ⟨v1, v2, f1, f2, rfl, rfl, q1, q2⟩ := ih rfl rfl hl
        exact ⟨_ :: v1, v2, b :: f0 ++ f1, f2, rfl, by simp [List.append_assoc], .list hb hs hle hc hd q1, q2⟩

theorem Lv.cons_inv {w : World} {T Ts p ps vs fp} (h : Lv w (T :: Ts) (p :: ps) vs fp) :
    ∃ v vs' f1 f2, vs = v :: vs' ∧ fp = f1 ++ f2 ∧ Lv w [T] [p] [v] f1 ∧ Lv w Ts ps vs' f2 := by
  obtain ⟨v1, v2, f1, f2, rfl, rfl, q1, q2⟩ := h.split (T1 := [T]) (p1 := [p]) rfl rfl rfl
  obtain ⟨_, hv⟩ := q1.lens
  match v1, hv with
  | [v], _ => exact ⟨v, v2, f1, f2, rfl, rfl, q1, q2⟩

theorem Lv.cons {w : World} {T Ts p ps v vs f1 f2} (h : Lv w [T] [p] [v] f1) (h' : Lv w Ts ps vs f2) : Lv w (T :: Ts) (p :: ps) (v :: vs) (f1 ++ f2) :=
  Lv.append h h'

theorem Lv.nil_inv {w : World} {vs fp} (h : Lv w [] [] vs fp) : vs = [] ∧ fp = [] := by cases h; exact ⟨rfl, rfl⟩

theorem Lv.int_inv {w : World} {k p v fp} (h : Lv w [.int k] [p] [v] fp) : ∃ n, p = .int k n ∧ v = .int k n ∧ inR k n ∧ fp = [] := by
  cases h with | int h1 h2 => cases h2; exact ⟨_, rfl, rfl, h1, rfl⟩
theorem Lv.bool_inv {w : World} {p v fp} (h : Lv w [.bool] [p] [v] fp) : ∃ n, p = .bool n ∧ v = .bool n ∧ fp = [] := by
  cases h with | bool h2 => cases h2; exact ⟨_, rfl, rfl, rfl⟩
theorem Lv.str_inv {w : World} {p v fp} (h : Lv w [.str] [p] [v] fp) : ∃ l, p = .str l ∧ v = .string ⟨l.toArray⟩ ∧ l.length ≤ LIM ∧ fp = [] := by
  cases h with | str h1 h2 => cases h2; exact ⟨_, rfl, rfl, h1, rfl⟩

/-- The only leaf types. -/
theorem Lv.leaf {w : World} {T p v fp} (h : Lv w [T] [p] [v] fp) : ∀ qs, p ≠ .agg qs := by
  cases h <;> (intro qs; simp)

theorem Lv.leaves_of {w : World} {Ts ps vs fp} (h : Lv w Ts ps vs fp) : ∀ p ∈ ps, ∀ qs, p ≠ .agg qs := by
  induction h <;> simp_all

theorem Lv.ty_of {w : World} {Ts ps vs fp} (h : Lv w Ts ps vs fp) : ∀ t ∈ Ts, t.leaves = [t] := by
  induction h <;> simp_all [PTy.leaves]

/-- A slice with room: over a block that may be written; the cells of its elements. -/
structure Room (w : World) (v : Value) (wd n b : Nat) (cs : List Value) : Prop where
  ex : ∃ o cap c t fr, v = .slice (some ⟨b, o, none⟩) n cap ∧ w.heap[b]? = some (.cells c t fr) ∧ o + cap * wd ≤ c.size ∧ n ≤ cap ∧ cap ≤ maxLen ∧ (∀ i, i < c.size → ¬ (fr.1 ≤ i ∧ i < fr.2)) ∧ (c.toList.drop o).take cs.length = cs
  len : cs.length = n * wd
  lim : n ≤ LIM

/-- A slice over a block of its own, or an empty one without room; L relates its elements' leaves. -/
def OwnG (L : List PTy → List PV → List Value → List Nat → Prop) (w : World) (v : Value) (T : PTy) (es : List PV) (fp : List Nat) : Prop :=
  (es = [] ∧ fp = [] ∧ ∃ a, v = .slice a 0 0) ∨
  ∃ b f1 cs, fp = b :: f1 ∧ Room w v T.wd es.length b cs ∧ (∀ e ∈ es, Shp T e) ∧ L (flatT T es.length) (flatP es) cs f1

/-- Leaves: their types, themselves, their cells, their footprints; O owns a list. -/
inductive LoP (O : Value → PTy → List PV → List Nat → Prop) : List PTy → List PV → List Value → List (List Nat) → Prop
  | nil : LoP O [] [] [] []
  | int {k n Ts ps vs fs} : inR k n → LoP O Ts ps vs fs → LoP O (.int k :: Ts) (.int k n :: ps) (.int k n :: vs) ([] :: fs)
  | bool {b Ts ps vs fs} : LoP O Ts ps vs fs → LoP O (.bool :: Ts) (.bool b :: ps) (.bool b :: vs) ([] :: fs)
  | str {l Ts ps vs fs} : l.length ≤ LIM → LoP O Ts ps vs fs → LoP O (.str :: Ts) (.str l :: ps) (.string ⟨l.toArray⟩ :: vs) ([] :: fs)
  | list {T es v f Ts ps vs fs} : O v T es f → LoP O Ts ps vs fs → LoP O (.list T :: Ts) (.list es :: ps) (v :: vs) (f :: fs)

/-- A list of flat elements over a block of its own. -/
def OwnF (w : World) (v : Value) (T : PTy) (es : List PV) (f : List Nat) : Prop := flatB T = true ∧ OwnG (Lv w) w v T es f

/-- Leaves of elements, each list over a block of its own. -/
def Lo (w : World) (Ts : List PTy) (ps : List PV) (vs : List Value) (f : List Nat) : Prop := ∃ fs, f = fs.flatten ∧ LoP (OwnF w) Ts ps vs fs

/-- A list owned with all that lies behind it. -/
def OwnD (w : World) (v : Value) (T : PTy) (es : List PV) (f : List Nat) : Prop := OwnG (Lo w) w v T es f
/-- A list owned, what lies behind it shared. -/
def OwnS (w : World) (v : Value) (T : PTy) (es : List PV) (f : List Nat) : Prop := OwnG (Lv w) w v T es f

/-- The leaves of a struct, each list owned. -/
def LoD (w : World) (Ts : List PTy) (ps : List PV) (vs : List Value) (fs : List (List Nat)) : Prop := LoP (OwnD w) Ts ps vs fs

/-- A list owned with what lies behind its elements from k on. -/
def OwnC (w : World) (k : Nat) (v : Value) (T : PTy) (es : List PV) (fp : List Nat) : Prop :=
  (es = [] ∧ fp = [] ∧ ∃ a, v = .slice a 0 0) ∨
  ∃ b f1 c1 c2, fp = b :: f1 ∧ Room w v T.wd es.length b (c1 ++ c2) ∧ c1.length = min k es.length * T.wd ∧ (∀ e ∈ es, Shp T e) ∧ Lo w (flatT T (es.length - k)) (flatP (es.drop k)) c2 f1

theorem Room.frame {w w' : World} {v : Value} {wd n b : Nat} {cs : List Value} (h : Room w v wd n b cs) (hf : w'.heap[b]? = w.heap[b]?) : Room w' v wd n b cs := by
  obtain ⟨⟨o, cap, c, t, fr, h1, h2, h3⟩, h4, h5⟩ := h
  exact ⟨⟨o, cap, c, t, fr, h1, hf.trans h2, h3⟩, h4, h5⟩

theorem Room.inb {w : World} {v : Value} {wd n b : Nat} {cs : List Value} (h : Room w v wd n b cs) : b < w.heap.size := by
  obtain ⟨⟨o, cap, c, t, fr, h1, h2, h3⟩, h4, h5⟩ := h
  exact (Array.getElem?_eq_some_iff.1 h2).1

theorem LoP.lens {O : Value → PTy → List PV → List Nat → Prop} {Ts ps vs fs} (h : LoP O Ts ps vs fs) : Ts.length = ps.length ∧ vs.length = ps.length ∧ fs.length = ps.length := by
  induction h <;> simp_all

theorem LoP.mono {O O' : Value → PTy → List PV → List Nat → Prop} {Ts ps vs fs} (h : LoP O Ts ps vs fs) (hO : ∀ v T es f, f ∈ fs → O v T es f → O' v T es f) : LoP O' Ts ps vs fs := by
  induction h with
  | nil => exact .nil
  | int h1 _ ih => exact .int h1 (ih fun v T es f hf => hO v T es f (by simp [hf]))
  | bool _ ih => exact .bool (ih fun v T es f hf => hO v T es f (by simp [hf]))
  | str h1 _ ih => exact .str h1 (ih fun v T es f hf => hO v T es f (by simp [hf]))
  | list h1 _ ih => exact .list (hO _ _ _ _ (by simp) h1) (ih fun v T es f hf => hO v T es f (by simp [hf]))

theorem LoP.append {O : Value → PTy → List PV → List Nat → Prop} {Ts ps vs fs Ts' ps' vs' fs'} (h : LoP O Ts ps vs fs) (h' : LoP O Ts' ps' vs' fs') : LoP O (Ts ++ Ts') (ps ++ ps') (vs ++ vs') (fs ++ fs') := by
  induction h with
  | nil => exact h'
  | int h1 _ ih => exact .int h1 ih
  | bool _ ih => exact .bool ih
  | str h1 _ ih => exact .str h1 ih
  | list h1 _ ih => exact .list h1 ih

theorem LoP.split {O : Value → PTy → List PV → List Nat → Prop} {Ts ps vs fs} (h : LoP O Ts ps vs fs) : ∀ {T1 T2 p1 p2}, Ts = T1 ++ T2 → ps = p1 ++ p2 → T1.length = p1.length →
    ∃ v1 v2 f1 f2, vs = v1 ++ v2 ∧ fs = f1 ++ f2 ∧ LoP O T1 p1 v1 f1 ∧ LoP O T2 p2 v2 f2 := by
  have nilc : ∀ {Ts ps vs fs}, LoP O Ts ps vs fs → ∀ {T1 T2 : List PTy} {p1 p2 : List PV}, T1 = [] → Ts = T1 ++ T2 → ps = p1 ++ p2 → T1.length = p1.length →
      ∃ v1 v2 f1 f2, vs = v1 ++ v2 ∧ fs = f1 ++ f2 ∧ LoP O T1 p1 v1 f1 ∧ LoP O T2 p2 v2 f2 := by
    intro Ts ps vs fs h T1 T2 p1 p2 h0 e1 e2 hl
    subst h0
    have : p1 = [] := List.eq_nil_of_length_eq_zero hl.symm
    subst this
    simp only [List.nil_append] at e1 e2
    subst e1; subst e2
    exact ⟨[], _, [], _, rfl, rfl, .nil, h⟩
  induction h with
  | nil =>
    intro T1 T2 p1 p2 h1 h2 hl
    simp at h1 h2
    obtain ⟨rfl, rfl⟩ := h1; obtain ⟨rfl, rfl⟩ := h2
    exact ⟨[], [], [], [], rfl, rfl, .nil, .nil⟩
  | int h1 ht ih =>
    intro T1 T2 p1 p2 e1 e2 hl
    cases T1 with
    | nil => exact nilc (.int h1 ht) rfl e1 e2 hl
    | cons t T1 => cases p1 with
      | nil => simp at hl
      | cons p p1 =>
        simp at e1 e2 hl
        obtain ⟨rfl, rfl⟩ := e1; obtain ⟨rfl, rfl⟩ := e2
        obtain ⟨v1, v2, f1, f2, rfl, rfl, q1, q2⟩ := ih rfl rfl hl
        exact ⟨_ :: v1, v2, _ :: f1, f2, rfl, rfl, .int h1 q1, q2⟩
  | bool ht ih =>
    intro T1 T2 p1 p2 e1 e2 hl
    cases T1 with
    | nil => exact nilc (.bool ht) rfl e1 e2 hl
    | cons t T1 => cases p1 with
      | nil => simp at hl
      | cons p p1 =>
        simp at e1 e2 hl
        obtain ⟨rfl, rfl⟩ := e1; obtain ⟨rfl, rfl⟩ := e2
        obtain ⟨v1, v2, f1, f2, rfl, rfl, q1, q2⟩ := ih rfl rfl hl
        exact ⟨_ :: v1, v2, _ :: f1, f2, rfl, rfl, .bool q1, q2⟩
  | str h1 ht ih =>
    intro T1 T2 p1 p2 e1 e2 hl
    cases T1 with
    | nil => exact nilc (.str h1 ht) rfl e1 e2 hl
    | cons t T1 => cases p1 with
      | nil => simp at hl
      | cons p p1 =>
        simp at e1 e2 hl
        obtain ⟨rfl, rfl⟩ := e1; obtain ⟨rfl, rfl⟩ := e2
        obtain ⟨v1, v2, f1, f2, rfl, rfl, q1, q2⟩ := ih rfl rfl hl
        exact ⟨_ :: v1, v2, _ :: f1, f2, rfl, rfl, .str h1 q1, q2⟩
  | list h1 ht ih =>
    intro T1 T2 p1 p2 e1 e2 hl
    cases T1 with
    | nil => exact nilc (.list h1 ht) rfl e1 e2 hl
    | cons t T1 => cases p1 with
      | nil => simp at hl
      | cons p p1 =>
        simp at e1 e2 hl
        obtain ⟨rfl, rfl⟩ := e1; obtain ⟨rfl, rfl⟩ := e2
        obtain ⟨v1, v2, f1, f2, rfl, rfl, q1, q2⟩ := ih rfl rfl hl
        exact ⟨_ :: v1, v2, _ :: f1, f2, rfl, rfl, .list h1 q1, q2⟩

theorem LoP.lv {w : World} {O : Value → PTy → List PV → List Nat → Prop} (hO : ∀ v T es f, O v T es f → Lv w [.list T] [.list es] [v] f) {Ts ps vs fs} (h : LoP O Ts ps vs fs) : Lv w Ts ps vs fs.flatten := by
  induction h with
  | nil => exact .nil
  | int h1 _ ih => exact .int h1 ih
  | bool _ ih => exact .bool ih
  | str h1 _ ih => exact .str h1 ih
  | list h1 _ ih => exact (hO _ _ _ _ h1).cons ih

theorem OwnG.lv {w : World} {L : List PTy → List PV → List Value → List Nat → Prop} (hL : ∀ Ts ps vs f, L Ts ps vs f → Lv w Ts ps vs f) {v T es fp} (h : OwnG L w v T es fp) : Lv w [.list T] [.list es] [v] fp := by
  rcases h with ⟨rfl, rfl, a, rfl⟩ | ⟨b, f1, cs, rfl, ⟨⟨o, cap, c, t, fr, rfl, h2, h3, h4, h5, h6, h7⟩, h8, h9⟩, hs, hv⟩
  · exact .empty .nil
  · have := Lv.list (o := o) (cap := cap) h2 hs ⟨h9, h4⟩ (hL _ _ _ _ hv) h7 .nil
    simpa using this

theorem OwnS.lv {w : World} {v T es fp} (h : OwnS w v T es fp) : Lv w [.list T] [.list es] [v] fp := OwnG.lv (fun _ _ _ _ h => h) h
theorem OwnF.lv {w : World} {v T es fp} (h : OwnF w v T es fp) : Lv w [.list T] [.list es] [v] fp := OwnS.lv h.2
theorem Lo.lv {w : World} {Ts ps vs f} (h : Lo w Ts ps vs f) : Lv w Ts ps vs f := by
  obtain ⟨fs, rfl, h⟩ := h
  exact LoP.lv (fun _ _ _ _ h => OwnF.lv h) h
theorem OwnD.lv {w : World} {v T es fp} (h : OwnD w v T es fp) : Lv w [.list T] [.list es] [v] fp := OwnG.lv (fun _ _ _ _ h => h.lv) h
theorem LoD.lv {w : World} {Ts ps vs fs} (h : LoD w Ts ps vs fs) : Lv w Ts ps vs fs.flatten := LoP.lv (fun _ _ _ _ h => OwnD.lv h) h

theorem OwnG.frame {w w' : World} {L L' : List PTy → List PV → List Value → List Nat → Prop} {v T es fp} (h : OwnG L w v T es fp) (hL : ∀ Ts ps vs f, (∀ b ∈ f, b ∈ fp) → L Ts ps vs f → L' Ts ps vs f) (hf : ∀ b ∈ fp, w'.heap[b]? = w.heap[b]?) : OwnG L' w' v T es fp := by
  rcases h with h | ⟨b, f1, cs, rfl, hr, hs, hv⟩
  · exact .inl h
  · exact .inr ⟨b, f1, cs, rfl, hr.frame (hf b (by simp)), hs, hL _ _ _ _ (fun b hb => by simp [hb]) hv⟩

theorem OwnS.frame {w w' : World} {v T es fp} (h : OwnS w v T es fp) (hf : ∀ b ∈ fp, w'.heap[b]? = w.heap[b]?) : OwnS w' v T es fp :=
  OwnG.frame h (fun _ _ _ f hs hv => hv.frame fun b hb => hf b (hs b hb)) hf
theorem OwnF.frame {w w' : World} {v T es fp} (h : OwnF w v T es fp) (hf : ∀ b ∈ fp, w'.heap[b]? = w.heap[b]?) : OwnF w' v T es fp := ⟨h.1, OwnS.frame h.2 hf⟩
theorem Lo.frame {w w' : World} {Ts ps vs f} (h : Lo w Ts ps vs f) (hf : ∀ b ∈ f, w'.heap[b]? = w.heap[b]?) : Lo w' Ts ps vs f := by
  obtain ⟨fs, rfl, h⟩ := h
  exact ⟨fs, rfl, h.mono fun v T es f hm ho => ho.frame fun b hb => hf b (List.mem_flatten.2 ⟨f, hm, hb⟩)⟩
theorem OwnD.frame {w w' : World} {v T es fp} (h : OwnD w v T es fp) (hf : ∀ b ∈ fp, w'.heap[b]? = w.heap[b]?) : OwnD w' v T es fp :=
  OwnG.frame h (fun _ _ _ f hs hv => hv.frame fun b hb => hf b (hs b hb)) hf
theorem LoD.frame {w w' : World} {Ts ps vs fs} (h : LoD w Ts ps vs fs) (hf : ∀ b ∈ fs.flatten, w'.heap[b]? = w.heap[b]?) : LoD w' Ts ps vs fs :=
  h.mono fun v T es f hm ho => ho.frame fun b hb => hf b (List.mem_flatten.2 ⟨f, hm, hb⟩)
theorem OwnC.frame {w w' : World} {k v T es fp} (h : OwnC w k v T es fp) (hf : ∀ b ∈ fp, w'.heap[b]? = w.heap[b]?) : OwnC w' k v T es fp := by
  rcases h with h | ⟨b, f1, c1, c2, rfl, hr, hl, hs, hv⟩
  · exact .inl h
  · exact .inr ⟨b, f1, c1, c2, rfl, hr.frame (hf b (by simp)), hl, hs, hv.frame fun b hb => hf b (by simp [hb])⟩

theorem OwnC.inb {w : World} {k v T es fp} (h : OwnC w k v T es fp) : ∀ b ∈ fp, b < w.heap.size := by
  rcases h with ⟨_, rfl, _⟩ | ⟨b, f1, c1, c2, rfl, hr, hl, hs, hv⟩
  · simp
  · intro c hc
    rcases List.mem_cons.1 hc with rfl | hc
    · exact hr.inb
    · exact hv.lv.inb c hc

/-- What a handle's value is; what lies before and behind a box in its block. -/
structure GV where
  v : Value
  pre : List Value
  post : List Value

mutual
/-- The value that a symbolic value stands for, the handles' values being given. -/
def SV.val (β : Nat → GV) : SV → Value
  | .int k n => .int k n
  | .bool b => .bool b
  | .str l => .string ⟨l.toArray⟩
  | .sl h => (β h).v
  | .ptr h off => match (β h).v with | .pointer (some a) => .pointer (some ⟨a.block, a.off + off, none⟩) | _ => .pointer none
  | .elp h i wd off => match (β h).v with | .slice (some a) _ _ => .pointer (some ⟨a.block, a.off + i * wd + off, none⟩) | .pointer (some a) => .pointer (some ⟨a.block, a.off + i * wd + off, none⟩) | _ => .pointer none
  | .agg xs => .agg (SV.vals β xs).toArray
  | .tup xs => .tuple (SV.vals β xs).toArray
  | .fn f xs => .func (.func f) #[] (SV.vals β xs).toArray
  | .nils => .slice none 0 0
  | .nilp => .pointer none
def SV.vals (β : Nat → GV) : List SV → List Value
  | [] => []
  | x :: xs => SV.val β x :: SV.vals β xs
end

theorem SV.vals_map (β : Nat → GV) (xs : List SV) : SV.vals β xs = xs.map (SV.val β) := by
  induction xs with
  | nil => rfl
  | cons x xs ih => simp [SV.vals, ih]

mutual
/-- The handles are below a number. -/
def SV.lt (n : Nat) : SV → Prop
  | .sl h => h < n
  | .ptr h _ => h < n
  | .elp h _ _ _ => h < n
  | .agg xs => SV.lts n xs
  | .tup xs => SV.lts n xs
  | .fn _ xs => SV.lts n xs
  | _ => True
def SV.lts (n : Nat) : List SV → Prop
  | [] => True
  | x :: xs => SV.lt n x ∧ SV.lts n xs
end

/-- An address that an element pointer starts from. -/
def addrOf : Value → Option (Nat × Nat)
  | .slice (some ⟨b, o, none⟩) _ _ => some (b, o)
  | .pointer (some ⟨b, o, none⟩) => some (b, o)
  | _ => none

mutual
/-- The scalars are in their ranges, the pointers point. -/
def SV.ok (β : Nat → GV) : SV → Prop
  | .int k n => inR k n
  | .str l => l.length ≤ LIM
  | .ptr h _ => ∃ b o, (β h).v = .pointer (some ⟨b, o, none⟩)
  | .elp h _ _ _ => ∃ b o, addrOf (β h).v = some (b, o)
  | .agg xs => SV.oks β xs
  | .tup xs => SV.oks β xs
  | .fn _ xs => SV.oks β xs
  | _ => True
def SV.oks (β : Nat → GV) : List SV → Prop
  | [] => True
  | x :: xs => SV.ok β x ∧ SV.oks β xs
end

theorem val_elp {β : Nat → GV} {h i wd off b o : Nat} (hh : addrOf (β h).v = some (b, o)) : SV.val β (.elp h i wd off) = .pointer (some ⟨b, o + i * wd + off, none⟩) := by
  unfold addrOf at hh
  simp only [SV.val]
  split at hh
  · rename_i e; cases hh; rw [e]
  · rename_i e; cases hh; rw [e]
  · cases hh

theorem SV.lts_iff {n : Nat} {xs : List SV} : SV.lts n xs ↔ ∀ x ∈ xs, SV.lt n x := by
  induction xs with
  | nil => simp [SV.lts]
  | cons x xs ih => simp [SV.lts, ih]
theorem SV.oks_iff {β : Nat → GV} {xs : List SV} : SV.oks β xs ↔ ∀ x ∈ xs, SV.ok β x := by
  induction xs with
  | nil => simp [SV.oks]
  | cons x xs ih => simp [SV.oks, ih]

mutual
theorem SV.val_congr {β β' : Nat → GV} {n : Nat} (h : ∀ k, k < n → β' k = β k) : ∀ x : SV, SV.lt n x → SV.val β' x = SV.val β x
  | .int _ _, _ => rfl
  | .bool _, _ => rfl
  | .str _, _ => rfl
  | .sl i, hx => by simp only [SV.val]; rw [h i hx]
  | .ptr i _, hx => by simp only [SV.val]; rw [h i hx]
  | .elp i _ _ _, hx => by simp only [SV.val]; rw [h i hx]
  | .agg xs, hx => by simp only [SV.val]; rw [SV.vals_congr h xs hx]
  | .tup xs, hx => by simp only [SV.val]; rw [SV.vals_congr h xs hx]
  | .fn f xs, hx => by simp only [SV.val]; rw [SV.vals_congr h xs hx]
  | .nils, _ => rfl
  | .nilp, _ => rfl
theorem SV.vals_congr {β β' : Nat → GV} {n : Nat} (h : ∀ k, k < n → β' k = β k) : ∀ xs : List SV, SV.lts n xs → SV.vals β' xs = SV.vals β xs
  | [], _ => rfl
  | x :: xs, hx => by simp only [SV.vals]; rw [SV.val_congr h x hx.1, SV.vals_congr h xs hx.2]
end

mutual
theorem SV.ok_congr {β β' : Nat → GV} {n : Nat} (h : ∀ k, k < n → β' k = β k) : ∀ x : SV, SV.lt n x → SV.ok β x → SV.ok β' x
  | .int _ _, _, hk => hk
  | .bool _, _, hk => hk
  | .str _, _, hk => hk
  | .sl i, hx, _ => trivial
  | .ptr i _, hx, ⟨b, o, hk⟩ => ⟨b, o, by rw [h i hx]; exact hk⟩
  | .elp i _ _ _, hx, ⟨b, o, hk⟩ => ⟨b, o, by rw [h i hx]; exact hk⟩
  | .agg xs, hx, hk => SV.oks_congr h xs hx hk
  | .tup xs, hx, hk => SV.oks_congr h xs hx hk
  | .fn f xs, hx, hk => SV.oks_congr h xs hx hk
  | .nils, _, _ => trivial
  | .nilp, _, _ => trivial
theorem SV.oks_congr {β β' : Nat → GV} {n : Nat} (h : ∀ k, k < n → β' k = β k) : ∀ xs : List SV, SV.lts n xs → SV.oks β xs → SV.oks β' xs
  | [], _, _ => trivial
  | x :: xs, hx, hk => ⟨SV.ok_congr h x hx.1 hk.1, SV.oks_congr h xs hx.2 hk.2⟩
end

mutual
theorem SV.lt_mono {n m : Nat} (h : n ≤ m) : ∀ x : SV, SV.lt n x → SV.lt m x
  | .int _ _, _ => trivial
  | .bool _, _ => trivial
  | .str _, _ => trivial
  | .sl i, hx => Nat.lt_of_lt_of_le hx h
  | .ptr i _, hx => Nat.lt_of_lt_of_le hx h
  | .elp i _ _ _, hx => Nat.lt_of_lt_of_le hx h
  | .agg xs, hx => SV.lts_mono h xs hx
  | .tup xs, hx => SV.lts_mono h xs hx
  | .fn f xs, hx => SV.lts_mono h xs hx
  | .nils, _ => trivial
  | .nilp, _ => trivial
theorem SV.lts_mono {n m : Nat} (h : n ≤ m) : ∀ xs : List SV, SV.lts n xs → SV.lts m xs
  | [], _ => trivial
  | x :: xs, hx => ⟨SV.lt_mono h x hx.1, SV.lts_mono h xs hx.2⟩
end

theorem lk_set1 {α : Type} (A : List (Nat × α)) (h k : Nat) (x : α) : lk (set1 A h x) k = if h = k then some x else lk A k := by
  induction A with
  | nil => simp [set1, lk]
  | cons a A ih =>
    obtain ⟨i, y⟩ := a
    simp only [set1]
    by_cases hi : i = h
    · subst hi
      simp only [if_true, lk]
      by_cases hk : i = k <;> simp [hk]
    · simp only [hi, if_false, lk]
      by_cases hk : i = k
      · subst hk; simp [Ne.symm hi]
      · simp only [hk, if_false]; exact ih

theorem lk_append {α : Type} (A B : List (Nat × α)) (k : Nat) : lk (A ++ B) k = match lk A k with | some x => some x | none => lk B k := by
  induction A with
  | nil => simp [lk]
  | cons a A ih =>
    obtain ⟨i, y⟩ := a
    simp only [List.cons_append, lk]
    by_cases hk : i = k <;> simp [hk, ih]

theorem lk_strike (hs : List Nat) (A : Hp) (k : Nat) : lk (strike hs A) k = (lk A k).map fun x => if memB hs k then .dead else kill hs x := by
  induction A with
  | nil => rfl
  | cons a A ih =>
    obtain ⟨i, y⟩ := a
    simp only [strike, lk]
    by_cases hk : i = k
    · subst hk; simp
    · simp [hk, ih]

theorem lk_still (hs : List Nat) (A : Hp) (k : Nat) : lk (still hs A) k = (lk A k).map fun x => unpath hs (if memB hs k then stillH x else x) := by
  induction A with
  | nil => rfl
  | cons a A ih =>
    obtain ⟨i, y⟩ := a
    simp only [still, lk]
    by_cases hk : i = k
    · subst hk; simp
    · simp [hk, ih]

theorem memB_iff {hs : List Nat} {k : Nat} : memB hs k = true ↔ k ∈ hs := by
  induction hs with
  | nil => simp [memB]
  | cons x r ih =>
    simp only [memB]
    by_cases h : x = k
    · simp [h]
    · simp [h, ih, Ne.symm h]

theorem anyB_iff {hs rs : List Nat} : anyB hs rs = true ↔ ∃ r ∈ rs, r ∈ hs := by
  induction rs with
  | nil => simp [anyB]
  | cons x r ih =>
    simp only [anyB]
    by_cases h : memB hs x = true
    · simp [h, memB_iff.1 h]
    · simp only [h, Bool.false_eq_true, if_false, ih, List.mem_cons, exists_eq_or_imp]
      constructor
      · exact fun q => .inr q
      · rintro (q | q)
        · exact absurd (memB_iff.2 q) h
        · exact q

theorem ndB_iff {hs : List Nat} : ndB hs = true ↔ hs.Nodup := by
  induction hs with
  | nil => simp [ndB]
  | cons x r ih =>
    simp only [ndB, Bool.and_eq_true, Bool.not_eq_true', List.nodup_cons, ih]
    constructor
    · rintro ⟨h1, h2⟩; exact ⟨fun hm => (by rw [memB_iff.2 hm] at h1; cases h1), h2⟩
    · rintro ⟨h1, h2⟩
      refine ⟨?_, h2⟩
      cases h : memB r x with
      | false => rfl
      | true => exact absurd (memB_iff.1 h) h1

theorem dpAll_iff {A : Hp} {hs : List Nat} : dpAll A hs = true ↔ ∀ h ∈ hs, dpB A h = true := by
  induction hs with
  | nil => simp [dpAll]
  | cons x r ih => simp [dpAll, ih]

theorem dpB_iff {A : Hp} {h : Nat} : dpB A h = true ↔ ∃ T es p, lk A h = some (.arr .dp T es p) := by
  unfold dpB
  split
  · rename_i T es p e; simp [e]
  · rename_i hn
    simp only [Bool.false_eq_true, false_iff]
    rintro ⟨T, es, p, e⟩
    exact hn _ _ _ e

/-- A builder of strings: its block, its row of bytes. -/
def BldAt (T e b : Nat) (l : List UInt8) (w : World) (f : List Nat) : Prop :=
  ∃ p v, (p = .pointer none ∨ p = .pointer (some ⟨b, 0, none⟩)) ∧ w.heap[b]? = some (.cells #[p, v] T (0, 0)) ∧ w.ownsRow 0 e 1 v l.length (l.map fun x => Value.int .u8 x.toNat) ∧ v.ownBlock ≠ some b ∧ f = b :: v.ownBlock.toList

def HLSat (w : World) (g : GV) (β : Nat → GV) (f : List Nat) : HL → Prop
  | .dead => True
  | .bld T e l => ∃ b, g.v = .pointer (some ⟨b, 0, none⟩) ∧ BldAt T e b l w f
  | .box _ _ cs => ∃ b t', g.v = .pointer (some ⟨b, g.pre.length, none⟩) ∧ f = [b] ∧ w.heap[b]? = some (.cells (g.pre ++ SV.vals β cs ++ g.post).toArray t' (0, 0))
  | .arr (.vw _) T es _ => Lv w [.list T] [.list es] [g.v] f
  | .arr .sh T es _ => OwnS w g.v T es f
  | .arr .dp T es _ => OwnD w g.v T es f
  | .arr (.cs k) T es _ => OwnC w k g.v T es f
  | .abx _ T es => flatB T = true ∧ (∀ e ∈ es, Shp T e) ∧ ∃ b t' c, g.v = .pointer (some ⟨b, 0, none⟩) ∧ f = [b] ∧ w.heap[b]? = some (.cells c t' (0, 0)) ∧ Lv w (flatT T es.length) (flatP es) c.toList []

/-- The blocks that a handle alone may change. -/
def owned (f : List Nat) : HL → List Nat
  | .box true _ _ => f
  | .bld _ _ _ => f
  | .abx true _ _ => f
  | .arr .dp _ _ _ => f
  | .arr (.cs _) _ _ _ => f
  | .arr .sh _ _ _ => f.take 1
  | _ => []

/-- A footprint names no block twice. -/
def ndOk (f : List Nat) : HL → Prop
  | .arr .dp _ _ _ => f.Nodup
  | .arr (.cs _) _ _ _ => f.Nodup
  | .arr .sh _ _ _ => ∀ b r, f = b :: r → b ∉ r
  | _ => True

/-- A slice's handle. -/
def isL : HL → Prop | .arr _ _ _ _ => True | _ => False
/-- A slice's handle, or what may be changed behind a pointer. -/
def isA : HL → Prop | .arr _ _ _ _ => True | .box true _ _ => True | .abx true _ _ => True | .bld _ _ _ => True | _ => False

theorem isL.isA {hl : HL} (h : isL hl) : isA hl := by cases hl <;> first | trivial | exact h.elim

/-- What a view hangs on. -/
def roots : HL → List Nat
  | .arr (.vw rs) _ _ _ => rs
  | _ => []

/-- The cell at an index behind a slice's address. -/
def cellIs (w : World) (v : Value) (i : Nat) (u : Value) : Prop := ∃ b o c t fr, addrOf v = some (b, o) ∧ w.heap[b]? = some (.cells c t fr) ∧ c[o + i]? = some u

/-- A slice is a part of another. -/
def subV (v v' : Value) (lo n wd : Nat) : Prop := ∃ ad l cap, v = .slice ad l cap ∧ v' = .slice (if cap = lo then ad else ad.map fun x => x.add (lo * wd)) n (cap - lo)

/-- A view's path leads where it says. -/
def PthOk (A : Hp) (β : Nat → GV) (w : World) (g : GV) (rs : List Nat) (T : PTy) (es : List PV) : Pth → Prop
  | .no => True
  | .el r i j => r ∈ rs ∧ ∃ T' es' p, lk A r = some (.arr .dp T' es' p) ∧ i < es'.length ∧ T'.leaves[j]? = some (.list T) ∧ (es'.getD i PV.d).leaves[j]? = some (.list es) ∧ cellIs w (β r).v (i * T'.wd + j) g.v
  | .sub r lo => r ∈ rs ∧ ∃ es' p, (lk A r = some (.arr .dp T es' p) ∨ lk A r = some (.arr .sh T es' p)) ∧ lo + es.length ≤ es'.length ∧ es = (es'.drop lo).take es.length ∧ subV (β r).v g.v lo es.length T.wd

def pathOk (A : Hp) (β : Nat → GV) (w : World) (g : GV) : HL → Prop
  | .arr (.vw rs) T es p => PthOk A β w g rs T es p
  | _ => True

structure Holds (B : Nat) (X F : List Nat) (A : Hp) (β : Nat → GV) (ϕ : Nat → List Nat) (w : World) : Prop where
  pl : ∀ h, (β h).v.oneCell' = true
  sat : ∀ h hl, lk A h = some hl → HLSat w (β h) β (ϕ h) hl
  own : ∀ h hl, lk A h = some hl → ∀ b ∈ owned (ϕ h) hl, b ∈ X ∨ B ≤ b
  all : ∀ h hl, lk A h = some hl → isA hl → ∀ b ∈ ϕ h, b ∈ F ∨ B ≤ b
  nd : ∀ h hl, lk A h = some hl → ndOk (ϕ h) hl
  dj : ∀ h h' hl hl', lk A h = some hl → lk A h' = some hl' → h ≠ h' → h ∉ roots hl' → hl' ≠ .dead → ∀ b ∈ owned (ϕ h) hl, b ∉ ϕ h'
  pt : ∀ h hl, lk A h = some hl → pathOk A β w (β h) hl
  rt : ∀ h hl, lk A h = some hl → ∀ r ∈ roots hl, ∀ o t cs, lk A r ≠ some (.box o t cs)

/-- What has not been lent may not have turned. -/
structure Fr (w0 : World) (X : List Nat) (w : World) : Prop where
  os : w.os = w0.os
  tape : w.tape = w0.tape
  output : w.output = w0.output
  size : w0.heap.size ≤ w.heap.size
  block : ∀ b, b < w0.heap.size → b ∉ X → w.heap[b]? = w0.heap[b]?

theorem Fr.refl (w : World) (X : List Nat) : Fr w X w := ⟨rfl, rfl, rfl, Nat.le_refl _, fun _ _ _ => rfl⟩
theorem Fr.trans {a b c : World} {X Y Z : List Nat} (h : Fr a X b) (k : Fr b Y c) (hX : ∀ x ∈ X, x ∈ Z) (hY : ∀ x ∈ Y, x ∈ Z ∨ a.heap.size ≤ x) : Fr a Z c := by
  refine ⟨k.os.trans h.os, k.tape.trans h.tape, k.output.trans h.output, Nat.le_trans h.size k.size, fun i hi hn => ?_⟩
  rw [k.block i (Nat.lt_of_lt_of_le hi h.size) (fun hm => by rcases hY i hm with q | q; exact hn q; omega), h.block i hi (fun hm => hn (hX i hm))]

theorem Fr.below {w0 w : World} (h : Fr w0 [] w) : Go.RowKit.Below w0.heap.size w0 w := ⟨h.os, h.tape, h.output, h.size, fun k hk => h.block k hk (by simp)⟩

def HL.ltOk (n : Nat) (β : Nat → GV) : HL → Prop
  | .box _ _ cs => SV.lts n cs ∧ SV.oks β cs
  | .arr (.vw rs) _ _ _ => ∀ r ∈ rs, r < n
  | _ => True

/-- A symbolic state holds of a frame and a world. -/
structure Sat (N : Nat) (w0 : World) (X F : List Nat) (S : St) (β : Nat → GV) (ϕ : Nat → List Nat) (a : Act) (w : World) : Prop where
  df : a.defers = []
  sz : a.tmps.size = N
  lp : ∀ t v, lk S.Lp t = some v → a.tmps[t]? = some (SV.val β v) ∧ SV.lt S.n v ∧ SV.ok β v
  lt : ∀ t g v, lk S.Lt t = some (g, v) → (g = true → SV.lt S.n v) ∧ (g = true → a.tmps[t]? = some (SV.val β v) ∧ SV.ok β v) ∧ (g = false → a.tmps[t]? = some undef)
  hp : Holds w0.heap.size X F S.A β ϕ w
  hb : ∀ h hl, lk S.A h = some hl → h < S.n ∧ hl.ltOk S.n β
  fr : Fr w0 X w

end Go.Proofs.Ytmjjdfhpnckacab
