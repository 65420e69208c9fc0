/-
  The contracts of the functions on views.
  Conditions: none.
-/
import Derived.Test.YtdbkjmigdabifaaDoorFe
namespace Go.Proofs.YtdbkjmigdabifaaDoor
set_option maxRecDepth 100000
set_option linter.unusedSimpArgs false

/-- What is left behind some sizes. -/
def szG (f : PV → Int) (l : Int) : List PV → Int
  | [] => l
  | e :: es => if l - f e < 0 then -1 else szG f (l - f e) es
theorem szG_le {f : PV → Int} (hf : ∀ e, 0 ≤ f e) : ∀ {es : List PV} {l : Int}, 0 ≤ l → szG f l es ≤ l ∧ -1 ≤ szG f l es
  | [], l, h => ⟨Int.le_refl _, by simp [szG]; omega⟩
  | e :: es, l, h => by
    have := hf e
    simp only [szG]
    split
    · exact ⟨by omega, by omega⟩
    · have := szG_le hf (es := es) (l := l - f e) (by omega)
      omega
def szGs (f : PV → Int) (es : List PV) (l : Int) : Int := if l - es.length < 0 then -1 else szG f (l - es.length) es
theorem szGs_le {f : PV → Int} (hf : ∀ e, 0 ≤ f e) {es : List PV} {l : Int} (h : 0 ≤ l) : szGs f es l ≤ l ∧ -1 ≤ szGs f es l ∧ (0 ≤ szGs f es l → (es.length : Int) ≤ l) := by
  unfold szGs
  split
  · omega
  · have := szG_le hf (es := es) (l := l - es.length) (by omega)
    omega

def szR1 (l n : Int) : Int := if l - n < 0 then -1 else l - n
def rowLen (e : PV) : Int := (nth e.A 1).S.length
theorem rowLen_nn (e : PV) : 0 ≤ rowLen e := by unfold rowLen; omega

def c_szRow : FSpec := ⟨[(.rd, .agg [.int .i64, .str]), (.rd, .int .i64)], [.int .i64], true, fun ps => 0 ≤ (nth ps 1).I, fun ps => [.int .i64 (szR1 (nth ps 1).I (nth (nth ps 0).A 1).S.length)], fun _ => []⟩
def c_szRowS : FSpec := ⟨[(.rd, .list (.agg [.int .i64, .str])), (.rd, .int .i64)], [.int .i64], true, fun ps => 0 ≤ (nth ps 1).I, fun ps => [.int .i64 (szGs rowLen (nth ps 0).L (nth ps 1).I)], fun _ => []⟩
def c_szView : FSpec := ⟨[(.rd, .agg [.int .i64, .int .i64, .bool, .int .i64, .int .i64, .list (.agg [.int .i64, .str])]), (.rd, .int .i64)], [.int .i64], true, fun ps => 0 ≤ (nth ps 1).I, fun ps => [.int .i64 (szGs rowLen (nth (nth ps 0).A 5).L (nth ps 1).I)], fun _ => []⟩
def c_toRow : FSpec := ⟨[(.rd, .agg [.int .i64, .str])], [.agg [.int .i64, .str]], true, fun _ => True, fun ps => [nth ps 0], fun _ => []⟩
theorem row_eta {e : PV} (h : ∃ qs, e = .agg qs ∧ ∃ p r, qs = p :: r ∧ (∃ n, p = .int .i64 n ∧ inR .i64 n) ∧ ∃ p r', r = p :: r' ∧ (∃ l, p = .str l ∧ l.length ≤ LIM) ∧ r' = []) : PV.agg [.int .i64 (nth e.A 0).I, .str (nth e.A 1).S] = e := by
  obtain ⟨_, rfl, _, _, rfl, ⟨n, rfl, _⟩, _, _, rfl, ⟨l, rfl, _⟩, rfl⟩ := h
  rfl

def c_toRowS : FSpec := ⟨[(.rd, .list (.agg [.int .i64, .str]))], [.list (.agg [.int .i64, .str])], true, fun ps => (nth ps 0).L.length ≤ 1048576, fun ps => [.list (nth ps 0).L], fun _ => []⟩
def c_toView : FSpec := ⟨[(.rd, .agg [.int .i64, .int .i64, .bool, .int .i64, .int .i64, .list (.agg [.int .i64, .str])])], [.agg [.int .i64, .int .i64, .bool, .int .i64, .int .i64, .list (.agg [.int .i64, .str])]], true, fun ps => (nth (nth ps 0).A 5).L.length ≤ 1048576, fun ps => [nth ps 0], fun _ => []⟩
def eqRow1 (a b : List PV) : Bool := (nth a 0).I == (nth b 0).I && (nth a 1).S == (nth b 1).S
def eqRow2 (a b : PV) : Bool := eqRow1 a.A b.A
theorem eqRow2_refl (a : PV) : eqRow2 a a = true := by simp [eqRow2, eqRow1]
def c_eqRow : FSpec := ⟨[(.rd, .agg [.int .i64, .str]), (.rd, .agg [.int .i64, .str])], [.bool], true, fun _ => True, fun ps => [.bool (eqRow1 (nth ps 0).A (nth ps 1).A)], fun _ => []⟩
def c_eqRowS : FSpec := ⟨[(.rd, .list (.agg [.int .i64, .str])), (.rd, .list (.agg [.int .i64, .str]))], [.bool], true, fun _ => True, fun ps => [.bool (eqL eqRow2 (nth ps 0).L (nth ps 1).L)], fun _ => []⟩
def eqVw (a b : List PV) : Bool := (nth a 0).I == (nth b 0).I && (nth a 1).I == (nth b 1).I && (nth a 2).B == (nth b 2).B && (nth a 3).I == (nth b 3).I && (nth a 4).I == (nth b 4).I && eqL eqRow2 (nth a 5).L (nth b 5).L
def c_eqView : FSpec := ⟨[(.rd, .agg [.int .i64, .int .i64, .bool, .int .i64, .int .i64, .list (.agg [.int .i64, .str])]), (.rd, .agg [.int .i64, .int .i64, .bool, .int .i64, .int .i64, .list (.agg [.int .i64, .str])])], [.bool], true, fun _ => True, fun ps => [.bool (eqVw (nth ps 0).A (nth ps 1).A)], fun _ => []⟩
/-- Rows that rise, each of all its cells. -/
def upB (w h : Int) (p : Int) : List PV → Bool
  | [] => true
  | e :: es => inB (nth e.A 0).I 0 (h - 1) && decide (p < (nth e.A 0).I) && rowB (nth e.A 1).S w && upB w h (nth e.A 0).I es
def leB (a b : Int) : Bool := decide (a ≤ b)
def selB (c a b : Bool) : Bool := (c && a) || (!c && b)
def viewB (v : List PV) : Bool :=
  inB (nth v 0).I 0 60 && sizeB (nth v 3).I (nth v 4).I && leB (nth v 5).L.length (nth v 4).I && upB (nth v 3).I (nth v 4).I (-1) (nth v 5).L &&
    selB (nth v 2).B ((nth v 1).I == 0 && ((nth v 5).L.length : Int) == (nth v 4).I) (inB (nth v 1).I 0 ((nth v 0).I - 1))
/-- The row ahead of place i. -/
def pvY (es : List PV) (i : Nat) : Int := if i = 0 then -1 else (nth (nth es (i - 1)).A 0).I

theorem view_no {n f w h : Int} {u : Bool} {es : List PV} (h2 : (inB n 0 60 = false ∨ sizeB w h = false) ∨ h < es.length) : viewB [.int .i64 n, .int .i64 f, .bool u, .int .i64 w, .int .i64 h, .list es] = false := by
  simp only [viewB, nth_zero, nth_succ, pv_I, pv_L]
  rcases h2 with (h2 | h2) | h2
  · simp [h2]
  · simp [h2]
  · have : ¬ (es.length : Int) ≤ h := by omega
    simp [this, leB]
theorem view_eq {n f w h : Int} {u : Bool} {es : List PV} (h2 : inB n 0 60 = true) (h3 : sizeB w h = true) (h4 : (es.length : Int) ≤ h) : (2 ≤ w ∧ w ≤ 24 ∧ 2 ≤ h ∧ h ≤ 10) ∧
    viewB [.int .i64 n, .int .i64 f, .bool u, .int .i64 w, .int .i64 h, .list es] = (upB w h (-1) es && selB u (f == 0 && (es.length : Int) == h) (inB f 0 (n - 1))) := by
  refine ⟨by simp [sizeB, inB] at h3; omega, ?_⟩
  simp [viewB, nth_zero, nth_succ, pv_I, pv_L, pv_B, h2, h3, h4, leB]
theorem pvY_succ (es : List PV) (i : Nat) : pvY es (i + 1) = (nth (nth es i).A 0).I := by simp [pvY]
theorem pvY_pos {es : List PV} {i : Nat} (h : 0 < i) : pvY es i = (nth (nth es (i - 1)).A 0).I := by rw [pvY, if_neg (by omega)]
theorem pvY_lt {es : List PV} {i : Nat} {y h : Int} (h1 : inB y 0 h = true) (h2 : 0 < i → (nth (nth es (i - 1)).A 0).I < y) : pvY es i < y := by
  by_cases h0 : 0 < i
  · rw [pvY_pos h0]; exact h2 h0
  · have : pvY es i = -1 := by rw [pvY, if_pos (by omega)]
    rw [this]
    simp [inB] at h1; omega

def c_isView : FSpec := ⟨[(.rd, .agg [.int .i64, .int .i64, .bool, .int .i64, .int .i64, .list (.agg [.int .i64, .str])])], [.bool], true, fun _ => True, fun ps => [.bool (viewB (nth ps 0).A)], fun _ => []⟩
def c_iViewOK : FSpec := c_isView
end Go.Proofs.YtdbkjmigdabifaaDoor
