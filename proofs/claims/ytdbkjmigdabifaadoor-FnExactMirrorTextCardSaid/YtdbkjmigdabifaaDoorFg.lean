/-
  The contracts of the functions on views: the reference; whole views and differences.
  Conditions: none.
-/
import Derived.Test.YtdbkjmigdabifaaDoorFf
namespace Go.Proofs.YtdbkjmigdabifaaDoor
set_option maxRecDepth 100000
set_option linter.unusedSimpArgs false

def c_sViewOK : FSpec := c_isView
theorem eqRows_refl (es : List PV) : eqL eqRow2 es es = true := eqL_refl eqRow2_refl
theorem eqVw_refl (v : List PV) : eqVw v v = true := by simp [eqVw, eqRows_refl]

def c_exViewOK : FSpec := ⟨[(.rd, .agg [.int .i64, .int .i64, .bool, .int .i64, .int .i64, .list (.agg [.int .i64, .str])])], [.bool], true, fun _ => True, fun _ => [.bool true], fun _ => []⟩
def fullGo (i : Nat) : List PV → List PV
  | [] => []
  | e :: es => .agg [.int .i64 i, .str e.S] :: fullGo (i + 1) es
theorem fullGo_len : ∀ (es : List PV) (i : Nat), (fullGo i es).length = es.length
  | [], _ => rfl
  | e :: es, i => by simp [fullGo, fullGo_len es]
theorem fullGo_snoc (x : PV) : ∀ (es : List PV) (i : Nat), fullGo i (es ++ [x]) = fullGo i es ++ [.agg [.int .i64 (i + es.length : Nat), .str x.S]]
  | [], i => by simp [fullGo]
  | e :: es, i => by simp [fullGo, fullGo_snoc x es]; omega

def c_fullView : FSpec := ⟨[(.rd, .int .i64), (.rd, .int .i64), (.rd, .int .i64), (.rd, .list .str)], [.agg [.int .i64, .int .i64, .bool, .int .i64, .int .i64, .list (.agg [.int .i64, .str])]], true, fun ps => (nth ps 3).L.length ≤ 1048576, fun ps => [.agg [.int .i64 (nth ps 0).I, .int .i64 0, .bool true, .int .i64 (nth ps 1).I, .int .i64 (nth ps 2).I, .list (fullGo 0 (nth ps 3).L)]], fun _ => []⟩
def c_l11Full : FSpec := { c_fullView with pre := fun ps => (nth ps 3).L.length ≤ 1048576 ∧ ((nth ps 3).L.length : Int) = (nth ps 2).I }
/-- A view. -/
structure VW where
  n : Int
  f : Int
  u : Bool
  w : Int
  h : Int
  r : List PV
def VW.pv (v : VW) : PV := .agg [.int .i64 v.n, .int .i64 v.f, .bool v.u, .int .i64 v.w, .int .i64 v.h, .list v.r]
def VW.no : VW := ⟨0, 0, false, 0, 0, []⟩
def fullOf (n w h : Int) (es : List PV) : VW × Int :=
  if 4096 < (es.length : Int) then (VW.no, 2) else if inB n 0 60 = false ∨ sizeB w h = false then (VW.no, 4) else if rowsB es w h = false then (VW.no, 1) else (⟨n, 0, true, w, h, fullGo 0 es⟩, 0)
theorem rowsB_len' {es : List PV} {w h : Int} (hl : rowsB es w h = true) : (es.length : Int) = h := by simp [rowsB] at hl; exact hl.1
theorem not_or_ff {a b : Bool} (ha : a = true) (hb : b = true) : ¬ (a = false ∨ b = false) := by subst ha; subst hb; simp

def c_iFullView : FSpec := ⟨[(.rd, .int .i64), (.rd, .int .i64), (.rd, .int .i64), (.rd, .list .str)], [.agg [.int .i64, .int .i64, .bool, .int .i64, .int .i64, .list (.agg [.int .i64, .str])], .int .i64], true, fun _ => True,
  fun ps => [(fullOf (nth ps 0).I (nth ps 1).I (nth ps 2).I (nth ps 3).L).1.pv, .int .i64 (fullOf (nth ps 0).I (nth ps 1).I (nth ps 2).I (nth ps 3).L).2], fun _ => []⟩
def c_sFullView : FSpec := c_iFullView
end Go.Proofs.YtdbkjmigdabifaaDoor
