/-
  The contracts of the laws on whole views and differences of views.
  Conditions: none.
-/
import Derived.Test.YtdbkjmigdabifaaDoorFg
import Derived.Test.YtdbkjmigdabifaaDoorFh
namespace Go.Proofs.YtdbkjmigdabifaaDoor
set_option maxRecDepth 100000
set_option linter.unusedSimpArgs false

theorem szStr_len {es : List PV} {l : Int} (h : 0 ≤ l) (h1 : 0 ≤ szStr es l) : (es.length : Int) ≤ l := (szStr_le h).2.2 h1
theorem eqS_refl (es : List PV) : eqL (fun x y => x.S == y.S) es es = true := eqL_refl fun _ => by simp

theorem fullOf_len (n w h : Int) (es : List PV) : (fullOf n w h es).1.r.length ≤ es.length := by
  unfold fullOf
  split
  · simp [VW.no]
  · split
    · simp [VW.no]
    · split
      · simp [VW.no]
      · simp [fullGo_len]

def c_exFullView : FSpec := ⟨[(.rd, .int .i64), (.rd, .int .i64), (.rd, .int .i64), (.rd, .list .str)], [.bool], true, fun _ => True, fun _ => [.bool true], fun _ => []⟩
/-- The rows that differ. -/
def diffGo (i : Nat) : List PV → List PV → List PV
  | x :: xs, y :: ys => cond (x.S == y.S) (diffGo (i + 1) xs ys) (.agg [.int .i64 i, .str y.S] :: diffGo (i + 1) xs ys)
  | _, _ => []
theorem diffGo_len : ∀ (xs ys : List PV) (i : Nat), (diffGo i xs ys).length ≤ ys.length
  | [], ys, i => by simp [diffGo]
  | x :: xs, [], i => by simp [diffGo]
  | x :: xs, y :: ys, i => by
    have := diffGo_len xs ys (i + 1)
    simp only [diffGo]
    cases x.S == y.S
    · simp; omega
    · simp; omega
theorem diffGo_take : ∀ (xs ys : List PV) (i k : Nat), k < xs.length → k < ys.length → diffGo i (xs.take (k + 1)) (ys.take (k + 1)) = diffGo i (xs.take k) (ys.take k) ++ (cond ((nth xs k).S == (nth ys k).S) [] [.agg [.int .i64 (i + k : Nat), .str (nth ys k).S]])
  | [], _, _, _, h, _ => by simp at h
  | _ :: _, [], _, _, _, h => by simp at h
  | x :: xs, y :: ys, i, 0, _, _ => by
    simp only [List.take_succ_cons, List.take_zero, diffGo, nth_zero, List.nil_append, Nat.add_zero]
  | x :: xs, y :: ys, i, k + 1, h1, h2 => by
    have := diffGo_take xs ys (i + 1) k (by simpa using h1) (by simpa using h2)
    simp only [List.take_succ_cons, diffGo, nth_succ] at this ⊢
    rw [this, show i + 1 + k = i + (k + 1) by omega]
    cases x.S == y.S
    · rfl
    · rfl
theorem diffGo_eq {xs ys : List PV} {i k : Nat} (h1 : k < xs.length) (h2 : k < ys.length) (h : (nth xs k).S = (nth ys k).S) : diffGo i (xs.take (k + 1)) (ys.take (k + 1)) = diffGo i (xs.take k) (ys.take k) := by
  rw [diffGo_take _ _ _ _ h1 h2, h, beq_self_eq_true, cond_true, List.append_nil]
theorem diffGo_ne {xs ys : List PV} {k : Nat} (h1 : k < xs.length) (h2 : k < ys.length) (h : ¬ (nth xs k).S = (nth ys k).S) : diffGo 0 (xs.take (k + 1)) (ys.take (k + 1)) = diffGo 0 (xs.take k) (ys.take k) ++ [.agg [.int .i64 k, .str (nth ys k).S]] := by
  rw [diffGo_take _ _ _ _ h1 h2, beq_false_of_ne h, cond_false, Nat.zero_add]

def c_diffView : FSpec := ⟨[(.rd, .int .i64), (.rd, .int .i64), (.rd, .int .i64), (.rd, .int .i64), (.rd, .list .str), (.rd, .list .str)], [.agg [.int .i64, .int .i64, .bool, .int .i64, .int .i64, .list (.agg [.int .i64, .str])]], true, fun ps => (nth ps 4).L.length = (nth ps 5).L.length ∧ (nth ps 5).L.length ≤ 1048576,
  fun ps => [.agg [.int .i64 (nth ps 1).I, .int .i64 (nth ps 0).I, .bool false, .int .i64 (nth ps 2).I, .int .i64 (nth ps 3).I, .list (diffGo 0 (nth ps 4).L (nth ps 5).L)]], fun _ => []⟩
def diffOf (f n w h : Int) (os es : List PV) : VW × Int :=
  if 4096 < (os.length : Int) ∨ 4096 < (es.length : Int) then (VW.no, 2) else if (inB n 0 60 = false ∨ sizeB w h = false) ∨ inB f 0 (n - 1) = false then (VW.no, 4) else if rowsB os w h = false ∨ rowsB es w h = false then (VW.no, 1) else (⟨n, f, false, w, h, diffGo 0 os es⟩, 0)
theorem diff_a {f n w h : Int} {os es : List PV} (h1 : 4096 < (os.length : Int) ∨ 4096 < (es.length : Int)) : diffOf f n w h os es = (VW.no, 2) := if_pos h1
theorem diff_b {f n w h : Int} {os es : List PV} (h1 : (os.length : Int) ≤ 4096) (h2 : (es.length : Int) ≤ 4096) (h3 : (inB n 0 60 = false ∨ sizeB w h = false) ∨ inB f 0 (n - 1) = false) : diffOf f n w h os es = (VW.no, 4) := by
  rw [diffOf, if_neg (by omega), if_pos h3]
theorem diff_c {f n w h : Int} {os es : List PV} (h1 : (os.length : Int) ≤ 4096) (h2 : (es.length : Int) ≤ 4096) (h3 : inB n 0 60 = true) (h4 : sizeB w h = true) (h5 : inB f 0 (n - 1) = true) (h6 : rowsB os w h = false ∨ rowsB es w h = false) : diffOf f n w h os es = (VW.no, 1) := by
  rw [diffOf, if_neg (by omega), if_neg (by simp [h3, h4, h5]), if_pos h6]
theorem diff_d {f n w h : Int} {os es : List PV} (h1 : (os.length : Int) ≤ 4096) (h2 : (es.length : Int) ≤ 4096) (h3 : inB n 0 60 = true) (h4 : sizeB w h = true) (h5 : inB f 0 (n - 1) = true) (h6 : rowsB os w h = true) (h7 : rowsB es w h = true) : diffOf f n w h os es = (⟨n, f, false, w, h, diffGo 0 os es⟩, 0) := by
  rw [diffOf, if_neg (by omega), if_neg (by simp [h3, h4, h5]), if_neg (by simp [h6, h7])]

def c_iDiffView : FSpec := ⟨[(.rd, .int .i64), (.rd, .int .i64), (.rd, .int .i64), (.rd, .int .i64), (.rd, .list .str), (.rd, .list .str)], [.agg [.int .i64, .int .i64, .bool, .int .i64, .int .i64, .list (.agg [.int .i64, .str])], .int .i64], true, fun _ => True,
  fun ps => [(diffOf (nth ps 0).I (nth ps 1).I (nth ps 2).I (nth ps 3).I (nth ps 4).L (nth ps 5).L).1.pv, .int .i64 (diffOf (nth ps 0).I (nth ps 1).I (nth ps 2).I (nth ps 3).I (nth ps 4).L (nth ps 5).L).2], fun _ => []⟩
def c_sDiffView : FSpec := c_iDiffView
theorem diffOf_len (f n w h : Int) (os es : List PV) : (diffOf f n w h os es).1.r.length ≤ es.length := by
  unfold diffOf
  split
  · simp [VW.no]
  · split
    · simp [VW.no]
    · split
      · simp [VW.no]
      · exact diffGo_len _ _ _

def c_exDiffView : FSpec := ⟨[(.rd, .int .i64), (.rd, .int .i64), (.rd, .int .i64), (.rd, .int .i64), (.rd, .list .str), (.rd, .list .str)], [.bool], true, fun _ => True, fun _ => [.bool true], fun _ => []⟩
end Go.Proofs.YtdbkjmigdabifaaDoor
