/-
  The contracts of the functions on rows of strings.
  Conditions: none.
-/
import Derived.Test.YtmjjdfhpnckacabFa
namespace Go.Proofs.Ytmjjdfhpnckacab
set_option maxRecDepth 100000
set_option linter.unusedSimpArgs false

def szGo (l : Int) : List PV → Int
  | [] => l
  | e :: es => if l - e.S.length < 0 then -1 else szGo (l - e.S.length) es
def szStr (es : List PV) (l : Int) : Int := if l - es.length < 0 then -1 else szGo (l - es.length) es

def c_szStringS : FSpec := ⟨[(.rd, .list .str), (.rd, .int .i64)], [.int .i64], true, fun ps => 0 ≤ (nth ps 1).I, fun ps => [.int .i64 (szStr (nth ps 0).L (nth ps 1).I)], fun _ => []⟩
theorem set_take {out es : List PV} {i : Nat} {x : PV} (h1 : out.take i = es.take i) (h2 : out.length = es.length) (h3 : i < es.length) (h4 : x = nth es i) : (out.set i x).take (i + 1) = es.take (i + 1) := by
  rw [take_nth h3, ← h1, take_nth (by simp; omega), List.take_set_of_le (Nat.le_refl _), nth_eq (by simp; omega), List.getElem_set_self, h4]

def c_toStringS : FSpec := ⟨[(.rd, .list .str)], [.list .str], true, fun ps => (nth ps 0).L.length ≤ 1048576, fun ps => [.list (nth ps 0).L], fun _ => []⟩
/-- Two rows are the same by their elements. -/
def eqL (f : PV → PV → Bool) : List PV → List PV → Bool
  | [], [] => true
  | a :: l, b :: m => f a b && eqL f l m
  | _, _ => false
theorem eqL_len {f : PV → PV → Bool} : ∀ {a b : List PV}, a.length ≠ b.length → eqL f a b = false
  | [], [], h => absurd rfl h
  | [], _ :: _, _ => rfl
  | _ :: _, [], _ => rfl
  | x :: a, y :: b, h => by simp only [eqL, eqL_len (a := a) (b := b) (by simpa using h), Bool.and_false]

def c_eqStringS : FSpec := ⟨[(.rd, .list .str), (.rd, .list .str)], [.bool], true, fun _ => True, fun ps => [.bool (eqL (fun x y => x.S == y.S) (nth ps 0).L (nth ps 1).L)], fun _ => []⟩
end Go.Proofs.Ytmjjdfhpnckacab
