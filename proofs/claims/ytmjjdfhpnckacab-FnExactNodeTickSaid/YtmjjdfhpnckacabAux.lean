/-
  Normal forms for the evaluation of conditions.
  Conditions: none.
-/
import Derived.Test.YtmjjdfhpnckacabMain
namespace Go.Proofs.Ytmjjdfhpnckacab

def nth (es : List PV) (i : Nat) : PV := es.getD i PV.d
theorem nth_fold (es : List PV) (i : Nat) : es.getD i PV.d = nth es i := rfl
theorem nth_zero (a : PV) (l : List PV) : nth (a :: l) 0 = a := rfl
theorem nth_succ (a : PV) (l : List PV) (n : Nat) : nth (a :: l) (n + 1) = nth l n := rfl
theorem pv_I (k : IntKind) (n : Int) : (PV.int k n).I = n := rfl
theorem pv_B (n : Bool) : (PV.bool n).B = n := rfl
theorem pv_S (n : List UInt8) : (PV.str n).S = n := rfl
theorem pv_L (n : List PV) : (PV.list n).L = n := rfl
theorem pv_A (n : List PV) : (PV.agg n).A = n := rfl
theorem pv_at (p : PV) (i : Nat) : p.at i = nth p.A i := rfl
theorem lv_int (k : IntKind) (n : Int) : (PV.int k n).leaves = [.int k n] := rfl
theorem lv_bool (n : Bool) : (PV.bool n).leaves = [.bool n] := rfl
theorem lv_str (n : List UInt8) : (PV.str n).leaves = [.str n] := rfl
theorem lv_list (n : List PV) : (PV.list n).leaves = [.list n] := rfl
theorem lv_agg (n : List PV) : (PV.agg n).leaves = n := rfl

theorem nth_eq {es : List PV} {i : Nat} (h : i < es.length) : nth es i = es[i] := by simp [nth, h]
theorem nth_mem {es : List PV} {i : Nat} (h : i < es.length) : nth es i ∈ es := by rw [nth_eq h]; exact List.getElem_mem h
theorem drop_nth {es : List PV} {i : Nat} (h : i < es.length) : es.drop i = nth es i :: es.drop (i + 1) := by
  rw [nth_eq h]; exact (List.drop_eq_getElem_cons h)
theorem take_nth {es : List PV} {i : Nat} (h : i < es.length) : es.take (i + 1) = es.take i ++ [nth es i] := by
  rw [nth_eq h]; exact List.take_succ_eq_append_getElem h
theorem nth_map {α : Type} (f : α → PV) (l : List α) (i : Nat) (h : i < l.length) : nth (l.map f) i = f l[i] := by simp [nth, h]

theorem wrap64 {n : Int} (h : -9223372036854775808 ≤ n ∧ n ≤ 9223372036854775807) : IntKind.i64.wrap n = n := by
  simp [IntKind.wrap, IntKind.signed, IntKind.bits]; omega

theorem inR64 {n : Int} : inR .i64 n ↔ -9223372036854775808 ≤ n ∧ n ≤ 9223372036854775807 := by
  simp [inR, IntKind.min, IntKind.max, IntKind.signed, IntKind.bits]
theorem limN : LIM = 140737488355328 := rfl

end Go.Proofs.Ytmjjdfhpnckacab
