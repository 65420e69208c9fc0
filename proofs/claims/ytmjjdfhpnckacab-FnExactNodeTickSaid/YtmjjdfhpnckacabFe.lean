/-
  The contracts of the law on mirrors.
  Conditions: none.
-/
import Derived.Test.YtmjjdfhpnckacabFd
namespace Go.Proofs.Ytmjjdfhpnckacab
set_option maxRecDepth 100000
set_option linter.unusedSimpArgs false

theorem szGo_le : ∀ {es : List PV} {l : Int}, 0 ≤ l → szGo l es ≤ l ∧ (-1 ≤ szGo l es)
  | [], l, h => ⟨Int.le_refl _, by simp [szGo]; omega⟩
  | e :: es, l, h => by
    simp only [szGo]
    split
    · exact ⟨by omega, by omega⟩
    · have := szGo_le (es := es) (l := l - e.S.length) (by omega)
      omega
theorem szStr_le {es : List PV} {l : Int} (h : 0 ≤ l) : szStr es l ≤ l ∧ -1 ≤ szStr es l ∧ (0 ≤ szStr es l → (es.length : Int) ≤ l) := by
  unfold szStr
  split
  · omega
  · have := szGo_le (es := es) (l := l - es.length) (by omega)
    omega

theorem eqL_refl {f : PV → PV → Bool} (hf : ∀ x, f x x = true) : ∀ {es : List PV}, eqL f es es = true
  | [] => rfl
  | e :: es => by simp [eqL, hf, eqL_refl hf (es := es)]

def c_szMirror : FSpec := ⟨[(.rd, .agg [.int .i64, .int .i64, .int .i64, .list .str]), (.rd, .int .i64)], [.int .i64], true, fun ps => 0 ≤ (nth ps 1).I, fun ps => [.int .i64 (szStr (nth (nth ps 0).A 3).L (nth ps 1).I)], fun _ => []⟩
def c_toMirror : FSpec := ⟨[(.rd, .agg [.int .i64, .int .i64, .int .i64, .list .str])], [.agg [.int .i64, .int .i64, .int .i64, .list .str]], true, fun ps => (nth (nth ps 0).A 3).L.length ≤ 1048576, fun ps => [nth ps 0], fun _ => []⟩
def eqMir (a b : List PV) : Bool := (nth a 0).I == (nth b 0).I && (nth a 1).I == (nth b 1).I && (nth a 2).I == (nth b 2).I && eqL (fun x y => x.S == y.S) (nth a 3).L (nth b 3).L
def c_eqMirror : FSpec := ⟨[(.rd, .agg [.int .i64, .int .i64, .int .i64, .list .str]), (.rd, .agg [.int .i64, .int .i64, .int .i64, .list .str])], [.bool], true, fun _ => True, fun ps => [.bool (eqMir (nth ps 0).A (nth ps 1).A)], fun _ => []⟩
def c_exMirrorOK : FSpec := ⟨[(.rd, .agg [.int .i64, .int .i64, .int .i64, .list .str])], [.bool], true, fun _ => True, fun _ => [.bool true], fun _ => []⟩
end Go.Proofs.Ytmjjdfhpnckacab
