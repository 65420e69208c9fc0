/-
  The contracts of the functions that apply a view to a mirror.
  Conditions: none.
-/
import Derived.Test.YtdbkjmigdabifaaDoorFi
namespace Go.Proofs.YtdbkjmigdabifaaDoor
set_option maxRecDepth 100000
set_option linter.unusedSimpArgs false

/-- A mirror. -/
structure MR where
  n : Int
  w : Int
  h : Int
  r : List PV
def MR.pv (m : MR) : PV := .agg [.int .i64 m.n, .int .i64 m.w, .int .i64 m.h, .list m.r]
def MR.no : MR := ⟨0, 0, 0, []⟩
def MR.ls (m : MR) : List PV := [.int .i64 m.n, .int .i64 m.w, .int .i64 m.h, .list m.r]
def VW.ls (v : VW) : List PV := [.int .i64 v.n, .int .i64 v.f, .bool v.u, .int .i64 v.w, .int .i64 v.h, .list v.r]

def putRow (out : List PV) (e : PV) : List PV := out.set (nth e.A 0).I.toNat (.str (nth e.A 1).S)
def putRows (out : List PV) (es : List PV) : List PV := es.foldl putRow out
theorem putRows_snoc {out es : List PV} {i : Nat} (h : i < es.length) : putRows out (es.take (i + 1)) = (putRows out (es.take i)).set (nth (nth es i).A 0).I.toNat (.str (nth (nth es i).A 1).S) := by
  rw [take_nth h, putRows, List.foldl_append]; rfl
theorem putRows_len : ∀ (es out : List PV), (putRows out es).length = out.length
  | [], out => rfl
  | e :: es, out => by
    have := putRows_len es (putRow out e)
    simp only [putRows, List.foldl_cons] at this ⊢
    rw [this, putRow, List.length_set]

theorem up_get {w h : Int} : ∀ {es : List PV} {p : Int}, upB w h p es = true → ∀ i, i < es.length → 0 ≤ (nth (nth es i).A 0).I ∧ (nth (nth es i).A 0).I < h
  | [], p, hu, i, hi => by simp at hi
  | e :: es, p, hu, 0, hi => by
    simp only [upB, Bool.and_eq_true, inB, decide_eq_true_eq] at hu
    rw [nth_zero]; omega
  | e :: es, p, hu, i + 1, hi => by
    simp only [upB, Bool.and_eq_true] at hu
    rw [nth_succ]
    exact up_get hu.2 i (by simpa using hi)
theorem up_len {w h : Int} : ∀ {es : List PV} {p : Int}, upB w h p es = true → p ≤ h - 1 → p + es.length ≤ h - 1
  | [], p, hu, hp => by simp; omega
  | e :: es, p, hu, hp => by
    simp only [upB, Bool.and_eq_true, inB, decide_eq_true_eq] at hu
    have := up_len hu.2 (by omega)
    simp only [List.length_cons]
    omega
/-- Rows that are all there. -/
theorem up_full {w h : Int} : ∀ {es : List PV} {p : Int}, upB w h p es = true → p ≤ h - 1 → p + es.length = h - 1 → ∀ i, i < es.length → (nth (nth es i).A 0).I = p + 1 + i
  | [], p, hu, hp, hl, i, hi => by simp at hi
  | e :: es, p, hu, hp, hl, i, hi => by
    have h0 := hu
    simp only [upB, Bool.and_eq_true, inB, decide_eq_true_eq] at hu
    have h1 := up_len hu.2 (by omega)
    simp only [List.length_cons] at hl hi
    have h2 : (nth e.A 0).I = p + 1 := by omega
    cases i with
    | zero => rw [nth_zero, h2]; simp
    | succ i =>
      rw [nth_succ, up_full hu.2 (by omega) (by omega) i (by omega), h2]; omega
theorem put_full {es out : List PV} (h : ∀ i, i < es.length → (nth (nth es i).A 0).I = i) (hl : out.length = es.length) : ∀ i, i ≤ es.length → (putRows out (es.take i)).take i = (es.take i).map fun e => .str (nth e.A 1).S
  | 0, _ => by simp
  | i + 1, hi => by
    have ih := put_full h hl i (by omega)
    rw [putRows_snoc (by omega), h i (by omega), Int.toNat_natCast, take_nth (by rw [List.length_set, putRows_len]; omega), List.take_set_of_le (Nat.le_refl _), ih, nth_set (by rw [putRows_len]; omega), take_nth (show i < es.length by omega), List.map_append]
    rfl

def acceptOf (m : MR) (v : VW) : MR × Int :=
  if v.n ≤ m.n then (m, 15) else cond v.u (⟨v.n, v.w, v.h, putRows (List.replicate v.h.toNat (.str [])) v.r⟩, 0)
    (if (v.f ≠ m.n ∨ v.w ≠ m.w) ∨ v.h ≠ m.h then (m, 19) else (⟨v.n, m.w, m.h, putRows m.r v.r⟩, 0))
theorem acc_a {m : MR} {v : VW} (h : v.n ≤ m.n) : acceptOf m v = (m, 15) := if_pos h
theorem acc_b {m : MR} {v : VW} (h : m.n < v.n) (hu : v.u = true) : acceptOf m v = (⟨v.n, v.w, v.h, putRows (List.replicate v.h.toNat (.str [])) v.r⟩, 0) := by
  rw [acceptOf, if_neg (by omega), hu]; rfl
theorem acc_c {m : MR} {v : VW} (h : m.n < v.n) (hu : v.u = false) (hd : (v.f ≠ m.n ∨ v.w ≠ m.w) ∨ v.h ≠ m.h) : acceptOf m v = (m, 19) := by
  rw [acceptOf, if_neg (by omega), hu, cond_false, if_pos hd]
theorem acc_d {m : MR} {v : VW} (h : m.n < v.n) (hu : v.u = false) (h1 : v.f = m.n) (h2 : v.w = m.w) (h3 : v.h = m.h) : acceptOf m v = (⟨v.n, m.w, m.h, putRows m.r v.r⟩, 0) := by
  rw [acceptOf, if_neg (by omega), hu, cond_false, if_neg (by simp [h1, h2, h3])]

/-- What a valid mirror and a valid view tell. -/
theorem mv_facts {n w h n' f w' h' : Int} {u : Bool} {rs es : List PV} (hm : mirB [.int .i64 n, .int .i64 w, .int .i64 h, .list rs] = true) (hv : viewB [.int .i64 n', .int .i64 f, .bool u, .int .i64 w', .int .i64 h', .list es] = true) :
    (0 ≤ n' ∧ n' ≤ 60 ∧ 2 ≤ w' ∧ w' ≤ 24 ∧ 2 ≤ h' ∧ h' ≤ 10 ∧ (es.length : Int) ≤ h') ∧ upB w' h' (-1) es = true ∧ (u = true → (es.length : Int) = h') ∧ (h' = h → (rs.length : Int) = h) ∧ rs.length ≤ 10 := by
  have e1 : inB n' 0 60 = true ∧ sizeB w' h' = true ∧ leB es.length h' = true ∧ upB w' h' (-1) es = true ∧ selB u (f == 0 && (es.length : Int) == h') (inB f 0 (n' - 1)) = true := by
    simpa [viewB, nth_zero, nth_succ, pv_I, pv_L, pv_B, and_assoc] using hv
  obtain ⟨h1, h2, h4, h5, h6⟩ := e1
  simp only [inB, sizeB, leB, Bool.and_eq_true, decide_eq_true_eq] at h1 h2 h4
  refine ⟨by omega, h5, fun hu => ?_, fun hh => ?_, ?_⟩
  · subst hu; simp [selB] at h6; exact h6.2
  · subst hh
    by_cases hn : n = -1
    · simp [mirB, nth_zero, nth_succ, pv_I, pv_L, hn] at hm; omega
    · simp [mirB, nth_zero, nth_succ, pv_I, pv_L, hn] at hm
      exact rowsB_len' hm.2
  · by_cases hn : n = -1
    · simp [mirB, nth_zero, nth_succ, pv_I, pv_L, hn] at hm; simp [hm.2]
    · simp [mirB, nth_zero, nth_succ, pv_I, pv_L, hn] at hm
      have := rowsB_len' hm.2
      have h7 := hm.1.2
      simp [sizeB, inB] at h7
      omega

def c_CloneS : FSpec := ⟨[(.rd, .list .str)], [.list .str], true, fun ps => (nth ps 0).L.length ≤ 1048576, fun ps => [.list (nth ps 0).L], fun _ => []⟩
def c_accepted : FSpec := ⟨[(.rd, .agg [.int .i64, .int .i64, .int .i64, .list .str]), (.rd, .agg [.int .i64, .int .i64, .bool, .int .i64, .int .i64, .list (.agg [.int .i64, .str])])], [.agg [.int .i64, .int .i64, .int .i64, .list .str], .int .i64], true, fun ps => mirB (nth ps 0).A = true ∧ viewB (nth ps 1).A = true,
  fun ps => [(acceptOf ⟨(nth (nth ps 0).A 0).I, (nth (nth ps 0).A 1).I, (nth (nth ps 0).A 2).I, (nth (nth ps 0).A 3).L⟩ ⟨(nth (nth ps 1).A 0).I, (nth (nth ps 1).A 1).I, (nth (nth ps 1).A 2).B, (nth (nth ps 1).A 3).I, (nth (nth ps 1).A 4).I, (nth (nth ps 1).A 5).L⟩).1.pv,
    .int .i64 (acceptOf ⟨(nth (nth ps 0).A 0).I, (nth (nth ps 0).A 1).I, (nth (nth ps 0).A 2).I, (nth (nth ps 0).A 3).L⟩ ⟨(nth (nth ps 1).A 0).I, (nth (nth ps 1).A 1).I, (nth (nth ps 1).A 2).B, (nth (nth ps 1).A 3).I, (nth (nth ps 1).A 4).I, (nth (nth ps 1).A 5).L⟩).2], fun _ => []⟩
def acceptAll (m : MR) (v : VW) : MR × Int := if mirB m.ls = false ∨ viewB v.ls = false then (MR.no, 1) else acceptOf m v
theorem accAll_a {m : MR} {v : VW} (h : mirB m.ls = false ∨ viewB v.ls = false) : acceptAll m v = (MR.no, 1) := if_pos h
theorem accAll_b {m : MR} {v : VW} (h : mirB m.ls = true) (h' : viewB v.ls = true) : acceptAll m v = acceptOf m v := if_neg (by simp [h, h'])

def c_iAcceptView : FSpec := ⟨[(.rd, .agg [.int .i64, .int .i64, .int .i64, .list .str]), (.rd, .agg [.int .i64, .int .i64, .bool, .int .i64, .int .i64, .list (.agg [.int .i64, .str])])], [.agg [.int .i64, .int .i64, .int .i64, .list .str], .int .i64], true, fun _ => True,
  fun ps => [(acceptAll ⟨(nth (nth ps 0).A 0).I, (nth (nth ps 0).A 1).I, (nth (nth ps 0).A 2).I, (nth (nth ps 0).A 3).L⟩ ⟨(nth (nth ps 1).A 0).I, (nth (nth ps 1).A 1).I, (nth (nth ps 1).A 2).B, (nth (nth ps 1).A 3).I, (nth (nth ps 1).A 4).I, (nth (nth ps 1).A 5).L⟩).1.pv,
    .int .i64 (acceptAll ⟨(nth (nth ps 0).A 0).I, (nth (nth ps 0).A 1).I, (nth (nth ps 0).A 2).I, (nth (nth ps 0).A 3).L⟩ ⟨(nth (nth ps 1).A 0).I, (nth (nth ps 1).A 1).I, (nth (nth ps 1).A 2).B, (nth (nth ps 1).A 3).I, (nth (nth ps 1).A 4).I, (nth (nth ps 1).A 5).L⟩).2], fun _ => []⟩
def c_l11Own : FSpec := ⟨[(.rd, .agg [.int .i64, .int .i64, .int .i64, .list .str])], [.agg [.int .i64, .int .i64, .int .i64, .list .str]], true, fun ps => (nth (nth ps 0).A 3).L.length ≤ 1048576, fun ps => [nth ps 0], fun _ => []⟩
theorem put_all {w h : Int} {es : List PV} (hu : upB w h (-1) es = true) (hl : (es.length : Int) = h) : putRows (List.replicate h.toNat (.str [])) es = es.map fun e => .str (nth e.A 1).S := by
  have h1 := up_full hu (by omega) (by omega)
  have h2 := put_full (out := List.replicate h.toNat (.str [])) (fun i hi => by rw [h1 i hi]; omega) (by simp; omega) es.length (Nat.le_refl _)
  rwa [List.take_of_length_le (Nat.le_refl _), List.take_of_length_le (by rw [putRows_len]; simp; omega)] at h2

def c_l11Accept : FSpec := { c_accepted with fresh := false }
theorem acc_len {m : MR} {v : VW} (hm : mirB m.ls = true) (hv : viewB v.ls = true) : (acceptOf m v).1.r.length ≤ 10 := by
  obtain ⟨g1, g2, g3, g4, g5⟩ := mv_facts hm hv
  unfold acceptOf
  split
  · exact g5
  · cases v.u
    · rw [cond_false]
      split
      · exact g5
      · show (putRows m.r v.r).length ≤ 10
        rw [putRows_len]; exact g5
    · show (putRows (List.replicate v.h.toNat (.str [])) v.r).length ≤ 10
      rw [putRows_len]; simp; omega
theorem accAll_len (m : MR) (v : VW) : (acceptAll m v).1.r.length ≤ 10 := by
  by_cases h : mirB m.ls = false ∨ viewB v.ls = false
  · rw [accAll_a h]; simp [MR.no]
  · have h1 : mirB m.ls = true := by cases h2 : mirB m.ls with | true => rfl | false => exact absurd (.inl h2) h
    have h3 : viewB v.ls = true := by cases h2 : viewB v.ls with | true => rfl | false => exact absurd (.inr h2) h
    rw [accAll_b h1 h3]; exact acc_len h1 h3

def c_sAcceptView : FSpec := c_iAcceptView
theorem eqMir_refl (v : List PV) : eqMir v v = true := by simp [eqMir, eqS_refl]

def c_exAcceptView : FSpec := ⟨[(.rd, .agg [.int .i64, .int .i64, .int .i64, .list .str]), (.rd, .agg [.int .i64, .int .i64, .bool, .int .i64, .int .i64, .list (.agg [.int .i64, .str])])], [.bool], true, fun _ => True, fun _ => [.bool true], fun _ => []⟩
end Go.Proofs.YtdbkjmigdabifaaDoor
